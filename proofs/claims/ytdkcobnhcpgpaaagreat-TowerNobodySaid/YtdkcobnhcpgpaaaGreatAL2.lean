/-
  The layer AL, part 2: parts of abstract values, and the cells that they are.
-/
import Derived.Test.YtdkcobnhcpgpaaaGreatAL1
namespace Go.AL
open Go

namespace AV
def parts : AV → List AV
  | .agg _ ps | .vec _ ps => ps
  | _ => []
def partOff : AV → Nat → Nat
  | .agg _ ps, i => ((ps.take i).map csize).sum
  | .vec sz _, i => i * sz
  | _, _ => 0
def at_ : AV → List Nat → AV
  | a, [] => a
  | a, i :: r => (a.parts.getD i .undef).at_ r
def offAt : AV → List Nat → Nat
  | _, [] => 0
  | a, i :: r => a.partOff i + (a.parts.getD i .undef).offAt r
def okPath : AV → List Nat → Prop
  | _, [] => True
  | a, i :: r => i < a.parts.length ∧ (a.parts.getD i .undef).okPath r
def setPart : AV → Nat → AV → AV
  | .agg n ps, i, u => .agg n (ps.set i u)
  | .vec sz ps, i, u => .vec sz (ps.set i u)
  | a, _, _ => a
def setAt : AV → List Nat → AV → AV
  | _, [], u => u
  | a, i :: r, u => a.setPart i ((a.parts.getD i .undef).setAt r u)
end AV

def splice (cs : List Value) (off : Nat) (new : List Value) : List Value := cs.take off ++ new ++ cs.drop (off + new.length)

theorem splice_length {cs : List Value} {off : Nat} {new : List Value} (h : off + new.length ≤ cs.length) : (splice cs off new).length = cs.length := by
  simp [splice]; omega

theorem splice_get {cs : List Value} {off : Nat} {new : List Value} (h : off + new.length ≤ cs.length) (j : Nat) :
    (splice cs off new)[j]? = if j < off then cs[j]? else if j < off + new.length then new[j - off]? else cs[j]? := by
  unfold splice
  by_cases h1 : j < off
  · rw [if_pos h1, List.append_assoc, List.getElem?_append_left (by simp; omega), List.getElem?_take_of_lt h1]
  · rw [if_neg h1]
    have hl : (cs.take off).length = off := by simp; omega
    by_cases h2 : j < off + new.length
    · rw [if_pos h2, List.getElem?_append_left (by simp; omega), List.getElem?_append_right (by omega), hl]
    · rw [if_neg h2, List.getElem?_append_right (by simp; omega), List.getElem?_drop]
      congr 1
      simp only [List.length_append, hl]
      omega

theorem splice_splice {cs : List Value} {o1 m o2 : Nat} {new : List Value} (h1 : o1 + m ≤ cs.length) (h2 : o2 + new.length ≤ m) :
    splice cs o1 (splice ((cs.drop o1).take m) o2 new) = splice cs (o1 + o2) new := by
  have hl : ((cs.drop o1).take m).length = m := by simp; omega
  have hl2 : (splice ((cs.drop o1).take m) o2 new).length = m := by rw [splice_length (by omega), hl]
  apply List.ext_getElem?
  intro j
  rw [splice_get (cs := cs) (off := o1) (by omega), splice_get (cs := cs) (off := o1 + o2) (by omega)]
  by_cases a1 : j < o1
  · rw [if_pos a1, if_pos (by omega)]
  · rw [if_neg a1, hl2]
    by_cases a2 : j < o1 + m
    · rw [if_pos a2, splice_get (by omega)]
      by_cases a3 : j < o1 + o2
      · rw [if_pos (by omega), if_pos a3, List.getElem?_take_of_lt (by omega), List.getElem?_drop]
        congr 1; omega
      · rw [if_neg (by omega), if_neg a3]
        by_cases a4 : j < o1 + o2 + new.length
        · rw [if_pos (by omega), if_pos a4]; congr 1; omega
        · rw [if_neg (by omega), if_neg a4, List.getElem?_take_of_lt (by omega), List.getElem?_drop]
          congr 1; omega
    · rw [if_neg a2, if_neg (by omega), if_neg (by omega)]

theorem RowAt.sub {w : World} {b o : Nat} {cs : List Value} (h : RowAt w b o cs) (k m : Nat) : RowAt w b (o + k) ((cs.drop k).take m) := by
  intro j v hj
  rcases Nat.lt_or_ge j m with hm | hm
  · rw [List.getElem?_take_of_lt hm, List.getElem?_drop] at hj
    have := h (k + j) v hj
    rwa [← Nat.add_assoc] at this
  · rw [List.getElem?_eq_none (by simp; omega)] at hj; cases hj

theorem RowAt.append {w : World} {b o : Nat} {cs ds : List Value} (h : RowAt w b o cs) (k : RowAt w b (o + cs.length) ds) : RowAt w b o (cs ++ ds) := by
  intro j v hj
  rcases Nat.lt_or_ge j cs.length with hm | hm
  · rw [List.getElem?_append_left hm] at hj; exact h j v hj
  · rw [List.getElem?_append_right hm] at hj
    have := k _ v hj
    rwa [Nat.add_assoc, Nat.add_sub_cancel' hm] at this

section
variable {g : G} {w : World}

theorem R.seq_part : ∀ {ps : List AV} {cs : List Value} {i : Nat}, R g w (.seq ps cs) → i < ps.length →
    R g w (.one (ps.getD i .undef) ((cs.drop ((ps.take i).map AV.csize).sum).take (ps.getD i .undef).csize)) ∧
      ((ps.take i).map AV.csize).sum + (ps.getD i .undef).csize ≤ cs.length
  | [], _, _, _, hi => absurd hi (by simp)
  | p :: ps, _, i, h, hi => by
    cases h with
    | @seqCons _ _ cs ds h1 h2 =>
      have hl := h1.length
      cases i with
      | zero => simp only [List.getD_cons_zero, List.take_zero, List.map_nil, List.sum_nil, List.drop_zero, ← hl, List.take_left]; exact ⟨h1, by simp⟩
      | succ i =>
        obtain ⟨k1, k2⟩ := R.seq_part h2 (i := i) (by simpa using hi)
        simp only [List.getD_cons_succ, List.take_succ_cons, List.map_cons, List.sum_cons, ← hl]
        rw [List.drop_append, List.drop_eq_nil_of_le (by omega), List.nil_append, Nat.add_sub_cancel_left]
        refine ⟨k1, ?_⟩
        rw [List.length_append]; omega

theorem R.useq_part {sz : Nat} : ∀ {ps : List AV} {cs : List Value} {i : Nat}, R g w (.useq sz ps cs) → i < ps.length →
    R g w (.one (ps.getD i .undef) ((cs.drop (i * sz)).take sz)) ∧ (ps.getD i .undef).csize = sz ∧ i * sz + sz ≤ cs.length
  | [], _, _, _, hi => absurd hi (by simp)
  | p :: ps, _, i, h, hi => by
    cases h with
    | @useqCons _ _ _ cs ds h1 hs h2 =>
      have hl := h1.length
      cases i with
      | zero => simp only [List.getD_cons_zero, Nat.zero_mul, List.drop_zero, ← hs, List.take_left]; exact ⟨h1, by omega, by simp⟩
      | succ i =>
        obtain ⟨k1, k2, k3⟩ := R.useq_part h2 (i := i) (by simpa using hi)
        simp only [List.getD_cons_succ]
        have e : (i + 1) * sz = cs.length + i * sz := by rw [hs, Nat.add_mul]; omega
        rw [e, List.drop_append, List.drop_eq_nil_of_le (by omega), List.nil_append, Nat.add_sub_cancel_left]
        refine ⟨k1, k2, ?_⟩
        simp; omega

theorem R.part {a : AV} {cs : List Value} {i : Nat} (h : R g w (.one a cs)) (hi : i < a.parts.length) :
    R g w (.one (a.parts.getD i .undef) ((cs.drop (a.partOff i)).take (a.parts.getD i .undef).csize)) ∧ a.partOff i + (a.parts.getD i .undef).csize ≤ cs.length := by
  cases h with
  | agg h1 h2 => exact h1.seq_part hi
  | vec h1 =>
    obtain ⟨k1, k2, k3⟩ := h1.useq_part hi
    simp only [AV.parts, AV.partOff]
    rw [k2]; exact ⟨k1, k3⟩
  | _ => simp [AV.parts] at hi

theorem R.at_ : ∀ {path : List Nat} {a : AV} {cs : List Value}, R g w (.one a cs) → a.okPath path →
    R g w (.one (a.at_ path) ((cs.drop (a.offAt path)).take (a.at_ path).csize)) ∧ a.offAt path + (a.at_ path).csize ≤ cs.length
  | [], a, cs, h, _ => by
    have hl := h.length
    simp only [AV.at_, AV.offAt, List.drop_zero, ← hl, List.take_length]
    exact ⟨h, by omega⟩
  | i :: r, a, cs, h, hp => by
    obtain ⟨h1, h2⟩ := hp
    obtain ⟨k1, k2⟩ := h.part h1
    obtain ⟨m1, m2⟩ := R.at_ k1 h2
    simp only [AV.at_, AV.offAt]
    have hl : ((cs.drop (a.partOff i)).take (a.parts.getD i .undef).csize).length = (a.parts.getD i .undef).csize := by rw [List.length_take, List.length_drop]; omega
    rw [hl] at m2
    refine ⟨?_, by omega⟩
    rw [List.drop_take, List.drop_drop, List.take_take, Nat.min_eq_left (by omega)] at m1
    exact m1

theorem R.seq_set : ∀ {ps : List AV} {cs : List Value} {i : Nat} {u : AV} {ucs : List Value}, R g w (.seq ps cs) → i < ps.length → R g w (.one u ucs) → u.csize = (ps.getD i .undef).csize →
    R g w (.seq (ps.set i u) (splice cs ((ps.take i).map AV.csize).sum ucs))
  | [], _, _, _, _, _, hi, _, _ => absurd hi (by simp)
  | p :: ps, _, i, u, ucs, h, hi, hu, hs => by
    cases h with
    | @seqCons _ _ cs ds h1 h2 =>
      have hl := h1.length
      have hul := hu.length
      cases i with
      | zero =>
        simp only [List.set_cons_zero, List.take_zero, List.map_nil, List.sum_nil, splice, List.nil_append, Nat.zero_add]
        simp only [List.getD_cons_zero] at hs
        rw [show ucs.length = cs.length by omega, List.drop_left]
        exact .seqCons hu h2
      | succ i =>
        have k2 := (R.seq_part h2 (i := i) (by simpa using hi)).2
        have ih := R.seq_set h2 (i := i) (by simpa using hi) hu (by simpa using hs)
        simp only [List.set_cons_succ, List.take_succ_cons, List.map_cons, List.sum_cons, ← hl]
        have e : splice (cs ++ ds) (cs.length + ((ps.take i).map AV.csize).sum) ucs = cs ++ splice ds ((ps.take i).map AV.csize).sum ucs := by
          simp only [splice]
          rw [List.take_append, List.take_of_length_le (by omega), Nat.add_sub_cancel_left, List.drop_append, List.drop_eq_nil_of_le (by omega), List.nil_append]
          rw [show cs.length + ((ps.take i).map AV.csize).sum + ucs.length - cs.length = ((ps.take i).map AV.csize).sum + ucs.length by omega]
          simp [List.append_assoc]
        rw [e]
        exact .seqCons h1 ih

theorem R.useq_set {sz : Nat} : ∀ {ps : List AV} {cs : List Value} {i : Nat} {u : AV} {ucs : List Value}, R g w (.useq sz ps cs) → i < ps.length → R g w (.one u ucs) → u.csize = sz →
    R g w (.useq sz (ps.set i u) (splice cs (i * sz) ucs))
  | [], _, _, _, _, _, hi, _, _ => absurd hi (by simp)
  | p :: ps, _, i, u, ucs, h, hi, hu, hs => by
    cases h with
    | @useqCons _ _ _ cs ds h1 hz h2 =>
      have hul := hu.length
      cases i with
      | zero =>
        simp only [List.set_cons_zero, Nat.zero_mul, splice, List.take_zero, List.nil_append, Nat.zero_add]
        rw [show ucs.length = cs.length by omega, List.drop_left]
        exact .useqCons hu (by omega) h2
      | succ i =>
        have k3 := (R.useq_part h2 (i := i) (by simpa using hi)).2.2
        have ih := R.useq_set h2 (i := i) (by simpa using hi) hu hs
        have e0 : (i + 1) * sz = cs.length + i * sz := by rw [hz, Nat.add_mul]; omega
        have e : splice (cs ++ ds) ((i + 1) * sz) ucs = cs ++ splice ds (i * sz) ucs := by
          simp only [splice, e0]
          rw [List.take_append, List.take_of_length_le (by omega), Nat.add_sub_cancel_left, List.drop_append, List.drop_eq_nil_of_le (by omega), List.nil_append]
          rw [show cs.length + i * sz + ucs.length - cs.length = i * sz + ucs.length by omega]
          simp [List.append_assoc]
        simp only [List.set_cons_succ]
        rw [e]
        exact .useqCons h1 hz ih

theorem splice_len {cs new : List Value} {off : Nat} (h : off + new.length ≤ cs.length) : (splice cs off new).length = cs.length := splice_length h

theorem R.setPart {a u : AV} {cs ucs : List Value} {i : Nat} (h : R g w (.one a cs)) (hi : i < a.parts.length) (hu : R g w (.one u ucs)) (hs : u.csize = (a.parts.getD i .undef).csize) :
    R g w (.one (a.setPart i u) (splice cs (a.partOff i) ucs)) ∧ (a.setPart i u).csize = a.csize ∧ (a.setPart i u).isAgg = a.isAgg := by
  have hp := (h.part hi).2
  have hul := hu.length
  cases h with
  | agg h1 h2 =>
    refine ⟨.agg (h1.seq_set hi hu hs) ?_, rfl, rfl⟩
    rw [splice_len, h2]
    simpa [AV.partOff, hul, hs] using hp
  | vec h1 =>
    have hsz := (h1.useq_part hi).2.1
    exact ⟨.vec (h1.useq_set hi hu (by rw [hs]; exact hsz)), by simp [AV.setPart, AV.csize], rfl⟩
  | _ => simp [AV.parts] at hi

theorem R.setAt : ∀ {path : List Nat} {a u : AV} {cs ucs : List Value}, R g w (.one a cs) → a.okPath path → R g w (.one u ucs) → u.csize = (a.at_ path).csize →
    R g w (.one (a.setAt path u) (splice cs (a.offAt path) ucs)) ∧ (a.setAt path u).csize = a.csize
  | [], a, u, cs, ucs, h, _, hu, hs => by
    have h1 := h.length
    have h2 := hu.length
    simp only [AV.at_] at hs
    simp only [AV.setAt, AV.offAt, splice, List.take_zero, List.nil_append, Nat.zero_add]
    rw [List.drop_eq_nil_of_le (by omega), List.append_nil]
    exact ⟨hu, hs⟩
  | i :: r, a, u, cs, ucs, h, hp, hu, hs => by
    obtain ⟨h1, h2⟩ := hp
    obtain ⟨k1, k2⟩ := h.part h1
    have hat := (R.at_ k1 h2).2
    have hl : ((cs.drop (a.partOff i)).take (a.parts.getD i .undef).csize).length = (a.parts.getD i .undef).csize := by rw [List.length_take, List.length_drop]; omega
    rw [hl] at hat
    obtain ⟨m1, m2⟩ := R.setAt k1 h2 hu hs
    obtain ⟨n1, n2, _⟩ := h.setPart h1 m1 m2
    simp only [AV.setAt, AV.offAt]
    have hul := hu.length
    simp only [AV.at_] at hs
    rw [splice_splice (by omega) (by omega)] at n1
    exact ⟨n1, n2⟩

/-! ### elements in memory -/
theorem R.mem_get {sz : Nat} : ∀ {L : List AV} {b o i : Nat}, R g w (.mem sz L b o) → i < L.length →
    ∃ cs, R g w (.one (L.getD i .undef) cs) ∧ cs.length = sz ∧ RowAt w b (o + i * sz) cs ∧ o + i * sz + sz ≤ g.imm b
  | [], _, _, _, _, hi => absurd hi (by simp)
  | p :: ps, b, o, i, h, hi => by
    cases h with
    | memCons h1 h2 h3 h4 h5 =>
      cases i with
      | zero => exact ⟨_, by simpa using h1, h2, by simpa using h3, by simpa using h4⟩
      | succ i =>
        obtain ⟨cs, k1, k2, k3, k4⟩ := R.mem_get h5 (i := i) (by simpa using hi)
        have e : o + (i + 1) * sz = o + sz + i * sz := by rw [Nat.add_mul]; omega
        exact ⟨cs, by simpa using k1, k2, by rw [e]; exact k3, by omega⟩

theorem R.mem_drop {sz : Nat} : ∀ {L : List AV} {b o : Nat} (k : Nat), R g w (.mem sz L b o) → k ≤ L.length → R g w (.mem sz (L.drop k) b (o + k * sz))
  | L, b, o, 0, h, _ => by simpa using h
  | [], _, _, k + 1, _, hk => absurd hk (by simp)
  | p :: ps, b, o, k + 1, h, hk => by
    cases h with
    | memCons h1 h2 h3 h4 h5 =>
      have := R.mem_drop k h5 (by simpa using hk)
      rw [show o + (k + 1) * sz = o + sz + k * sz by rw [Nat.add_mul]; omega]
      simpa using this

theorem R.mem_take {sz : Nat} : ∀ {L : List AV} {b o : Nat} (k : Nat), R g w (.mem sz L b o) → R g w (.mem sz (L.take k) b o)
  | _, _, _, 0, _ => by simpa using .memNil
  | [], _, _, k + 1, _ => by simpa using .memNil
  | p :: ps, b, o, k + 1, h => by
    cases h with
    | memCons h1 h2 h3 h4 h5 => exact .memCons h1 h2 h3 h4 (R.mem_take k h5)

theorem R.mem_append {sz : Nat} : ∀ {L M : List AV} {b o : Nat}, R g w (.mem sz L b o) → R g w (.mem sz M b (o + L.length * sz)) → R g w (.mem sz (L ++ M) b o)
  | [], M, b, o, _, k => by simpa using k
  | p :: ps, M, b, o, h, k => by
    cases h with
    | memCons h1 h2 h3 h4 h5 =>
      refine .memCons h1 h2 h3 h4 (R.mem_append h5 ?_)
      rw [show o + sz + ps.length * sz = o + (p :: ps).length * sz by simp [Nat.add_mul]; omega]
      exact k

theorem R.mem_cells {sz : Nat} : ∀ {L : List AV} {b o : Nat}, R g w (.mem sz L b o) → ∃ cs, R g w (.useq sz L cs) ∧ RowAt w b o cs ∧ (L = [] ∨ o + cs.length ≤ g.imm b)
  | [], b, o, _ => ⟨[], .useqNil, fun j v h => by simp at h, .inl rfl⟩
  | p :: ps, b, o, h => by
    cases h with
    | memCons h1 h2 h3 h4 h5 =>
      obtain ⟨cs, k1, k2, k3⟩ := R.mem_cells h5
      refine ⟨_, .useqCons h1 h2 k1, h3.append (by rw [h2]; exact k2), .inr ?_⟩
      rcases k3 with rfl | k3
      · cases k1; simp; omega
      · simp; omega

theorem R.mem_of {sz : Nat} : ∀ {L : List AV} {b o : Nat} {cs : List Value}, R g w (.useq sz L cs) → RowAt w b o cs → o + cs.length ≤ g.imm b → R g w (.mem sz L b o)
  | [], _, _, _, _, _, _ => .memNil
  | p :: ps, b, o, _, h, hr, hi => by
    cases h with
    | @useqCons _ _ _ cs ds h1 h2 h3 =>
      have hs := hr.sub 0 cs.length
      simp at hs
      have hd := hr.sub cs.length ds.length
      simp at hd
      simp at hi
      exact .memCons h1 h2 hs (by omega) (R.mem_of h3 (by rw [← h2]; exact hd) (by omega))

theorem R.useq_append {sz : Nat} : ∀ {L M : List AV} {cs ds : List Value}, R g w (.useq sz L cs) → R g w (.useq sz M ds) → R g w (.useq sz (L ++ M) (cs ++ ds))
  | [], _, _, _, h, k => by cases h; simpa using k
  | p :: ps, M, _, ds, h, k => by
    cases h with
    | useqCons h1 h2 h3 => rw [List.append_assoc]; exact .useqCons h1 h2 (R.useq_append h3 k)
end
end Go.AL

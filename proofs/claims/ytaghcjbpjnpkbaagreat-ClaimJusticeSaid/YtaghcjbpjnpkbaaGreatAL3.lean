/-
  The layer AL, part 1: abstract values, and how they stand for machine values in a world.
-/
import Derived.Orders
import Derived.Laws.CopyRow
import Derived.Laws.Rows
namespace Go.AL
open Go

inductive AV where
  | undef
  | val (v : Value)
  | sl (sz : Nat) (L : List AV) (tok : Nat)
  | ref (n off : Nat) (path : List Nat)
  | cref (v : AV)
  | aref (n off : Nat) (path : List Nat) (sz lo len : Nat)
  | map (n : Nat)
  | clos (f : Nat) (caps : List AV)
  | agg (n : Nat) (parts : List AV)
  | vec (sz : Nat) (parts : List AV)
  | tup (vs : List AV)
  deriving Inhabited

namespace AV
def isAgg : AV → Bool
  | .agg _ _ | .vec _ _ => true
  | _ => false
def csize : AV → Nat
  | .agg n _ => n
  | .vec sz ps => ps.length * sz
  | _ => 1
end AV

def isAggV : Value → Bool
  | .agg _ => true
  | _ => false

structure G where
  use : Nat → Prop
  loc : Nat → Nat → Option (Nat × Nat × Nat)
  bd : Nat → Nat
  imm : Nat → Nat

inductive Sh where
  | one (a : AV) (cs : List Value)
  | seq (as : List AV) (cs : List Value)
  | useq (sz : Nat) (as : List AV) (cs : List Value)
  | mem (sz : Nat) (as : List AV) (b o : Nat)

def RowAt (w : World) (b o : Nat) (cs : List Value) : Prop := ∀ j v, cs[j]? = some v → w.cell? ⟨b, o + j, none⟩ = some v

def TokOK (g : G) (tok : Nat) (blk len c endc capc : Nat) : Prop :=
  match tok with
  | 0 => True
  | 1 => c = len
  | n + 2 => c = len ∨ (g.use n ∧ len ≤ g.bd n ∧ g.loc n len = some (blk, endc, capc))

inductive R (g : G) (w : World) : Sh → Prop where
  | val {v : Value} : v.oneCell' = true → R g w (.one (.val v) [v])
  | slNil {sz tok : Nat} {base : Option Addr} : R g w (.one (.sl sz [] tok) [.slice base 0 0])
  | sl {sz tok : Nat} {L : List AV} {b o c : Nat} : L.length ≤ c → R g w (.mem sz L b o) → TokOK g tok b L.length c (o + L.length * sz) (o + c * sz) →
      R g w (.one (.sl sz L tok) [.slice (some ⟨b, o, none⟩) L.length c])
  | ref {n off : Nat} {path : List Nat} {b : Nat} {x : Nat × Nat} : g.use n → g.loc n 0 = some (b, x) → R g w (.one (.ref n off path) [.pointer (some ⟨b, off, none⟩)])
  | cref {v : AV} {b o : Nat} {cs : List Value} : R g w (.one v cs) → RowAt w b o cs → o + cs.length ≤ g.imm b → R g w (.one (.cref v) [.pointer (some ⟨b, o, none⟩)])
  | aref {n off : Nat} {path : List Nat} {sz lo len c : Nat} {b : Nat} {x : Nat × Nat} : g.use n → g.loc n 0 = some (b, x) → len ≤ c →
      R g w (.one (.aref n off path sz lo len) [.slice (some ⟨b, off + lo * sz, none⟩) len c])
  | map {n : Nat} {b : Nat} {x : Nat × Nat} : g.use n → g.loc n 0 = some (b, x) → R g w (.one (.map n) [.map (some b)])
  | clos {f : Nat} {caps : List AV} {cs : List Value} : R g w (.useq 1 caps cs) → (∀ a ∈ caps, a.isAgg = false) → R g w (.one (.clos f caps) [.func (.func f) #[] cs.toArray])
  | agg {n : Nat} {ps : List AV} {cs : List Value} : R g w (.seq ps cs) → n = cs.length → R g w (.one (.agg n ps) cs)
  | vec {sz : Nat} {ps : List AV} {cs : List Value} : R g w (.useq sz ps cs) → R g w (.one (.vec sz ps) cs)
  | seqNil : R g w (.seq [] [])
  | seqCons {a : AV} {as : List AV} {cs ds : List Value} : R g w (.one a cs) → R g w (.seq as ds) → R g w (.seq (a :: as) (cs ++ ds))
  | useqNil {sz : Nat} : R g w (.useq sz [] [])
  | useqCons {sz : Nat} {a : AV} {as : List AV} {cs ds : List Value} : R g w (.one a cs) → cs.length = sz → R g w (.useq sz as ds) → R g w (.useq sz (a :: as) (cs ++ ds))
  | memNil {sz b o : Nat} : R g w (.mem sz [] b o)
  | memCons {sz b o : Nat} {a : AV} {as : List AV} {cs : List Value} : R g w (.one a cs) → cs.length = sz → RowAt w b o cs → o + sz ≤ g.imm b →
      R g w (.mem sz as b (o + sz)) → R g w (.mem sz (a :: as) b o)

structure Ext (g : G) (w : World) (g' : G) (w' : World) : Prop where
  use : ∀ n, g.use n → g'.use n
  bd : ∀ n, g.use n → g.bd n ≤ g'.bd n
  loc : ∀ n, g.use n → ∀ e, e ≤ g.bd n → g'.loc n e = g.loc n e
  imm : ∀ b, g.imm b ≤ g'.imm b
  cell : ∀ b o, o < g.imm b → w'.cell? ⟨b, o, none⟩ = w.cell? ⟨b, o, none⟩

theorem Ext.refl (g : G) (w : World) : Ext g w g w := ⟨fun _ h => h, fun _ _ => Nat.le_refl _, fun _ _ _ _ => rfl, fun _ => Nat.le_refl _, fun _ _ _ => rfl⟩

theorem Ext.trans {g1 g2 g3 : G} {w1 w2 w3 : World} (h : Ext g1 w1 g2 w2) (k : Ext g2 w2 g3 w3) : Ext g1 w1 g3 w3 :=
  ⟨fun n hn => k.use n (h.use n hn), fun n hn => Nat.le_trans (h.bd n hn) (k.bd n (h.use n hn)),
   fun n hn e he => (k.loc n (h.use n hn) e (Nat.le_trans he (h.bd n hn))).trans (h.loc n hn e he),
   fun b => Nat.le_trans (h.imm b) (k.imm b), fun b o ho => (k.cell b o (Nat.lt_of_lt_of_le ho (h.imm b))).trans (h.cell b o ho)⟩

theorem RowAt.ext {g g' : G} {w w' : World} {b o : Nat} {cs : List Value} (h : RowAt w b o cs) (hx : Ext g w g' w') (hi : o + cs.length ≤ g.imm b) : RowAt w' b o cs := by
  intro j v hj
  have hlt : j < cs.length := by
    rcases Nat.lt_or_ge j cs.length with h' | h'
    · exact h'
    · rw [List.getElem?_eq_none h'] at hj; cases hj
  rw [hx.cell b (o + j) (by omega)]
  exact h j v hj

theorem TokOK.ext {g g' : G} {w w' : World} {tok blk len c endc capc : Nat} (hx : Ext g w g' w') (h : TokOK g tok blk len c endc capc) : TokOK g' tok blk len c endc capc := by
  match tok, h with
  | 0, _ => trivial
  | 1, h => exact h
  | n + 2, h =>
    rcases h with h | ⟨h1, h2, h3⟩
    · exact .inl h
    · exact .inr ⟨hx.use n h1, Nat.le_trans h2 (hx.bd n h1), (hx.loc n h1 len h2).trans h3⟩

theorem R.ext {g g' : G} {w w' : World} (hx : Ext g w g' w') {s : Sh} (h : R g w s) : R g' w' s := by
  induction h with
  | val h => exact .val h
  | slNil => exact .slNil
  | sl hc _ ht ih => exact .sl hc ih (ht.ext hx)
  | ref h1 h2 => exact .ref (hx.use _ h1) ((hx.loc _ h1 0 (Nat.zero_le _)).trans h2)
  | cref _ h2 h3 ih => exact .cref ih (h2.ext hx h3) (Nat.le_trans h3 (hx.imm _))
  | aref h1 h2 h3 => exact .aref (hx.use _ h1) ((hx.loc _ h1 0 (Nat.zero_le _)).trans h2) h3
  | map h1 h2 => exact .map (hx.use _ h1) ((hx.loc _ h1 0 (Nat.zero_le _)).trans h2)
  | clos _ h2 ih => exact .clos ih h2
  | agg _ h2 ih => exact .agg ih h2
  | vec _ ih => exact .vec ih
  | seqNil => exact .seqNil
  | seqCons _ _ ih1 ih2 => exact .seqCons ih1 ih2
  | useqNil => exact .useqNil
  | useqCons _ h2 _ ih1 ih2 => exact .useqCons ih1 h2 ih2
  | memNil => exact .memNil
  | memCons _ h2 h3 h4 _ ih1 ih2 => exact .memCons ih1 h2 (h3.ext hx (by omega)) (Nat.le_trans h4 (hx.imm _)) ih2

def Sh.cells : Sh → List Value
  | .one _ cs | .seq _ cs | .useq _ _ cs => cs
  | .mem _ _ _ _ => []

theorem R.oneCells' {g : G} {w : World} {s : Sh} (h : R g w s) : ∀ c ∈ s.cells, c.oneCell' = true := by
  induction h with
  | val h => intro c hc; simp [Sh.cells] at hc; subst hc; exact h
  | agg _ _ ih => exact ih
  | vec _ ih => exact ih
  | seqCons _ _ ih1 ih2 => intro c hc; rcases List.mem_append.1 hc with h | h; exact ih1 c h; exact ih2 c h
  | useqCons _ _ _ ih1 ih2 => intro c hc; rcases List.mem_append.1 hc with h | h; exact ih1 c h; exact ih2 c h
  | _ => intro c hc; simp [Sh.cells] at hc <;> (subst hc; rfl)

theorem R.oneCells {g : G} {w : World} {a : AV} {cs : List Value} (h : R g w (.one a cs)) : ∀ c ∈ cs, c.oneCell' = true := R.oneCells' h

def Sh.lenOK : Sh → Prop
  | .one a cs => cs.length = a.csize
  | .useq sz as cs => cs.length = as.length * sz
  | _ => True

theorem R.length' {g : G} {w : World} {s : Sh} (h : R g w s) : s.lenOK := by
  induction h with
  | agg _ h2 _ => simp [Sh.lenOK, AV.csize, h2]
  | vec _ ih => simpa [Sh.lenOK, AV.csize] using ih
  | useqCons _ h2 _ _ ih2 => simp [Sh.lenOK] at ih2 ⊢; rw [ih2, h2, Nat.add_mul]; omega
  | _ => simp [Sh.lenOK, AV.csize]

theorem R.length {g : G} {w : World} {a : AV} {cs : List Value} (h : R g w (.one a cs)) : cs.length = a.csize := R.length' h
theorem R.ulength {g : G} {w : World} {sz : Nat} {as : List AV} {cs : List Value} (h : R g w (.useq sz as cs)) : cs.length = as.length * sz := R.length' h

theorem R.single {g : G} {w : World} {a : AV} {cs : List Value} (h : R g w (.one a cs)) (ha : a.isAgg = false) : ∃ v, cs = [v] ∧ v.oneCell' = true := by
  have h1 := h.oneCells
  cases h <;> first | exact ⟨_, rfl, h1 _ (by simp)⟩ | simp [AV.isAgg] at ha

def V0 (g : G) (w : World) (a : AV) (v : Value) : Prop := R g w (.one a v.cells.toList) ∧ isAggV v = a.isAgg

def V1 (g : G) (w : World) (a : AV) (v : Value) : Prop :=
  match a with
  | .undef => True
  | .tup as => ∃ ws : Array Value, v = .tuple ws ∧ as.length = ws.toList.length ∧ ∀ (i : Nat) (x : AV) (y : Value), as[i]? = some x → ws.toList[i]? = some y → x = .undef ∨ V0 g w x y
  | a => V0 g w a v

theorem V0.ext {g g' : G} {w w' : World} (hx : Ext g w g' w') {a : AV} {v : Value} (h : V0 g w a v) : V0 g' w' a v := ⟨h.1.ext hx, h.2⟩
theorem V1.ext {g g' : G} {w w' : World} (hx : Ext g w g' w') {a : AV} {v : Value} (h : V1 g w a v) : V1 g' w' a v := by
  cases a with
  | undef => trivial
  | tup as =>
    obtain ⟨ws, h1, h2, h3⟩ := h
    exact ⟨ws, h1, h2, fun i x y hx' hy => (h3 i x y hx' hy).imp id (V0.ext hx)⟩
  | _ => exact V0.ext hx h

theorem V1.of_V0 {g : G} {w : World} {a : AV} {v : Value} (h : V0 g w a v) : V1 g w a v := by
  cases a with
  | undef => trivial
  | tup as => obtain ⟨h, _⟩ := h; cases h
  | _ => exact h

theorem V0.cell {g : G} {w : World} {a : AV} {v : Value} (h : V0 g w a v) (ha : a.isAgg = false) : R g w (.one a [v]) ∧ v.oneCell' = true := by
  obtain ⟨h1, h2⟩ := h
  obtain ⟨u, hu, hc⟩ := h1.single ha
  rw [ha] at h2
  cases v <;> simp [isAggV, Value.cells] at h2 hu h1 ⊢ <;> first | exact ⟨h1, by simpa using (R.oneCells h1)⟩

theorem V0.of_cell {g : G} {w : World} {a : AV} {v : Value} (h : R g w (.one a [v])) (ha : a.isAgg = false) : V0 g w a v := by
  have hc : v.oneCell' = true := by simpa using (R.oneCells h)
  refine ⟨?_, ?_⟩
  · cases v <;> first | (simp [Value.oneCell'] at hc; done) | simpa [Value.cells] using h
  · rw [ha]; cases v <;> first | rfl | simp [Value.oneCell'] at hc

theorem V0.of_agg {g : G} {w : World} {a : AV} {cs : Array Value} (h : R g w (.one a cs.toList)) (ha : a.isAgg = true) : V0 g w a (.agg cs) := ⟨h, by rw [ha]; rfl⟩

theorem V0.agg {g : G} {w : World} {a : AV} {v : Value} (h : V0 g w a v) (ha : a.isAgg = true) : ∃ cs, v = .agg cs ∧ R g w (.one a cs.toList) := by
  obtain ⟨h1, h2⟩ := h
  rw [ha] at h2
  cases v <;> simp [isAggV] at h2
  exact ⟨_, rfl, h1⟩

end Go.AL

namespace Go.AL
open Go

namespace AV
def parts : AV → List AV
  | .agg _ ps | .vec _ ps => ps
  | _ => []
def partOff : AV → Nat → Nat
  | .agg _ ps, i => ((ps.take i).map csize).sum
  | .vec sz _, i => i * sz
  | _, _ => 0
def at_ : AV → List Nat → AV
  | a, [] => a
  | a, i :: r => (a.parts.getD i .undef).at_ r
def offAt : AV → List Nat → Nat
  | _, [] => 0
  | a, i :: r => a.partOff i + (a.parts.getD i .undef).offAt r
def okPath : AV → List Nat → Prop
  | _, [] => True
  | a, i :: r => i < a.parts.length ∧ (a.parts.getD i .undef).okPath r
def setPart : AV → Nat → AV → AV
  | .agg n ps, i, u => .agg n (ps.set i u)
  | .vec sz ps, i, u => .vec sz (ps.set i u)
  | a, _, _ => a
def setAt : AV → List Nat → AV → AV
  | _, [], u => u
  | a, i :: r, u => a.setPart i ((a.parts.getD i .undef).setAt r u)
end AV

def splice (cs : List Value) (off : Nat) (new : List Value) : List Value := cs.take off ++ new ++ cs.drop (off + new.length)

theorem splice_length {cs : List Value} {off : Nat} {new : List Value} (h : off + new.length ≤ cs.length) : (splice cs off new).length = cs.length := by
  simp [splice]; omega

theorem splice_get {cs : List Value} {off : Nat} {new : List Value} (h : off + new.length ≤ cs.length) (j : Nat) :
    (splice cs off new)[j]? = if j < off then cs[j]? else if j < off + new.length then new[j - off]? else cs[j]? := by
  unfold splice
  by_cases h1 : j < off
  · rw [if_pos h1, List.append_assoc, List.getElem?_append_left (by simp; omega), List.getElem?_take_of_lt h1]
  · rw [if_neg h1]
    have hl : (cs.take off).length = off := by simp; omega
    by_cases h2 : j < off + new.length
    · rw [if_pos h2, List.getElem?_append_left (by simp; omega), List.getElem?_append_right (by omega), hl]
    · rw [if_neg h2, List.getElem?_append_right (by simp; omega), List.getElem?_drop]
      congr 1
      simp only [List.length_append, hl]
      omega

theorem splice_splice {cs : List Value} {o1 m o2 : Nat} {new : List Value} (h1 : o1 + m ≤ cs.length) (h2 : o2 + new.length ≤ m) :
    splice cs o1 (splice ((cs.drop o1).take m) o2 new) = splice cs (o1 + o2) new := by
  have hl : ((cs.drop o1).take m).length = m := by simp; omega
  have hl2 : (splice ((cs.drop o1).take m) o2 new).length = m := by rw [splice_length (by omega), hl]
  apply List.ext_getElem?
  intro j
  rw [splice_get (cs := cs) (off := o1) (by omega), splice_get (cs := cs) (off := o1 + o2) (by omega)]
  by_cases a1 : j < o1
  · rw [if_pos a1, if_pos (by omega)]
  · rw [if_neg a1, hl2]
    by_cases a2 : j < o1 + m
    · rw [if_pos a2, splice_get (by omega)]
      by_cases a3 : j < o1 + o2
      · rw [if_pos (by omega), if_pos a3, List.getElem?_take_of_lt (by omega), List.getElem?_drop]
        congr 1; omega
      · rw [if_neg (by omega), if_neg a3]
        by_cases a4 : j < o1 + o2 + new.length
        · rw [if_pos (by omega), if_pos a4]; congr 1; omega
        · rw [if_neg (by omega), if_neg a4, List.getElem?_take_of_lt (by omega), List.getElem?_drop]
          congr 1; omega
    · rw [if_neg a2, if_neg (by omega), if_neg (by omega)]

theorem RowAt.sub {w : World} {b o : Nat} {cs : List Value} (h : RowAt w b o cs) (k m : Nat) : RowAt w b (o + k) ((cs.drop k).take m) := by
  intro j v hj
  rcases Nat.lt_or_ge j m with hm | hm
  · rw [List.getElem?_take_of_lt hm, List.getElem?_drop] at hj
    have := h (k + j) v hj
    rwa [← Nat.add_assoc] at this
  · rw [List.getElem?_eq_none (by simp; omega)] at hj; cases hj

theorem RowAt.append {w : World} {b o : Nat} {cs ds : List Value} (h : RowAt w b o cs) (k : RowAt w b (o + cs.length) ds) : RowAt w b o (cs ++ ds) := by
  intro j v hj
  rcases Nat.lt_or_ge j cs.length with hm | hm
  · rw [List.getElem?_append_left hm] at hj; exact h j v hj
  · rw [List.getElem?_append_right hm] at hj
    have := k _ v hj
    rwa [Nat.add_assoc, Nat.add_sub_cancel' hm] at this

section
variable {g : G} {w : World}

theorem R.seq_part : ∀ {ps : List AV} {cs : List Value} {i : Nat}, R g w (.seq ps cs) → i < ps.length →
    R g w (.one (ps.getD i .undef) ((cs.drop ((ps.take i).map AV.csize).sum).take (ps.getD i .undef).csize)) ∧
      ((ps.take i).map AV.csize).sum + (ps.getD i .undef).csize ≤ cs.length
  | [], _, _, _, hi => absurd hi (by simp)
  | p :: ps, _, i, h, hi => by
    cases h with
    | @seqCons _ _ cs ds h1 h2 =>
      have hl := h1.length
      cases i with
      | zero => simp only [List.getD_cons_zero, List.take_zero, List.map_nil, List.sum_nil, List.drop_zero, ← hl, List.take_left]; exact ⟨h1, by simp⟩
      | succ i =>
        obtain ⟨k1, k2⟩ := R.seq_part h2 (i := i) (by simpa using hi)
        simp only [List.getD_cons_succ, List.take_succ_cons, List.map_cons, List.sum_cons, ← hl]
        rw [List.drop_append, List.drop_eq_nil_of_le (by omega), List.nil_append, Nat.add_sub_cancel_left]
        refine ⟨k1, ?_⟩
        rw [List.length_append]; omega

theorem R.useq_part {sz : Nat} : ∀ {ps : List AV} {cs : List Value} {i : Nat}, R g w (.useq sz ps cs) → i < ps.length →
    R g w (.one (ps.getD i .undef) ((cs.drop (i * sz)).take sz)) ∧ (ps.getD i .undef).csize = sz ∧ i * sz + sz ≤ cs.length
  | [], _, _, _, hi => absurd hi (by simp)
  | p :: ps, _, i, h, hi => by
    cases h with
    | @useqCons _ _ _ cs ds h1 hs h2 =>
      have hl := h1.length
      cases i with
      | zero => simp only [List.getD_cons_zero, Nat.zero_mul, List.drop_zero, ← hs, List.take_left]; exact ⟨h1, by omega, by simp⟩
      | succ i =>
        obtain ⟨k1, k2, k3⟩ := R.useq_part h2 (i := i) (by simpa using hi)
        simp only [List.getD_cons_succ]
        have e : (i + 1) * sz = cs.length + i * sz := by rw [hs, Nat.add_mul]; omega
        rw [e, List.drop_append, List.drop_eq_nil_of_le (by omega), List.nil_append, Nat.add_sub_cancel_left]
        refine ⟨k1, k2, ?_⟩
        simp; omega

theorem R.part {a : AV} {cs : List Value} {i : Nat} (h : R g w (.one a cs)) (hi : i < a.parts.length) :
    R g w (.one (a.parts.getD i .undef) ((cs.drop (a.partOff i)).take (a.parts.getD i .undef).csize)) ∧ a.partOff i + (a.parts.getD i .undef).csize ≤ cs.length := by
  cases h with
  | agg h1 h2 => exact h1.seq_part hi
  | vec h1 =>
    obtain ⟨k1, k2, k3⟩ := h1.useq_part hi
    simp only [AV.parts, AV.partOff]
    rw [k2]; exact ⟨k1, k3⟩
  | _ => simp [AV.parts] at hi

theorem R.at_ : ∀ {path : List Nat} {a : AV} {cs : List Value}, R g w (.one a cs) → a.okPath path →
    R g w (.one (a.at_ path) ((cs.drop (a.offAt path)).take (a.at_ path).csize)) ∧ a.offAt path + (a.at_ path).csize ≤ cs.length
  | [], a, cs, h, _ => by
    have hl := h.length
    simp only [AV.at_, AV.offAt, List.drop_zero, ← hl, List.take_length]
    exact ⟨h, by omega⟩
  | i :: r, a, cs, h, hp => by
    obtain ⟨h1, h2⟩ := hp
    obtain ⟨k1, k2⟩ := h.part h1
    obtain ⟨m1, m2⟩ := R.at_ k1 h2
    simp only [AV.at_, AV.offAt]
    have hl : ((cs.drop (a.partOff i)).take (a.parts.getD i .undef).csize).length = (a.parts.getD i .undef).csize := by rw [List.length_take, List.length_drop]; omega
    rw [hl] at m2
    refine ⟨?_, by omega⟩
    rw [List.drop_take, List.drop_drop, List.take_take, Nat.min_eq_left (by omega)] at m1
    exact m1

theorem R.seq_set : ∀ {ps : List AV} {cs : List Value} {i : Nat} {u : AV} {ucs : List Value}, R g w (.seq ps cs) → i < ps.length → R g w (.one u ucs) → u.csize = (ps.getD i .undef).csize →
    R g w (.seq (ps.set i u) (splice cs ((ps.take i).map AV.csize).sum ucs))
  | [], _, _, _, _, _, hi, _, _ => absurd hi (by simp)
  | p :: ps, _, i, u, ucs, h, hi, hu, hs => by
    cases h with
    | @seqCons _ _ cs ds h1 h2 =>
      have hl := h1.length
      have hul := hu.length
      cases i with
      | zero =>
        simp only [List.set_cons_zero, List.take_zero, List.map_nil, List.sum_nil, splice, List.nil_append, Nat.zero_add]
        simp only [List.getD_cons_zero] at hs
        rw [show ucs.length = cs.length by omega, List.drop_left]
        exact .seqCons hu h2
      | succ i =>
        have k2 := (R.seq_part h2 (i := i) (by simpa using hi)).2
        have ih := R.seq_set h2 (i := i) (by simpa using hi) hu (by simpa using hs)
        simp only [List.set_cons_succ, List.take_succ_cons, List.map_cons, List.sum_cons, ← hl]
        have e : splice (cs ++ ds) (cs.length + ((ps.take i).map AV.csize).sum) ucs = cs ++ splice ds ((ps.take i).map AV.csize).sum ucs := by
          simp only [splice]
          rw [List.take_append, List.take_of_length_le (by omega), Nat.add_sub_cancel_left, List.drop_append, List.drop_eq_nil_of_le (by omega), List.nil_append]
          rw [show cs.length + ((ps.take i).map AV.csize).sum + ucs.length - cs.length = ((ps.take i).map AV.csize).sum + ucs.length by omega]
          simp [List.append_assoc]
        rw [e]
        exact .seqCons h1 ih

theorem R.useq_set {sz : Nat} : ∀ {ps : List AV} {cs : List Value} {i : Nat} {u : AV} {ucs : List Value}, R g w (.useq sz ps cs) → i < ps.length → R g w (.one u ucs) → u.csize = sz →
    R g w (.useq sz (ps.set i u) (splice cs (i * sz) ucs))
  | [], _, _, _, _, _, hi, _, _ => absurd hi (by simp)
  | p :: ps, _, i, u, ucs, h, hi, hu, hs => by
    cases h with
    | @useqCons _ _ _ cs ds h1 hz h2 =>
      have hul := hu.length
      cases i with
      | zero =>
        simp only [List.set_cons_zero, Nat.zero_mul, splice, List.take_zero, List.nil_append, Nat.zero_add]
        rw [show ucs.length = cs.length by omega, List.drop_left]
        exact .useqCons hu (by omega) h2
      | succ i =>
        have k3 := (R.useq_part h2 (i := i) (by simpa using hi)).2.2
        have ih := R.useq_set h2 (i := i) (by simpa using hi) hu hs
        have e0 : (i + 1) * sz = cs.length + i * sz := by rw [hz, Nat.add_mul]; omega
        have e : splice (cs ++ ds) ((i + 1) * sz) ucs = cs ++ splice ds (i * sz) ucs := by
          simp only [splice, e0]
          rw [List.take_append, List.take_of_length_le (by omega), Nat.add_sub_cancel_left, List.drop_append, List.drop_eq_nil_of_le (by omega), List.nil_append]
          rw [show cs.length + i * sz + ucs.length - cs.length = i * sz + ucs.length by omega]
          simp [List.append_assoc]
        simp only [List.set_cons_succ]
        rw [e]
        exact .useqCons h1 hz ih

theorem splice_len {cs new : List Value} {off : Nat} (h : off + new.length ≤ cs.length) : (splice cs off new).length = cs.length := splice_length h

theorem R.setPart {a u : AV} {cs ucs : List Value} {i : Nat} (h : R g w (.one a cs)) (hi : i < a.parts.length) (hu : R g w (.one u ucs)) (hs : u.csize = (a.parts.getD i .undef).csize) :
    R g w (.one (a.setPart i u) (splice cs (a.partOff i) ucs)) ∧ (a.setPart i u).csize = a.csize ∧ (a.setPart i u).isAgg = a.isAgg := by
  have hp := (h.part hi).2
  have hul := hu.length
  cases h with
  | agg h1 h2 =>
    refine ⟨.agg (h1.seq_set hi hu hs) ?_, rfl, rfl⟩
    rw [splice_len, h2]
    simpa [AV.partOff, hul, hs] using hp
  | vec h1 =>
    have hsz := (h1.useq_part hi).2.1
    exact ⟨.vec (h1.useq_set hi hu (by rw [hs]; exact hsz)), by simp [AV.setPart, AV.csize], rfl⟩
  | _ => simp [AV.parts] at hi

theorem R.setAt : ∀ {path : List Nat} {a u : AV} {cs ucs : List Value}, R g w (.one a cs) → a.okPath path → R g w (.one u ucs) → u.csize = (a.at_ path).csize →
    R g w (.one (a.setAt path u) (splice cs (a.offAt path) ucs)) ∧ (a.setAt path u).csize = a.csize
  | [], a, u, cs, ucs, h, _, hu, hs => by
    have h1 := h.length
    have h2 := hu.length
    simp only [AV.at_] at hs
    simp only [AV.setAt, AV.offAt, splice, List.take_zero, List.nil_append, Nat.zero_add]
    rw [List.drop_eq_nil_of_le (by omega), List.append_nil]
    exact ⟨hu, hs⟩
  | i :: r, a, u, cs, ucs, h, hp, hu, hs => by
    obtain ⟨h1, h2⟩ := hp
    obtain ⟨k1, k2⟩ := h.part h1
    have hat := (R.at_ k1 h2).2
    have hl : ((cs.drop (a.partOff i)).take (a.parts.getD i .undef).csize).length = (a.parts.getD i .undef).csize := by rw [List.length_take, List.length_drop]; omega
    rw [hl] at hat
    obtain ⟨m1, m2⟩ := R.setAt k1 h2 hu hs
    obtain ⟨n1, n2, _⟩ := h.setPart h1 m1 m2
    simp only [AV.setAt, AV.offAt]
    have hul := hu.length
    simp only [AV.at_] at hs
    rw [splice_splice (by omega) (by omega)] at n1
    exact ⟨n1, n2⟩

/-! ### elements in memory -/
theorem R.mem_get {sz : Nat} : ∀ {L : List AV} {b o i : Nat}, R g w (.mem sz L b o) → i < L.length →
    ∃ cs, R g w (.one (L.getD i .undef) cs) ∧ cs.length = sz ∧ RowAt w b (o + i * sz) cs ∧ o + i * sz + sz ≤ g.imm b
  | [], _, _, _, _, hi => absurd hi (by simp)
  | p :: ps, b, o, i, h, hi => by
    cases h with
    | memCons h1 h2 h3 h4 h5 =>
      cases i with
      | zero => exact ⟨_, by simpa using h1, h2, by simpa using h3, by simpa using h4⟩
      | succ i =>
        obtain ⟨cs, k1, k2, k3, k4⟩ := R.mem_get h5 (i := i) (by simpa using hi)
        have e : o + (i + 1) * sz = o + sz + i * sz := by rw [Nat.add_mul]; omega
        exact ⟨cs, by simpa using k1, k2, by rw [e]; exact k3, by omega⟩

theorem R.mem_drop {sz : Nat} : ∀ {L : List AV} {b o : Nat} (k : Nat), R g w (.mem sz L b o) → k ≤ L.length → R g w (.mem sz (L.drop k) b (o + k * sz))
  | L, b, o, 0, h, _ => by simpa using h
  | [], _, _, k + 1, _, hk => absurd hk (by simp)
  | p :: ps, b, o, k + 1, h, hk => by
    cases h with
    | memCons h1 h2 h3 h4 h5 =>
      have := R.mem_drop k h5 (by simpa using hk)
      rw [show o + (k + 1) * sz = o + sz + k * sz by rw [Nat.add_mul]; omega]
      simpa using this

theorem R.mem_take {sz : Nat} : ∀ {L : List AV} {b o : Nat} (k : Nat), R g w (.mem sz L b o) → R g w (.mem sz (L.take k) b o)
  | _, _, _, 0, _ => by simpa using .memNil
  | [], _, _, k + 1, _ => by simpa using .memNil
  | p :: ps, b, o, k + 1, h => by
    cases h with
    | memCons h1 h2 h3 h4 h5 => exact .memCons h1 h2 h3 h4 (R.mem_take k h5)

theorem R.mem_append {sz : Nat} : ∀ {L M : List AV} {b o : Nat}, R g w (.mem sz L b o) → R g w (.mem sz M b (o + L.length * sz)) → R g w (.mem sz (L ++ M) b o)
  | [], M, b, o, _, k => by simpa using k
  | p :: ps, M, b, o, h, k => by
    cases h with
    | memCons h1 h2 h3 h4 h5 =>
      refine .memCons h1 h2 h3 h4 (R.mem_append h5 ?_)
      rw [show o + sz + ps.length * sz = o + (p :: ps).length * sz by simp [Nat.add_mul]; omega]
      exact k

theorem R.mem_cells {sz : Nat} : ∀ {L : List AV} {b o : Nat}, R g w (.mem sz L b o) → ∃ cs, R g w (.useq sz L cs) ∧ RowAt w b o cs ∧ (L = [] ∨ o + cs.length ≤ g.imm b)
  | [], b, o, _ => ⟨[], .useqNil, fun j v h => by simp at h, .inl rfl⟩
  | p :: ps, b, o, h => by
    cases h with
    | memCons h1 h2 h3 h4 h5 =>
      obtain ⟨cs, k1, k2, k3⟩ := R.mem_cells h5
      refine ⟨_, .useqCons h1 h2 k1, h3.append (by rw [h2]; exact k2), .inr ?_⟩
      rcases k3 with rfl | k3
      · cases k1; simp; omega
      · simp; omega

theorem R.mem_of {sz : Nat} : ∀ {L : List AV} {b o : Nat} {cs : List Value}, R g w (.useq sz L cs) → RowAt w b o cs → o + cs.length ≤ g.imm b → R g w (.mem sz L b o)
  | [], _, _, _, _, _, _ => .memNil
  | p :: ps, b, o, _, h, hr, hi => by
    cases h with
    | @useqCons _ _ _ cs ds h1 h2 h3 =>
      have hs := hr.sub 0 cs.length
      simp at hs
      have hd := hr.sub cs.length ds.length
      simp at hd
      simp at hi
      exact .memCons h1 h2 hs (by omega) (R.mem_of h3 (by rw [← h2]; exact hd) (by omega))

theorem R.useq_append {sz : Nat} : ∀ {L M : List AV} {cs ds : List Value}, R g w (.useq sz L cs) → R g w (.useq sz M ds) → R g w (.useq sz (L ++ M) (cs ++ ds))
  | [], _, _, _, h, k => by cases h; simpa using k
  | p :: ps, M, _, ds, h, k => by
    cases h with
    | useqCons h1 h2 h3 => rw [List.append_assoc]; exact .useqCons h1 h2 (R.useq_append h3 k)
end
end Go.AL

namespace Go.AL
open Go

inductive Res where
  | obj (a : AV)
  | robj (a : AV)
  | tail (e : Nat)
  | mp (es : List (AV × AV))
  | rmp (es : List (AV × AV))
  | xmp (es : List (AV × AV)) (bs : List Nat) (clk : Nat)
  | itr (m : Nat) (bs : List Nat) (clk : Nat) (seen : List Nat)
  deriving Inhabited
def Res.wr : Res → Bool
  | .robj _ => false
  | .rmp _ => false
  | .xmp _ _ _ => false
  | _ => true
def Res.obj? : Option Res → Option AV
  | some (.obj a) | some (.robj a) => some a
  | _ => none
def Res.mp? : Option Res → Option (List (AV × AV))
  | some (.mp es) | some (.rmp es) | some (.xmp es _ _) => some es
  | _ => none
inductive MapR (g : G) (w : World) : List (AV × AV) → List MapEntry → Prop where
  | nil : MapR g w [] []
  | cons {p : AV × AV} {es : List (AV × AV)} {e : MapEntry} {L : List MapEntry} : V0 g w p.1 e.key → V0 g w p.2 e.val → MapR g w es L → MapR g w (p :: es) (e :: L)
theorem MapR.ext {g g' : G} {w w' : World} (hx : Ext g w g' w') {es : List (AV × AV)} {L : List MapEntry} (h : MapR g w es L) : MapR g' w' es L := by
  induction h with
  | nil => exact .nil
  | cons h1 h2 _ ih => exact .cons (h1.ext hx) (h2.ext hx) ih

theorem MapR.length' {g : G} {w : World} {es : List (AV × AV)} {L : List MapEntry} (h : MapR g w es L) : es.length = L.length := by
  induction h with
  | nil => rfl
  | cons _ _ _ ih => simp [ih]
theorem MapR.perm {g : G} {w : World} {es es' : List (AV × AV)} {L : List MapEntry} (h : MapR g w es L) (hp : es.Perm es') : ∃ L', L.Perm L' ∧ MapR g w es' L' := by
  induction hp generalizing L with
  | nil => exact ⟨L, .refl _, h⟩
  | cons x _ ih =>
    cases h with
    | cons h1 h2 h3 =>
      obtain ⟨L', i1, i2⟩ := ih h3
      exact ⟨_, .cons _ i1, .cons h1 h2 i2⟩
  | swap x y _ =>
    cases h with
    | cons h1 h2 h3 => cases h3 with
      | cons k1 k2 k3 => exact ⟨_, .swap _ _ _, .cons k1 k2 (.cons h1 h2 k3)⟩
  | trans _ _ ih1 ih2 =>
    obtain ⟨L1, i1, i2⟩ := ih1 h
    obtain ⟨L2, j1, j2⟩ := ih2 i2
    exact ⟨L2, i1.trans j1, j2⟩
def BornOK (L : List MapEntry) (clk : Nat) : Prop := (L.map (·.born)).Nodup ∧ ∀ e ∈ L, e.born < clk

abbrev Heap := List (Nat × Option Res)
def Heap.get : Heap → Nat → Option Res
  | [], _ => none
  | (k, r) :: t, n => if k = n then r else Heap.get t n

abbrev Env := List (Nat × AV)
def Env.get : Env → Nat → AV
  | [], _ => .undef
  | (k, v) :: r, t => if k = t then v else Env.get r t

def blkOf (g : G) (n : Nat) : Res → Option Nat
  | .obj _ | .robj _ | .mp _ | .rmp _ | .xmp _ _ _ | .itr _ _ _ _ => (g.loc n 0).map (·.1)
  | .tail e => (g.loc n e).map (·.1)

def resOK (g : G) (w : World) (n : Nat) : Res → Prop
  | .obj a | .robj a => g.use n ∧ ∃ b x arr T, g.loc n 0 = some (b, x) ∧ w.heap[b]? = some (.cells arr T (0, 0)) ∧ R g w (.one a arr.toList) ∧ g.imm b = 0
  | .tail e => g.use n ∧ g.bd n = e ∧ ∀ b endc capc, g.loc n e = some (b, endc, capc) →
      ∃ arr T, w.heap[b]? = some (.cells arr T (0, 0)) ∧ g.imm b = endc ∧ arr.size = capc ∧ endc ≤ capc
  | .mp es | .rmp es => g.use n ∧ ∃ b x arr clk, g.loc n 0 = some (b, x) ∧ w.heap[b]? = some (.map arr clk) ∧ ((∃ es', es'.Perm es ∧ MapR g w es' arr.toList) ∧ (es.map (·.1)).Nodup ∧ BornOK arr.toList clk) ∧ g.imm b = 0
  | .xmp es bs clk => g.use n ∧ ∃ b x arr, g.loc n 0 = some (b, x) ∧ w.heap[b]? = some (.map arr clk) ∧ (MapR g w es arr.toList ∧ (es.map (·.1)).Nodup ∧ BornOK arr.toList clk ∧ arr.toList.map (·.born) = bs) ∧ g.imm b = 0
  | .itr m bs clk seen => (g.use n ∧ g.use m) ∧ ∃ b x mb y, g.loc n 0 = some (b, x) ∧ w.heap[b]? = some (.mapIter (some mb) clk (seen.reverse.map (bs.getD · 0)).toArray clk) ∧ g.loc m 0 = some (mb, y) ∧ g.imm b = 0
theorem resOK.use {g : G} {w : World} {n : Nat} : ∀ {r : Res}, resOK g w n r → g.use n
  | .obj _, h | .robj _, h | .tail _, h | .mp _, h | .rmp _, h | .xmp _ _ _, h => h.1
  | .itr _ _ _ _, h => h.1.1

def Inv (g : G) (w : World) : Prop := ∀ b, w.heap.size ≤ b → g.imm b = 0

structure HeapOK (g : G) (w : World) (H : Heap) : Prop where
  ok : ∀ n r, H.get n = some r → resOK g w n r
  disj : ∀ n n' r r' b, H.get n = some r → H.get n' = some r' → blkOf g n r = some b → blkOf g n' r' = some b → n = n'

structure Delta (g : G) (w : World) (g' : G) (w' : World) (D T N : Nat → Prop) : Prop where
  ext : Ext g w g' w'
  os : w'.os = w.os
  tape : w'.tape = w.tape
  output : w'.output = w.output
  size : w.heap.size ≤ w'.heap.size
  keep : ∀ b, b < w.heap.size → ¬ D b → w'.heap[b]? = w.heap[b]? ∧ g'.imm b = g.imm b
  names : ∀ n, g'.use n → g.use n ∨ N n
  bdk : ∀ n, g.use n → ¬ T n → g'.bd n = g.bd n
  inv : Inv g w → Inv g' w'

theorem Delta.refl (g : G) (w : World) (D T N : Nat → Prop) : Delta g w g w D T N :=
  ⟨Ext.refl g w, rfl, rfl, rfl, Nat.le_refl _, fun _ _ _ => ⟨rfl, rfl⟩, fun _ h => .inl h, fun _ _ _ => rfl, fun h => h⟩

theorem Delta.mono {g g' : G} {w w' : World} {D T N D' T' N' : Nat → Prop} (h : Delta g w g' w' D T N) (hD : ∀ b, b < w.heap.size → D b → D' b) (hT : ∀ n, g.use n → T n → T' n) (hN : ∀ n, N n → N' n) : Delta g w g' w' D' T' N' :=
  ⟨h.ext, h.os, h.tape, h.output, h.size, fun b hb hd => h.keep b hb (fun hx => hd (hD b hb hx)), fun n hn => (h.names n hn).imp id (hN n),
   fun n hn ht => h.bdk n hn (fun hx => ht (hT n hn hx)), h.inv⟩

theorem Delta.trans {g1 g2 g3 : G} {w1 w2 w3 : World} {D T N D2 T2 N2 : Nat → Prop} (h : Delta g1 w1 g2 w2 D T N) (k : Delta g2 w2 g3 w3 D2 T2 N2) :
    Delta g1 w1 g3 w3 (fun b => D b ∨ D2 b) (fun n => T n ∨ T2 n) (fun n => N n ∨ N2 n) :=
  ⟨h.ext.trans k.ext, k.os.trans h.os, k.tape.trans h.tape, k.output.trans h.output, Nat.le_trans h.size k.size,
   fun b hb hd => by
     obtain ⟨a1, a2⟩ := h.keep b hb (fun hx => hd (.inl hx))
     obtain ⟨b1, b2⟩ := k.keep b (Nat.lt_of_lt_of_le hb h.size) (fun hx => hd (.inr hx))
     exact ⟨b1.trans a1, b2.trans a2⟩,
   fun n hn => by
     rcases k.names n hn with hn | hn
     · exact (h.names n hn).imp id .inl
     · exact .inr (.inr hn),
   fun n hn ht => (k.bdk n (h.ext.use n hn) (fun hx => ht (.inr hx))).trans (h.bdk n hn (fun hx => ht (.inl hx))),
   fun hi => k.inv (h.inv hi)⟩

theorem Res.blk_lt {g : G} {w : World} {n b : Nat} {r : Res} (h : resOK g w n r) (hb : blkOf g n r = some b) : b < w.heap.size := by
  have key : ∀ (x : Obj), w.heap[b]? = some x → b < w.heap.size := fun x hx => by
    rcases Nat.lt_or_ge b w.heap.size with h' | h'
    · exact h'
    · rw [Array.getElem?_eq_none h'] at hx; cases hx
  cases r with
  | obj a | robj a =>
    obtain ⟨_, b', x, arr, T, h1, h2, _⟩ := h
    simp [blkOf, h1] at hb
    subst hb
    exact key _ h2
  | mp a | rmp a =>
    obtain ⟨_, b', x, arr, T, h1, h2, _⟩ := h
    simp [blkOf, h1] at hb
    subst hb
    exact key _ h2
  | xmp a bs clk =>
    obtain ⟨_, b', x, arr, h1, h2, _⟩ := h
    simp [blkOf, h1] at hb
    subst hb
    exact key _ h2
  | itr m bs clk se =>
    obtain ⟨_, b', x, mb, y, h1, h2, _⟩ := h
    simp [blkOf, h1] at hb
    subst hb
    exact key _ h2
  | tail e =>
    obtain ⟨_, _, h3⟩ := h
    simp only [blkOf, Option.map_eq_some_iff] at hb
    obtain ⟨⟨b', e', c'⟩, h4, rfl⟩ := hb
    obtain ⟨arr, T, h5, _⟩ := h3 _ _ _ h4
    exact key _ h5

theorem resOK.frame {g g' : G} {w w' : World} {D T N : Nat → Prop} (hd : Delta g w g' w' D T N) {n : Nat} {r : Res} (h : resOK g w n r) (hT : ¬ T n) (hD : ∀ b, blkOf g n r = some b → ¬ D b) :
    resOK g' w' n r ∧ blkOf g' n r = blkOf g n r := by
  have hlt := fun b hb => Res.blk_lt (b := b) h hb
  cases r with
  | obj a | robj a =>
    obtain ⟨h0, b, x, arr, T', h1, h2, h3, h4⟩ := h
    have hb : blkOf g n (.obj a) = some b := by simp [blkOf, h1]
    obtain ⟨k1, k2⟩ := hd.keep b (hlt b hb) (hD b hb)
    have hl := hd.ext.loc n h0 0 (Nat.zero_le _)
    exact ⟨⟨hd.ext.use n h0, b, x, arr, T', hl.trans h1, k1.trans h2, h3.ext hd.ext, k2.trans h4⟩, by simp [blkOf, hl]⟩
  | mp a | rmp a =>
    obtain ⟨h0, b, x, arr, T', h1, h2, h3, h4⟩ := h
    have hb : blkOf g n (.mp a) = some b := by simp [blkOf, h1]
    obtain ⟨k1, k2⟩ := hd.keep b (hlt b hb) (hD b hb)
    have hl := hd.ext.loc n h0 0 (Nat.zero_le _)
    obtain ⟨⟨es', p1, p2⟩, p3⟩ := h3
    exact ⟨⟨hd.ext.use n h0, b, x, arr, T', hl.trans h1, k1.trans h2, ⟨⟨es', p1, p2.ext hd.ext⟩, p3⟩, k2.trans h4⟩, by simp [blkOf, hl]⟩
  | xmp a bs clk =>
    obtain ⟨h0, b, x, arr, h1, h2, h3, h4⟩ := h
    have hb : blkOf g n (.xmp a bs clk) = some b := by simp [blkOf, h1]
    obtain ⟨k1, k2⟩ := hd.keep b (hlt b hb) (hD b hb)
    have hl := hd.ext.loc n h0 0 (Nat.zero_le _)
    exact ⟨⟨hd.ext.use n h0, b, x, arr, hl.trans h1, k1.trans h2, ⟨h3.1.ext hd.ext, h3.2⟩, k2.trans h4⟩, by simp [blkOf, hl]⟩
  | itr m bs clk se =>
    obtain ⟨⟨h0, h0'⟩, b, x, mb, y, h1, h2, h3, h4⟩ := h
    have hb : blkOf g n (.itr m bs clk se) = some b := by simp [blkOf, h1]
    obtain ⟨k1, k2⟩ := hd.keep b (hlt b hb) (hD b hb)
    have hl := hd.ext.loc n h0 0 (Nat.zero_le _)
    exact ⟨⟨⟨hd.ext.use n h0, hd.ext.use m h0'⟩, b, x, mb, y, hl.trans h1, k1.trans h2, (hd.ext.loc m h0' 0 (Nat.zero_le _)).trans h3, k2.trans h4⟩, by simp [blkOf, hl]⟩
  | tail e =>
    obtain ⟨h0, h1, h2⟩ := h
    have hl := hd.ext.loc n h0 e (by omega)
    refine ⟨⟨hd.ext.use n h0, (hd.bdk n h0 hT).trans h1, ?_⟩, by simp [blkOf, hl]⟩
    intro b endc capc hloc
    rw [hl] at hloc
    have hb : blkOf g n (.tail e) = some b := by simp [blkOf, hloc]
    obtain ⟨k1, k2⟩ := hd.keep b (hlt b hb) (hD b hb)
    obtain ⟨arr, T', m1, m2, m3⟩ := h2 _ _ _ hloc
    exact ⟨arr, T', k1.trans m1, k2.trans m2, m3⟩

def Blks (g : G) (H : Heap) (ks : List Nat) (b : Nat) : Prop := ∃ n r, n ∈ ks ∧ H.get n = some r ∧ blkOf g n r = some b

abbrev keys (wr : Heap) : List Nat := wr.map (·.1)

structure StepPost (g : G) (w : World) (H : Heap) (wr : Heap) (nw : List Nat) (g' : G) (w' : World) : Prop where
  delta : Delta g w g' w' (Blks g H (keys wr)) (· ∈ keys wr) (· ∈ nw)
  res : ∀ n r, wr.get n = some r → n ∈ keys wr → resOK g' w' n r ∧ ∀ b, blkOf g' n r = some b → Blks g H (keys wr) b ∨ w.heap.size ≤ b
  disj : ∀ n n' r r' b, n ∈ keys wr → n' ∈ keys wr → wr.get n = some r → wr.get n' = some r' → blkOf g' n r = some b → blkOf g' n' r' = some b → n = n'

theorem Heap.get_append (A B : Heap) (n : Nat) : Heap.get (A ++ B) n = if n ∈ keys A then A.get n else B.get n := by
  induction A with
  | nil => simp
  | cons x t ih =>
    obtain ⟨k, r⟩ := x
    have h1 : Heap.get ((k, r) :: t ++ B) n = if k = n then r else Heap.get (t ++ B) n := rfl
    have h2 : Heap.get ((k, r) :: t) n = if k = n then r else Heap.get t n := rfl
    rw [h1, h2, ih]
    by_cases hk : k = n
    · rw [if_pos hk, if_pos hk, if_pos (by simp [keys, hk])]
    · rw [if_neg hk, if_neg hk]
      by_cases hm : n ∈ keys t
      · rw [if_pos hm, if_pos (show n ∈ keys ((k, r) :: t) from List.mem_cons_of_mem _ hm)]
      · rw [if_neg hm, if_neg (show ¬ n ∈ keys ((k, r) :: t) from fun h => by rcases List.mem_cons.1 h with h | h; exact hk h.symm; exact hm h)]

theorem Heap.get_none (A : Heap) (n : Nat) (h : n ∉ keys A) : A.get n = none := by
  have := Heap.get_append A [] n
  simp only [List.append_nil, if_neg h] at this
  exact this

theorem StepPost.heap {g g' : G} {w w' : World} {H wr : Heap} {nw : List Nat} (h : StepPost g w H wr nw g' w') (hH : HeapOK g w H) : HeapOK g' w' (wr ++ H) := by
  have fr : ∀ n r, H.get n = some r → n ∉ keys wr → resOK g' w' n r ∧ blkOf g' n r = blkOf g n r := fun n r hr hn =>
    (hH.ok n r hr).frame h.delta hn (fun b hb ⟨m, s, hm, hs, hbs⟩ => hn (by rw [hH.disj n m r s b hr hs hb hbs]; exact hm))
  refine ⟨fun n r hr => ?_, fun n n' r r' b hr hr' hb hb' => ?_⟩
  · rw [Heap.get_append] at hr
    by_cases hk : n ∈ keys wr
    · rw [if_pos hk] at hr; exact (h.res n r hr hk).1
    · rw [if_neg hk] at hr; exact (fr n r hr hk).1
  · rw [Heap.get_append] at hr hr'
    have cross : ∀ n n' r r', H.get n = some r → n ∉ keys wr → wr.get n' = some r' → n' ∈ keys wr → blkOf g' n r = some b → blkOf g' n' r' = some b → False := by
      intro n n' r r' hr hk hr' hk' hb hb'
      have hb0 : blkOf g n r = some b := by rw [← (fr n r hr hk).2]; exact hb
      rcases (h.res n' r' hr' hk').2 b hb' with ⟨m, s, hm, hs, hbs⟩ | hge
      · exact hk (by rw [hH.disj n m r s b hr hs hb0 hbs]; exact hm)
      · have := Res.blk_lt (hH.ok n r hr) hb0; omega
    by_cases hk : n ∈ keys wr <;> by_cases hk' : n' ∈ keys wr
    · rw [if_pos hk] at hr; rw [if_pos hk'] at hr'; exact h.disj n n' r r' b hk hk' hr hr' hb hb'
    · rw [if_pos hk] at hr; rw [if_neg hk'] at hr'; exact (cross n' n r' r hr' hk' hr hk hb' hb).elim
    · rw [if_neg hk] at hr; rw [if_pos hk'] at hr'; exact (cross n n' r r' hr hk hr' hk' hb hb').elim
    · rw [if_neg hk] at hr; rw [if_neg hk'] at hr'
      exact hH.disj n n' r r' b hr hr' (by rw [← (fr n r hr hk).2]; exact hb) (by rw [← (fr n' r' hr' hk').2]; exact hb')

theorem StepPost.same (g : G) (w : World) (H : Heap) (nw : List Nat) : StepPost g w H [] nw g w :=
  ⟨Delta.refl g w _ _ _, fun n r _ hn => by simp at hn, fun n n' r r' b hn => by simp at hn⟩

end Go.AL

/-
  The layer AL, part 6b: literals of slices, structs, arrays; slicing; nil.
-/
import Derived.Test.YtaghcjbpjnpkbaaGreatAL7
import Derived.Laws.Pointers
set_option linter.unusedSimpArgs false
set_option linter.unusedVariables false
namespace Go.AL
open Go

theorem zip_fold (cells : Array Value) (off : Nat) : ∀ (l : List Value) (k : Nat), off + k + l.length ≤ cells.size →
    ((l.zipIdx k).foldl (fun cs (p : Value × Nat) => cs.setIfInBounds (off + p.2) p.1) cells).toList = splice cells.toList (off + k) l := by
  intro l
  induction l generalizing cells with
  | nil => intro k _; simp [splice]
  | cons v l ih =>
    intro k h
    simp only [List.zipIdx_cons, List.foldl_cons]
    simp at h
    rw [ih _ (k + 1) (by simp; omega)]
    have hl : (cells.setIfInBounds (off + k) v).toList = cells.toList.set (off + k) v := by simp
    rw [hl]
    apply List.ext_getElem?
    intro j
    rw [splice_get (by simp; omega), splice_get (by simp; omega)]
    simp only [List.length_cons, List.getElem?_set]
    by_cases h1 : j < off + k
    · have a1 : j < off + (k + 1) := by omega
      have a2 : ¬ off + k = j := by omega
      simp only [a1, a2, h1, if_true, if_false]
    · by_cases h2 : j = off + k
      · subst h2
        have a1 : off + k < off + (k + 1) := by omega
        have a3 : off + k < off + k + (l.length + 1) := by omega
        have a4 : off + k < cells.toList.length := by simp; omega
        simp only [a1, a3, a4, h1, if_true, if_false]
        simp
      · have a1 : ¬ j < off + (k + 1) := by omega
        have a2 : ¬ off + k = j := by omega
        by_cases h3 : j < off + (k + 1) + l.length
        · have a3 : j < off + k + (l.length + 1) := by omega
          simp only [a1, a2, a3, h1, h3, if_true, if_false]
          rw [show j - (off + k) = (j - (off + (k + 1))) + 1 by omega, List.getElem?_cons_succ]
        · have a3 : ¬ j < off + k + (l.length + 1) := by omega
          simp only [a1, a2, a3, h1, h3, if_true, if_false]

def buildA : AV → List (Nat × AV) → AV
  | z, [] => z
  | z, (i, u) :: r => buildA (z.setPart i u) r
def buildVC (pl : Nat → Option (Nat × Nat)) : AV → List (Nat × AV) → Prop
  | _, [] => True
  | z, (i, u) :: r => (i < z.parts.length ∧ pl i = some (z.partOff i, u.csize) ∧ u.csize = (z.parts.getD i .undef).csize ∧ u.good = true) ∧ buildVC pl (z.setPart i u) r

theorem fill_ok {g : G} {w : World} (pl : Nat → Option (Nat × Nat)) : ∀ (ps : List (Nat × AV)) (vs : List (Nat × Value)) (z : AV) (cells : Array Value), z.isAgg = true → R g w (.one z cells.toList) →
    ps.length = vs.length → (∀ (k : Nat) (x : Nat × AV) (y : Nat × Value), ps[k]? = some x → vs[k]? = some y → x.1 = y.1 ∧ V1 g w x.2 y.2) → buildVC pl z ps →
    ∃ cells', Instr.fill pl cells vs = some cells' ∧ R g w (.one (buildA z ps) cells'.toList) ∧ (buildA z ps).isAgg = true
  | [], [], z, cells, hz, h, _, _, _ => ⟨cells, rfl, h, hz⟩
  | [], _ :: _, _, _, _, _, hl, _, _ => by simp at hl
  | _ :: _, [], _, _, _, _, hl, _, _ => by simp at hl
  | (i, u) :: ps, (j, v) :: vs, z, cells, hz, h, hl, hv, hvc => by
    obtain ⟨⟨h1, h2, h3, h4⟩, hrest⟩ := hvc
    obtain ⟨e1, e2⟩ := hv 0 (i, u) (j, v) rfl rfl
    simp only at e1 e2
    subst e1
    have hu := (e2.toV0 h4).1
    have hul := hu.length
    have hp := (h.part h1).2
    obtain ⟨k1, k2, k3⟩ := h.setPart h1 hu h3
    rw [← h3] at hp
    have hcl : cells.toList.length = cells.size := by simp
    have hvl : v.cells.toList.length = v.cells.size := by simp
    have hzf := zip_fold cells (z.partOff i) v.cells.toList 0 (by omega)
    let cells2 := v.cells.zipIdx.foldl (fun cs (p : Value × Nat) => cs.setIfInBounds (z.partOff i + p.2) p.1) cells
    have hc2 : cells2.toList = splice cells.toList (z.partOff i) v.cells.toList := by
      have : cells2 = (v.cells.toList.zipIdx 0).foldl (fun cs (p : Value × Nat) => cs.setIfInBounds (z.partOff i + p.2) p.1) cells := by
        simp only [cells2]
        rw [← Array.foldl_toList, Array.toList_zipIdx]
      rw [this, hzf]; rfl
    obtain ⟨cells', m1, m2, m3⟩ := fill_ok pl ps vs (z.setPart i u) cells2 (by rw [k3]; exact hz) (by rw [hc2]; exact k1) (by simpa using hl) (fun k x y hx hy => hv (k + 1) x y (by simpa using hx) (by simpa using hy)) hrest
    refine ⟨cells', ?_, m2, m3⟩
    have hsz : v.cells.size = u.csize := by simpa using hul
    simp only [Instr.fill, h2]
    rw [if_neg (by simp only [hsz, ne_eq, not_true_eq_false, decide_false, Bool.false_or, decide_eq_true_eq]; omega)]
    exact m1

def tplace (P : Program) (T : TypeId) (i : Nat) : Option (Nat × Nat) :=
  match tfld P T i with
  | some (o, t) => (tsz P t).map (o, ·)
  | none => none

def tpos (P : Program) (T : TypeId) : Bool :=
  match tsz P T with
  | some (_ + 1) => true
  | _ => false
theorem tpos_ok {P : Program} {T : TypeId} (h : tpos P T = true) : ∃ s, tsz P T = some (s + 1) := by
  unfold tpos at h; split at h
  · exact ⟨_, by assumption⟩
  · cases h
def isRange : Nat → List Nat → Nat → Prop
  | k, [], n => k = n
  | k, i :: r, n => i = k ∧ isRange (k + 1) r n
theorem isRange_ok : ∀ (l : List Nat) (k n : Nat), isRange k l n → l = List.range' k (n - k) ∧ k ≤ n
  | [], k, n, h => by
    have h' : k = n := h
    subst h'; simp
  | i :: r, k, n, h => by
    obtain ⟨h1, h2⟩ := h
    obtain ⟨k1, k2⟩ := isRange_ok r (k + 1) n h2
    subst h1
    refine ⟨?_, by omega⟩
    rw [k1, show n - i = (n - (i + 1)) + 1 by omega, List.range'_succ]
theorem isRange_range {l : List Nat} {n : Nat} (h : isRange 0 l n) : l = List.range n := by
  rw [(isRange_ok l 0 n h).1, List.range_eq_range', Nat.sub_zero]

theorem splice_same {cs : List Value} {off : Nat} {v : Value} (h : (cs.drop off).take 1 = [v]) : splice cs off [v] = cs := by
  have hlt : off < cs.length := by
    rcases Nat.lt_or_ge off cs.length with h' | h'
    · exact h'
    · rw [List.drop_eq_nil_of_le h'] at h; simp at h
  have hv : cs[off]? = some v := by
    have := congrArg (fun l => l[0]?) h
    simpa [List.getElem?_take_of_lt] using this
  apply List.ext_getElem?
  intro j
  rw [splice_get (by show off + 1 ≤ cs.length; omega)]
  by_cases h1 : j < off
  · rw [if_pos h1]
  · rw [if_neg h1]
    by_cases h2 : j < off + [v].length
    · rw [if_pos h2]
      have : j = off := by simp at h2; omega
      subst this
      simp [hv]
    · rw [if_neg h2]

section
variable {P : Program} {o : Oper} {env : Env} {H : Heap}

theorem R.retok {g : G} {w : World} {a : AV} {cs : List Value} {path : List Nat} {sz : Nat} (h : R g w (.one a cs)) (hp : a.okPath path) {L : List AV} (he : a.at_ path = .sl sz L 1) (sz' n : Nat) (hz : sz' = sz ∨ L = []) :
    R g w (.one (a.setAt path (.sl sz' L (n + 2))) cs) := by
  obtain ⟨h1, h2⟩ := h.at_ hp
  rw [he] at h1 h2
  obtain ⟨v, hv, hc⟩ := h1.single rfl
  have h3 : R g w (.one (.sl sz' L (n + 2)) [v]) := by
    rw [hv] at h1
    rcases V1_sl (show V1 g w (.sl sz L 1) v from V0.of_cell h1 rfl) with ⟨rfl, _, rfl⟩ | ⟨b, q, c, rfl, k1, k2, k3⟩
    · exact .slNil
    · refine .sl k1 ?_ (.inl k3)
      rcases hz with rfl | rfl
      · exact k2
      · exact .memNil
  have h4 := (h.setAt hp h3 (by rw [he]; rfl)).1
  rw [splice_same hv] at h4
  exact h4

def retok1 (n : Nat) (path : List Nat × Nat) (a : AV) : Option (AV × Nat) :=
  match a.at_ path.1 with
  | .sl _ [] 1 => some (a.setAt path.1 (.sl path.2 [] (n + 2)), 0)
  | .sl sz (x :: L) 1 => some (a.setAt path.1 (.sl sz (x :: L) (n + 2)), L.length + 1)
  | _ => none

def Out.tokV (out : Out) (path : List Nat × Nat) (n : Nat) : Option Out :=
  match out.wr with
  | (m, some (.obj a)) :: t => match retok1 n path a with
    | some (a', l) => some ⟨out.vc ∧ a.okPath path.1 ∧ ∀ k ∈ out.nw, k ≠ n, out.av, out.rd, (m, some (.obj a')) :: (n, some (.tail l)) :: t, n :: out.nw⟩
    | none => none
  | t => match retok1 n path out.av with
    | some (a', l) => some ⟨out.vc ∧ out.av.okPath path.1 ∧ (∀ k ∈ out.nw, k ≠ n) ∧ out.av.good = true, a', out.rd, (n, some (.tail l)) :: t, n :: out.nw⟩
    | none => none

theorem retok1_some {n l : Nat} {path : List Nat × Nat} {a a' : AV} (h : retok1 n path a = some (a', l)) : ∃ sz sz' L, a.at_ path.1 = .sl sz L 1 ∧ a' = a.setAt path.1 (.sl sz' L (n + 2)) ∧ (sz' = sz ∨ L = []) := by
  unfold retok1 at h
  split at h
  · rename_i sz hl
    simp only [Option.some.injEq, Prod.mk.injEq] at h
    exact ⟨sz, path.2, [], hl, h.1.symm, .inr rfl⟩
  · rename_i sz x L hl
    simp only [Option.some.injEq, Prod.mk.injEq] at h
    exact ⟨sz, sz, x :: L, hl, h.1.symm, .inl rfl⟩
  · cases h

theorem isAgg_setAt {a : AV} {path : List Nat} {sz sz' : Nat} {L : List AV} {tok : Nat} (he : a.at_ path = .sl sz L 1) : (a.setAt path (.sl sz' L tok)).isAgg = a.isAgg := by
  cases path with
  | nil =>
    have : a = .sl sz L 1 := he
    subst this; rfl
  | cons i r => simp only [AV.setAt]; cases a <;> rfl

theorem StepPost.retok {g g' : G} {w w' : World} {wr wr' : Heap} {nw : List Nat} {n l : Nat} (h : StepPost g w H wr nw g' w') (hn : ¬ g'.use n) (hk : ∀ k ∈ keys wr', k = n ∨ k ∈ keys wr) (hkk : ∀ k ∈ keys wr, k ∈ keys wr') (hkn : n ∈ keys wr')
    (ht : wr'.get n = some (.tail l)) (hr : ∀ k r, k ≠ n → wr'.get k = some r → wr.get k = some r ∨ ∃ a a', wr.get k = some (.obj a) ∧ r = .obj a' ∧ ∀ cs, R g' w' (.one a cs) → R g' w' (.one a' cs)) :
    StepPost g w H wr' (n :: nw) (g'.newName n (fun _ => none) l) w' := by
  have hd0 := Delta.name (w := w') hn (fun _ => none) l (fun _ => False) (fun _ => False) (· = n) rfl
  have hd := (h.delta.trans hd0).mono (D' := Blks g H (keys wr')) (T' := (· ∈ keys wr')) (N' := (· ∈ n :: nw)) (fun b _ hb => hb.elim (fun ⟨m, r, c1, c2, c3⟩ => ⟨m, r, hkk m c1, c2, c3⟩) False.elim) (fun m _ hm => hm.elim (hkk m) False.elim) (fun m hm => hm.elim (List.mem_cons_of_mem _) (fun e => by rw [e]; exact List.mem_cons_self))
  have hblk : ∀ k r r0, k ≠ n → (r = r0 ∨ ∃ a a', r0 = .obj a ∧ r = .obj a') → blkOf (g'.newName n (fun _ => none) l) k r = blkOf g' k r0 := by
    intro k r r0 hk' hrr
    rcases hrr with rfl | ⟨a, a', rfl, rfl⟩
    · cases r <;> simp [blkOf, G.newName, hk']
    · simp [blkOf, G.newName, hk']
  have old : ∀ k r, k ∈ keys wr' → k ≠ n → wr'.get k = some r → ∃ r0, wr.get k = some r0 ∧ k ∈ keys wr ∧ resOK (g'.newName n (fun _ => none) l) w' k r ∧ blkOf (g'.newName n (fun _ => none) l) k r = blkOf g' k r0 := by
    intro k r hkm hkne hkr
    have hkw : k ∈ keys wr := (hk k hkm).resolve_left hkne
    rcases hr k r hkne hkr with h1 | ⟨a, a', h1, rfl, h2⟩
    · obtain ⟨q1, q2⟩ := h.res k r h1 hkw
      exact ⟨r, h1, hkw, (q1.frame hd0 (fun h => h) (fun _ _ h => h)).1, hblk k r r hkne (.inl rfl)⟩
    · obtain ⟨⟨u, b, x, arr, T, q1, q2, q3, q4⟩, q5⟩ := h.res k _ h1 hkw
      have q : resOK g' w' k (.obj a') := ⟨u, b, x, arr, T, q1, q2, h2 _ q3, q4⟩
      exact ⟨_, h1, hkw, (q.frame hd0 (fun h => h) (fun _ _ h => h)).1, hblk k _ _ hkne (.inr ⟨a, a', rfl, rfl⟩)⟩
  refine ⟨hd, fun k r hkr hkm => ?_, fun k k' r r' b hk1 hk2 hr1 hr2 hb1 hb2 => ?_⟩
  · by_cases e : k = n
    · subst e
      rw [ht] at hkr; injection hkr with hkr; subst hkr
      exact ⟨⟨.inl rfl, by simp [G.newName], fun b e' c' hb => by simp [G.newName] at hb⟩, fun b hb => by simp [blkOf, G.newName] at hb⟩
    · obtain ⟨r0, o1, o2, o3, o4⟩ := old k r hkm e hkr
      refine ⟨o3, fun b hb => ?_⟩
      rw [o4] at hb
      rcases (h.res k r0 o1 o2).2 b hb with ⟨m, s, c1, c2, c3⟩ | c
      · exact .inl ⟨m, s, hkk m c1, c2, c3⟩
      · exact .inr c
  · have nb : ∀ r, wr'.get n = some r → blkOf (g'.newName n (fun _ => none) l) n r = none := by
      intro r hr'
      rw [ht] at hr'; injection hr' with hr'; subst hr'
      simp [blkOf, G.newName]
    by_cases e : k = n
    · subst e; rw [nb r hr1] at hb1; cases hb1
    · by_cases e' : k' = n
      · subst e'; rw [nb r' hr2] at hb2; cases hb2
      · obtain ⟨r0, o1, o2, o3, o4⟩ := old k r hk1 e hr1
        obtain ⟨r0', o1', o2', o3', o4'⟩ := old k' r' hk2 e' hr2
        rw [o4] at hb1
        rw [o4'] at hb2
        exact h.disj k k' r0 r0' b o2 o2' o1 o1' hb1 hb2

theorem Out.tokV_ok {out out' : Out} {path : List Nat × Nat} {n : Nat} (h : OpOK P o env H out) (ht : out.tokV path n = some out') : OpOK P o env H out' := by
  unfold Out.tokV at ht
  split at ht
  · rename_i m a t hw
    split at ht
    · rename_i a' l hr
      injection ht with ht; subst ht
      obtain ⟨sz, sz', L, r1, rfl, r2⟩ := retok1_some hr
      intro ρ g w hc0 hop hi hrd hnw hvc
      obtain ⟨v1, v2, v3⟩ := hvc
      have hkin : ∀ k, k ∈ keys out.wr → k ∈ keys ((m, some (Res.obj (a.setAt path.1 (.sl sz' L (n + 2))))) :: (n, some (.tail l)) :: t) := by
        intro k hk
        rw [hw] at hk
        simp only [keys, List.map_cons, List.mem_cons] at hk ⊢
        rcases hk with hk | hk
        · exact .inl hk
        · exact .inr (.inr hk)
      obtain ⟨g', w', v, q1, q2, q3⟩ := h ρ g w hc0 hop hi (fun k hk => hrd k (hk.imp id (hkin k))) (fun k hk => hnw k (List.mem_cons_of_mem _ hk)) v1
      have hfr : ¬ g'.use n := fun hu => by
        rcases q3.delta.names n hu with h1 | h1
        · exact hnw n List.mem_cons_self h1
        · exact v3 n h1 rfl
      have hm : m ≠ n := fun e => by
        have := (q3.res m (.obj a) (by rw [hw]; simp [Heap.get]) (by rw [hw]; simp [keys])).1.1
        exact hfr (e ▸ this)
      have hd0 := Delta.name (w := w') hfr (fun _ => none) l (fun _ => False) (fun _ => False) (· = n) rfl
      refine ⟨_, w', v, q1, q2.ext hd0.ext, q3.retok hfr (fun k hk => ?_) hkin (by simp [keys]) (by simp [Heap.get, hm]) (fun k r hkn hkr => ?_)⟩
      · rw [hw]
        simp only [keys, List.map_cons, List.mem_cons] at hk ⊢
        rcases hk with hk | hk | hk
        · exact .inr (.inl hk)
        · exact .inl hk
        · exact .inr (.inr hk)
      · rw [hw]
        simp only [Heap.get] at hkr ⊢
        by_cases e : m = k
        · rw [if_pos e] at hkr ⊢
          injection hkr with hkr
          exact .inr ⟨a, _, rfl, hkr.symm, fun cs hcs => hcs.retok v2 r1 _ n r2⟩
        · rw [if_neg e, if_neg (Ne.symm hkn)] at hkr
          rw [if_neg e]
          exact .inl hkr
    · cases ht
  · split at ht
    · rename_i a' l hr
      injection ht with ht; subst ht
      obtain ⟨sz, sz', L, r1, rfl, r2⟩ := retok1_some hr
      intro ρ g w hc0 hop hi hrd hnw hvc
      obtain ⟨v1, v2, v3, v4⟩ := hvc
      obtain ⟨g', w', v, q1, q2, q3⟩ := h ρ g w hc0 hop hi (fun k hk => hrd k (hk.imp id (fun hk => by simp only [keys, List.map_cons, List.mem_cons]; exact .inr hk))) (fun k hk => hnw k (List.mem_cons_of_mem _ hk)) v1
      have hfr : ¬ g'.use n := fun hu => by
        rcases q3.delta.names n hu with h1 | h1
        · exact hnw n List.mem_cons_self h1
        · exact v3 n h1 rfl
      have hd0 := Delta.name (w := w') hfr (fun _ => none) l (fun _ => False) (fun _ => False) (· = n) rfl
      have hv := q2.toV0 v4
      refine ⟨_, w', v, q1, .of_V0 ⟨(hv.1.retok v2 r1 _ n r2).ext hd0.ext, by rw [isAgg_setAt r1]; exact hv.2⟩, q3.retok hfr (fun k hk => ?_) (fun k hk => ?_) (by simp [keys]) (by simp [Heap.get]) (fun k r hkn hkr => ?_)⟩
      · simp only [keys, List.map_cons, List.mem_cons] at hk ⊢
        exact hk
      · simp only [keys, List.map_cons, List.mem_cons]; exact .inr hk
      · simp only [Heap.get] at hkr
        rw [if_neg (Ne.symm hkn)] at hkr
        exact .inl hkr
    · cases ht

def Out.toks (nm : Nat) : Nat → List (List Nat × Nat) → Out → Option Out
  | _, [], out => some out
  | j, p :: ps, out => if j < 8 then (out.tokV p (nm + j)).bind (Out.toks nm (j + 1) ps) else none

theorem Out.toks_ok {nm : Nat} : ∀ {ps : List (List Nat × Nat)} {j : Nat} {out out' : Out}, OpOK P o env H out → out.toks nm j ps = some out' → OpOK P o env H out'
  | [], j, out, out', h, ht => by injection ht with ht; subst ht; exact h
  | p :: ps, j, out, out', h, ht => by
    simp only [Out.toks] at ht
    split at ht
    · simp only [Option.bind_eq_some_iff] at ht
      obtain ⟨x, h1, h2⟩ := ht
      exact Out.toks_ok (Out.tokV_ok h h1) h2
    · cases ht

theorem Out.tokV_nw {out out' : Out} {path : List Nat × Nat} {n : Nat} (ht : out.tokV path n = some out') : out'.nw = n :: out.nw ∧ ∀ k ∈ keys out'.wr, k = n ∨ k ∈ keys out.wr := by
  unfold Out.tokV at ht
  split at ht
  · rename_i m a t hw
    split at ht
    · injection ht with ht; subst ht
      refine ⟨rfl, fun k hk => ?_⟩
      rw [hw]
      simp only [keys, List.map_cons, List.mem_cons] at hk ⊢
      rcases hk with hk | hk | hk
      · exact .inr (.inl hk)
      · exact .inl hk
      · exact .inr (.inr hk)
    · cases ht
  · split at ht
    · injection ht with ht; subst ht
      exact ⟨rfl, fun k hk => by simpa [keys] using hk⟩
    · cases ht

theorem Out.toks_nw {nm : Nat} : ∀ {ps : List (List Nat × Nat)} {j : Nat} {out out' : Out}, out.toks nm j ps = some out' → (∀ k ∈ out'.nw, k ∈ out.nw ∨ (nm ≤ k ∧ k < nm + 8)) ∧ (∀ k ∈ out.nw, k ∈ out'.nw) ∧ ∀ k ∈ keys out'.wr, k ∈ out'.nw ∨ k ∈ keys out.wr
  | [], j, out, out', ht => by injection ht with ht; subst ht; exact ⟨fun k hk => .inl hk, fun k hk => hk, fun k hk => .inr hk⟩
  | p :: ps, j, out, out', ht => by
    simp only [Out.toks] at ht
    split at ht
    · simp only [Option.bind_eq_some_iff] at ht
      obtain ⟨x, h1, h2⟩ := ht
      obtain ⟨a1, a2⟩ := Out.tokV_nw h1
      obtain ⟨b1, b2, b3⟩ := Out.toks_nw h2
      rw [a1] at b1 b2
      refine ⟨fun k hk => ?_, fun k hk => b2 k (List.mem_cons_of_mem _ hk), fun k hk => ?_⟩
      · rcases b1 k hk with h | h
        · rcases List.mem_cons.1 h with h | h
          · exact .inr (by omega)
          · exact .inl h
        · exact .inr h
      · rcases b3 k hk with h | h
        · exact .inl h
        · rcases a2 k h with h | h
          · exact .inl (b2 k (by rw [h]; exact List.mem_cons_self))
          · exact .inr h
    · cases ht

theorem mapM_fields {P : Program} {w : World} : ∀ (fs : List Field), (∀ f ∈ fs, ∃ n, tsz P f.type = some n) → ∃ ps : List (Nat × Nat), (fs.mapM fun (f : Field) => (do Pure.pure (f.offset, ← sizeOf f.type) : Sem (Nat × Nat))).run P w = .ok ps w ∧
      ∀ i : Nat, ps[i]? = (fs[i]?).bind fun (f : Field) => (tsz P f.type).map fun n => (f.offset, n)
  | [], _ => ⟨[], by simp, fun i => by simp⟩
  | f :: fs, h => by
    obtain ⟨n, hn⟩ := h f List.mem_cons_self
    obtain ⟨ps, h1, h2⟩ := mapM_fields (w := w) fs (fun x hx => h x (List.mem_cons_of_mem _ hx))
    refine ⟨(f.offset, n) :: ps, by simp only [List.mapM_cons, Sem.run_bind, tsz_run hn, Result.andThen_ok, Sem.run_pure, h1], fun i => ?_⟩
    cases i with
    | zero => simp [hn]
    | succ i => simpa using h2 i

def tflds (P : Program) (T : TypeId) : Bool :=
  match P.underlying T with
  | some (.struct fs) => fs.toList.all fun f => (tsz P f.type).isSome
  | _ => false

theorem parts_of (ρ : Operand → Value) (g : G) (w : World) (ps : List (Nat × Operand)) (hop : ∀ x ∈ ps.map (·.2), V1 g w (evA env x) (ρ x)) :
    (ps.map fun p => (p.1, evA env p.2)).length = (ps.map fun p => (p.1, ρ p.2)).length ∧
      ∀ (k : Nat) (x : Nat × AV) (y : Nat × Value), (ps.map fun p => (p.1, evA env p.2))[k]? = some x → (ps.map fun p => (p.1, ρ p.2))[k]? = some y → x.1 = y.1 ∧ V1 g w x.2 y.2 := by
  refine ⟨by simp, fun k x y hx hy => ?_⟩
  rw [List.getElem?_map] at hx hy
  cases hk : ps[k]? with
  | none => simp [hk] at hx
  | some p =>
    simp [hk] at hx hy
    subst hx hy
    exact ⟨rfl, hop _ (List.mem_map.2 ⟨p, List.mem_of_getElem? hk, rfl⟩)⟩

theorem op_build_struct {T : TypeId} {ps : Array (Nat × Operand)} {z : AV} (ho : o.op = .build T ps) (hz : ZeroOK P T z) (hf : tflds P T = true) :
    OpOK P o env H ⟨z.isAgg = true ∧ buildVC (tplace P T) z (ps.toList.map fun p => (p.1, evA env p.2)), buildA z (ps.toList.map fun p => (p.1, evA env p.2)), [], [], []⟩ := by
  refine .pure fun ρ g w hop _ hvc => ?_
  obtain ⟨v1, v2⟩ := hvc
  obtain ⟨zv, hz1, hz2⟩ := hz.run
  obtain ⟨zc, rfl, hzr⟩ := V0.agg (hz2 g w) v1
  unfold tflds at hf
  split at hf
  · rename_i fs hu
    obtain ⟨pl, hp1, hp2⟩ := mapM_fields (P := P) (w := w) fs.toList (fun f hf' => by
      have := List.all_eq_true.1 hf f hf'
      exact Option.isSome_iff_exists.1 this)
    obtain ⟨q1, q2⟩ := parts_of (env := env) ρ g w ps.toList (fun x hx => hop x (by simp only [Op.operands, ho]; simpa using hx))
    have hpl : ∀ i, pl.toArray[i]? = tplace P T i := fun i => by
      simp only [tplace, tfld, hu]
      have := hp2 i
      simp only [List.getElem?_toArray]
      rw [this, Array.getElem?_toList]
      cases fs[i]? <;> rfl
    obtain ⟨cells', m1, m2, m3⟩ := fill_ok (tplace P T) _ _ z zc v1 hzr q1 q2 v2
    refine ⟨.agg cells', ?_, .of_V0 (V0.of_agg m2 m3)⟩
    have e3 : (fs.mapM fun (f : Field) => (do Pure.pure (f.offset, ← sizeOf f.type) : Sem (Nat × Nat))).run P w = .ok pl.toArray w := by
      rw [Array.mapM_eq_mapM_toList]
      simp only [Sem.run_map, hp1, Result.andThen_ok]
    simp only [execOp, ho, Instr.build, Sem.run_bind, hz1, Result.andThen_ok, run_underlying hu]
    have e4 : (fun x => pl.toArray[x]?) = tplace P T := funext hpl
    have e5 : (Array.map (fun (x : Nat × Operand) => (x.fst, ρ x.snd)) ps).toList = ps.toList.map fun p => (p.1, ρ p.2) := by rw [Array.toList_map]
    rw [e3]
    simp only [Result.andThen_ok, e4, e5, Value.cells, m1, Sem.run_pure]
  · cases hf

theorem op_build_array {T e : TypeId} {n sz : Nat} {ps : Array (Nat × Operand)} {z : AV} (ho : o.op = .build T ps) (hz : ZeroOK P T z) (hT : tarr P T = some (n, e)) (hs : tsz P e = some sz) :
    OpOK P o env H ⟨z.isAgg = true ∧ buildVC (fun i => some (i * sz, sz)) z (ps.toList.map fun p => (p.1, evA env p.2)), buildA z (ps.toList.map fun p => (p.1, evA env p.2)), [], [], []⟩ := by
  refine .pure fun ρ g w hop _ hvc => ?_
  obtain ⟨v1, v2⟩ := hvc
  obtain ⟨zv, hz1, hz2⟩ := hz.run
  obtain ⟨zc, rfl, hzr⟩ := V0.agg (hz2 g w) v1
  obtain ⟨q1, q2⟩ := parts_of (env := env) ρ g w ps.toList (fun x hx => hop x (by simp only [Op.operands, ho]; simpa using hx))
  obtain ⟨cells', m1, m2, m3⟩ := fill_ok (fun i => some (i * sz, sz)) _ _ z zc v1 hzr q1 q2 v2
  refine ⟨.agg cells', ?_, .of_V0 (V0.of_agg m2 m3)⟩
  have e5 : (Array.map (fun (x : Nat × Operand) => (x.fst, ρ x.snd)) ps).toList = ps.toList.map fun p => (p.1, ρ p.2) := by rw [Array.toList_map]
  simp only [execOp, ho, Instr.build, Sem.run_bind, hz1, Result.andThen_ok, run_underlying (tarr_und hT), tsz_run hs, e5, Value.cells, m1, Sem.run_pure]

theorem fill_slice {g : G} {w : World} (sz : Nat) : ∀ (us : List AV) (vs : List Value) (k : Nat) (cells : Array Value), us.length = vs.length → (∀ (i : Nat) (x : AV) (y : Value), us[i]? = some x → vs[i]? = some y → V1 g w x y) → (∀ u ∈ us, u.good = true ∧ u.csize = sz) →
    (k + us.length) * sz = cells.size →
    ∃ cells', Instr.fill (fun i => some (i * sz, sz)) cells ((vs.zipIdx k).map fun p => (p.2, p.1)) = some cells' ∧ ∃ ncs, R g w (.useq sz us ncs) ∧ cells'.toList = cells.toList.take (k * sz) ++ ncs
  | [], [], k, cells, _, _, _, hk => ⟨cells, rfl, [], .useqNil, by
      simp at hk
      rw [List.append_nil, List.take_of_length_le (by simp; omega)]⟩
  | [], _ :: _, _, _, h, _, _, _ => by simp at h
  | _ :: _, [], _, _, h, _, _, _ => by simp at h
  | u :: us, v :: vs, k, cells, hl, hv, hu, hk => by
    have hu0 := hu u List.mem_cons_self
    have hv0 := ((hv 0 u v rfl rfl).toV0 hu0.1).1
    have hvl := hv0.length
    have hcl : cells.toList.length = cells.size := by simp
    have hvl2 : v.cells.toList.length = v.cells.size := by simp
    have hk' : k * sz + sz + us.length * sz = cells.size := by
      rw [← hk]; simp [Nat.add_mul]; omega
    have hzf := zip_fold cells (k * sz) v.cells.toList 0 (by omega)
    let cells2 := v.cells.zipIdx.foldl (fun cs (p : Value × Nat) => cs.setIfInBounds (k * sz + p.2) p.1) cells
    have hc2 : cells2.toList = splice cells.toList (k * sz) v.cells.toList := by
      have : cells2 = (v.cells.toList.zipIdx 0).foldl (fun cs (p : Value × Nat) => cs.setIfInBounds (k * sz + p.2) p.1) cells := by
        simp only [cells2]
        rw [← Array.foldl_toList, Array.toList_zipIdx]
      rw [this, hzf]; rfl
    have hs2 : cells2.size = cells.size := by
      have := congrArg List.length hc2
      rw [splice_length (by omega)] at this
      simpa using this
    obtain ⟨cells', m1, ncs, m2, m3⟩ := fill_slice sz us vs (k + 1) cells2 (by simpa using hl) (fun i x y hx hy => hv (i + 1) x y (by simpa using hx) (by simpa using hy)) (fun x hx => hu x (List.mem_cons_of_mem _ hx)) (by
      rw [hs2, ← hk]; simp [Nat.add_mul]; omega)
    refine ⟨cells', ?_, v.cells.toList ++ ncs, .useqCons hv0 (by omega) m2, ?_⟩
    · simp only [List.zipIdx_cons, List.map_cons, Instr.fill]
      rw [if_neg (by
        have h1 : v.cells.size = sz := by omega
        simp only [h1, ne_eq, not_true_eq_false, decide_false, Bool.false_or, decide_eq_true_eq]; omega)]
      exact m1
    · rw [m3, hc2]
      have e1 : (splice cells.toList (k * sz) v.cells.toList).take ((k + 1) * sz) = cells.toList.take (k * sz) ++ v.cells.toList := by
        have hlt : (cells.toList.take (k * sz) ++ v.cells.toList).length = (k + 1) * sz := by
          rw [List.length_append, List.length_take, Nat.min_eq_left (by omega), Nat.add_mul]; omega
        unfold splice
        rw [← hlt, List.take_left]
      rw [e1, List.append_assoc]

theorem op_buildSlice {T e : TypeId} {n sz : Nat} {ps : Array (Nat × Operand)} {z : AV} (ho : o.op = .buildSlice T n ps) (hz : ZeroOK P e z) (hT : tsl P T = some e) (hs : tsz P e = some sz) (hi0 : isRange 0 (ps.toList.map (·.1)) n) :
    OpOK P o env H ⟨z.csize = sz ∧ sz ≠ 0 ∧ n * sz ≤ 2 ^ 24 ∧ ∀ u ∈ ps.toList.map (fun p => evA env p.2), u.good = true ∧ u.csize = sz, .sl sz (ps.toList.map fun p => evA env p.2) 1, [], [], []⟩ := by
  intro ρ g w hc0 hop hinv _ _ hvc
  obtain ⟨v1, v2, v3, v4⟩ := hvc
  have hi := isRange_range hi0
  obtain ⟨zv, hz1, hz2⟩ := hz.run
  have hzl : zv.cells.size = sz := by have := (hz2 g w).1.length; simp at this; omega
  have hn : ps.toList.length = n := by have := congrArg List.length hi; simpa using this
  have e5 : (Array.map (fun (x : Nat × Operand) => (x.fst, ρ x.snd)) ps).toList = ((ps.toList.map fun p => ρ p.2).zipIdx 0).map fun p => (p.2, p.1) := by
    rw [Array.toList_map]
    apply List.ext_getElem?
    intro i
    simp only [List.getElem?_map, List.getElem?_zipIdx]
    have h2 : (ps.toList.map (·.1))[i]? = (List.range n)[i]? := by rw [hi]
    rw [List.getElem?_map] at h2
    cases hp : ps.toList[i]? with
    | none => simp
    | some p =>
      have hlt : i < n := by
        rw [← hn]
        rcases Nat.lt_or_ge i ps.toList.length with h | h
        · exact h
        · rw [List.getElem?_eq_none h] at hp; cases hp
      rw [hp] at h2
      simp [hlt] at h2
      simp [h2]
  have hcs : ∀ cells : Array Value, cells.size = n * sz → ∃ cells', Instr.fill (fun i => some (i * sz, sz)) cells (Array.map (fun (x : Nat × Operand) => (x.fst, ρ x.snd)) ps).toList = some cells' ∧ R g w (.useq sz (ps.toList.map fun p => evA env p.2) cells'.toList) := by
    intro cells hc
    obtain ⟨cells', m1, ncs, m2, m3⟩ := fill_slice (g := g) (w := w) sz (ps.toList.map fun p => evA env p.2) (ps.toList.map fun p => ρ p.2) 0 cells (by simp) (fun i x y hx hy => by
      rw [List.getElem?_map] at hx hy
      cases hk : ps.toList[i]? with
      | none => simp [hk] at hx
      | some p =>
        simp [hk] at hx hy
        subst hx hy
        exact hop _ (by
          simp only [Op.operands, ho]
          simpa using ⟨p.1, by simpa using (Array.mem_toList_iff.1 (List.mem_of_getElem? hk))⟩)) v4 (by rw [hc, List.length_map, hn, Nat.zero_add])
    refine ⟨cells', by rw [e5]; exact m1, ?_⟩
    rw [m3]; simpa using m2
  let zero : Array Value := if n * sz = 0 then #[] else zv.cells
  let cells0 : Array Value := (Array.range (n * sz)).map (fun j => zero[j % zero.size]!)
  obtain ⟨cells', m1, m2⟩ := hcs cells0 (by simp [cells0])
  have hrun : (execOp ρ o).run P w = .ok (.value (.slice (some ⟨w.heap.size, 0, none⟩) n n)) (w.alloc (.cells cells' e)) := by
    have hlim : ¬ n * sz > 2 ^ 24 := by omega
    by_cases h0 : n * sz = 0
    · have m1' := m1
      simp only [cells0, zero, h0, if_true] at m1'
      simp only [execOp, ho, Instr.buildSlice, Sem.run_bind, Result.andThen_ok, run_underlying (tsl_und hT), tsz_run hs, if_neg hlim, Sem.run_pure, if_pos h0]
      rw [h0, m1']
      simp [newRow]
    · have m1' := m1
      simp only [cells0, zero, if_neg h0] at m1'
      simp only [execOp, ho, Instr.buildSlice, Sem.run_bind, Result.andThen_ok, run_underlying (tsl_und hT), tsz_run hs, if_neg hlim, Sem.run_pure, if_neg h0, hz1]
      rw [m1']
      simp [newRow]
  have hd := Delta.alloc hinv (.cells cells' e) (n * sz) (Blks g H (keys [])) (· ∈ keys ([] : Heap)) (· ∈ ([] : List Nat))
  refine ⟨_, _, _, .inl hrun, ?_, ⟨hd, fun n r _ hn => by simp at hn, fun n n' r r' b hn => by simp at hn⟩⟩
  have hlen : (ps.toList.map fun p => evA env p.2).length = n := by simpa using hn
  refine V0.of_cell ?_ rfl
  have hm : R (g.immSet w.heap.size (n * sz)) (w.alloc (.cells cells' e)) (.mem sz (ps.toList.map fun p => evA env p.2) w.heap.size 0) := by
    refine R.mem_of (m2.ext hd.ext) (RowAt.of_heap (T := e) (fz := (0, 0)) (heap_alloc_new w _)) ?_
    have := m2.ulength
    rw [hlen] at this
    simp [G.immSet] at this ⊢; omega
  have := R.sl (g := g.immSet w.heap.size (n * sz)) (tok := 1) (L := ps.toList.map fun p => evA env p.2) (c := n) (by rw [hlen]; exact Nat.le_refl _) hm (by show n = _; rw [hlen])
  rw [hlen] at this
  exact this

theorem op_eqNil {x y : Operand} {T U p : TypeId} {neg : Bool} (ho : o.op = .binOp (if neg then .neq else .eql) T x y U) (hT : tptr P T = some p) (b : Bool)
    (hx : ∀ (g : G) (w : World) v, V1 g w (evA env x) v → if b then v = .pointer none else ∃ a, v = .pointer (some a)) (hy : evA env y = .val (.pointer none)) :
    OpOK P o env H ⟨True, .val (.bool (if neg then !b else b)), [], [], []⟩ := by
  refine .pure fun ρ g w hop _ _ => ?_
  have h1 := hx g w _ (hop x (by simp [Op.operands, ho]))
  have h2 := hop y (by simp [Op.operands, ho])
  rw [hy] at h2
  obtain ⟨h6, _⟩ := V1_val h2
  have hpe : P.underlying T = some (.pointer (P.pointee T)) := by rw [tptr_und hT]; simp [Program.pointee, tptr_und hT]
  have hg : ∀ op (a : Option Addr), (eqGuard op T x y (.pointer a) (.pointer none)).run P w = .ok () w := by
    intro op a; unfold eqGuard; cases op <;> simp
  have key : ∀ a : Option Addr, ρ x = .pointer a → (execOp ρ o).run P w = .ok (.value (.bool (if neg then !a.isNone else a.isNone))) w := by
    intro a ha
    cases neg <;> simp [execOp, ho, ha, h6, hg, run_eql_pointer_nil w T a hpe, run_neq_pointer_nil w T a hpe]
  cases b with
  | true =>
    simp only [if_true] at h1
    exact ⟨_, key none h1, V1_mk rfl⟩
  | false =>
    obtain ⟨a, h1⟩ := (by simpa using h1 : ∃ a, ρ x = .pointer (some a))
    exact ⟨_, key (some a) h1, V1_mk rfl⟩
def tmap (P : Program) (T : TypeId) : Option (TypeId × TypeId) := match P.underlying T with | some (.map k e) => some (k, e) | _ => none
theorem tmap_und {P : Program} {T k e : TypeId} (h : tmap P T = some (k, e)) : P.underlying T = some (.map k e) := by
  unfold tmap at h
  split at h
  · rename_i hu; simp only [Option.some.injEq, Prod.mk.injEq] at h; obtain ⟨rfl, rfl⟩ := h; exact hu
  · cases h

theorem op_eqMapNil {x y : Operand} {T U k e : TypeId} {neg : Bool} (ho : o.op = .binOp (if neg then .neq else .eql) T x y U) (hT : tmap P T = some (k, e)) (b : Bool)
    (hx : ∀ (g : G) (w : World) v, V1 g w (evA env x) v → ∃ m : Option Nat, v = .map m ∧ m.isNone = b) (hy : evA env y = .val (.map none)) :
    OpOK P o env H ⟨True, .val (.bool (if neg then !b else b)), [], [], []⟩ := by
  refine .pure fun ρ g w hop _ _ => ?_
  obtain ⟨m, h1, rfl⟩ := hx g w _ (hop x (by simp [Op.operands, ho]))
  have h2 := hop y (by simp [Op.operands, ho])
  rw [hy] at h2
  obtain ⟨h6, _⟩ := V1_val h2
  have hu := tmap_und hT
  have he : (Op.equal T (.map m) (.map none)).run P w = .ok m.isNone w := by
    have key : ∀ d, (Op.equalIn (d + 1) T (.map m) (.map none)).run P w = .ok m.isNone w := fun d => by
      cases m <;> simp [Op.equalIn, run_underlying hu]
    exact key 9999
  have hg : ∀ op, (eqGuard op T x y (.map m) (.map none)).run P w = .ok () w := by
    intro op; unfold eqGuard; cases op <;> simp
  refine ⟨_, ?_, V1_mk rfl⟩
  cases neg <;> simp [execOp, ho, h1, h6, hg, binOp, he]

theorem op_makeMap {T : TypeId} (n : Nat) (ho : o.op = .makeMap T none) : OpOK P o env H ⟨True, .map n, [], [(n, some (.mp []))], [n]⟩ := by
  intro ρ g w hc0 hop hi _ hn _
  have h1 := Delta.name (w := w) (hn n (by simp)) (fun _ => some (w.heap.size, 0, 0)) 0 (Blks g H (keys [(n, some (Res.mp []))])) (· ∈ keys [(n, some (Res.mp []))]) (· ∈ [n]) (by simp)
  have hd0 := h1.trans (Delta.alloc (o := .map #[] 0) (h1.inv hi) 0 (Blks g H (keys [(n, some (Res.mp []))])) (· ∈ keys [(n, some (Res.mp []))]) (· ∈ [n]))
  have hd := hd0.mono (D' := Blks g H (keys [(n, some (Res.mp []))])) (T' := (· ∈ keys [(n, some (Res.mp []))])) (N' := (· ∈ [n])) (fun _ _ h => h.elim id id) (fun _ _ h => h.elim id id) (fun _ h => h.elim id id)
  have hrun : (Instr.makeMap T none).run P w = .ok (.map (some w.heap.size)) (w.alloc (.map #[] 0)) := rfl
  refine ⟨(g.newName n (fun _ => some (w.heap.size, 0, 0)) 0).immSet w.heap.size 0, w.alloc (.map #[] 0), .map (some w.heap.size), .inl ?_, V0.of_cell (.map (x := (0, 0)) (.inl rfl) (by simp [G.immSet, G.newName])) rfl, ⟨hd, fun k r hr' hk => ?_, fun k k' r r' b hk hk' _ _ _ _ => ?_⟩⟩
  · simp [execOp, ho, hrun]
  · simp [keys] at hk; subst hk
    simp [Heap.get] at hr'; subst hr'
    refine ⟨⟨.inl rfl, w.heap.size, (0, 0), #[], 0, by simp [G.immSet, G.newName], heap_alloc_new w _, ⟨⟨[], .refl _, .nil⟩, .nil, .nil, fun _ h => by simp at h⟩, by simp [G.immSet]⟩, fun b hb => .inr ?_⟩
    simp [blkOf, G.immSet, G.newName] at hb; omega
  · simp [keys] at hk hk'; omega
end
end Go.AL

/-
  The layer AL, part 8: a region's operations, in the order of the text or in whatever order its edges let come.
-/
import Derived.Test.YtaghcjbpjnpkbaaGreatAL7
set_option linter.unusedSimpArgs false
set_option linter.unusedVariables false
namespace Go.AL
open Go

/-! ### a small law on orders: what a place holds when a set of steps has come -/
section
open Classical
variable {L V : Type}

noncomputable def lastW (S : Nat → Prop) (W : Nat → L → Prop) (l : L) : Nat → Nat
  | 0 => 0
  | m + 1 => if S m ∧ W m l then m + 1 else lastW S W l m

theorem lastW_le (S : Nat → Prop) (W : Nat → L → Prop) (l : L) : ∀ m, lastW S W l m ≤ m
  | 0 => Nat.le_refl _
  | m + 1 => by
    unfold lastW
    split
    · exact Nat.le_refl _
    · exact Nat.le_succ_of_le (lastW_le S W l m)

theorem const_run {σ : Nat → L → V} {W : Nat → L → Prop} {l : L} {n : Nat} (hσ : ∀ i, i < n → ¬ W i l → σ (i + 1) l = σ i l) : ∀ (d a : Nat), a + d ≤ n → (∀ j, a ≤ j → j < a + d → ¬ W j l) → σ (a + d) l = σ a l
  | 0, a, _, _ => rfl
  | d + 1, a, h, hw => by
    rw [← Nat.add_assoc, hσ (a + d) (by omega) (hw _ (by omega) (by omega))]
    exact const_run hσ d a (by omega) (fun j h1 h2 => hw j h1 (by omega))

noncomputable def cur (σ : Nat → L → V) (S : Nat → Prop) (W : Nat → L → Prop) (n : Nat) (l : L) : V := σ (lastW S W l n) l

theorem lastW_none {S : Nat → Prop} {W : Nat → L → Prop} {l : L} : ∀ (m i : Nat), i ≤ m → (∀ j, i ≤ j → j < m → S j → ¬ W j l) → lastW S W l m = lastW S W l i
  | 0, i, hi, _ => by have : i = 0 := by omega
                      subst this; rfl
  | m + 1, i, hi, h => by
    rcases Nat.eq_or_lt_of_le hi with rfl | hlt
    · rfl
    · conv => lhs; unfold lastW
      rw [if_neg (fun hh => h m (by omega) (by omega) hh.1 hh.2)]
      exact lastW_none m i (by omega) (fun j h1 h2 => h j h1 (by omega))

theorem lastW_all {S : Nat → Prop} {W : Nat → L → Prop} {l : L} : ∀ (i j : Nat), j < i → W j l → (∀ j, j < i → W j l → S j) → j < lastW S W l i
  | 0, j, h, _, _ => by omega
  | i + 1, j, h, hw, hs => by
    unfold lastW
    split
    · omega
    · rename_i hn
      rcases Nat.eq_or_lt_of_le (Nat.lt_succ_iff.1 h) with rfl | hlt
      · exact absurd ⟨hs j (by omega) hw, hw⟩ hn
      · exact lastW_all i j hlt hw (fun j h1 h2 => hs j (by omega) h2)

theorem cur_eq {σ : Nat → L → V} {S : Nat → Prop} {W : Nat → L → Prop} {n i : Nat} {l : L} (hσ : ∀ i, i < n → ¬ W i l → σ (i + 1) l = σ i l) (hi : i ≤ n) (h1 : ∀ j, j < i → W j l → S j) (h2 : ∀ j, i ≤ j → j < n → W j l → ¬ S j) :
    cur σ S W n l = σ i l := by
  unfold cur
  rw [lastW_none n i hi (fun j a b c d => h2 j a b d c)]
  have hle := lastW_le S W l i
  have := const_run hσ (i - lastW S W l i) (lastW S W l i) (by omega) (fun j a b hw => by
    have := lastW_all i j (by omega) hw h1
    omega)
  rw [show lastW S W l i + (i - lastW S W l i) = i by omega] at this
  exact this.symm

theorem lastW_congr {S S' : Nat → Prop} {W : Nat → L → Prop} {l : L} : ∀ m, (∀ j, j < m → W j l → (S j ↔ S' j)) → lastW S W l m = lastW S' W l m
  | 0, _ => rfl
  | m + 1, h => by
    have ih := lastW_congr m (fun j hj => h j (by omega))
    unfold lastW
    by_cases hw : W m l
    · rw [ih]; simp only [hw, and_true, h m (by omega) hw]
    · simp only [hw, and_false, if_false, ih]

theorem cur_other {σ : Nat → L → V} {S : Nat → Prop} {W : Nat → L → Prop} {n i : Nat} {l : L} (hw : ¬ W i l) : cur σ (fun j => S j ∨ j = i) W n l = cur σ S W n l := by
  unfold cur
  rw [lastW_congr n (S := fun j => S j ∨ j = i) (S' := S) (fun j _ hj => ⟨fun h => h.elim id (fun e => absurd (e ▸ hj) hw), .inl⟩)]

theorem cur_same {σ : Nat → L → V} {S : Nat → Prop} {W : Nat → L → Prop} {n i : Nat} {l : L} (hi : i < n) (hw : W i l) (h2 : ∀ j, i < j → j < n → W j l → ¬ S j) : cur σ (fun j => S j ∨ j = i) W n l = σ (i + 1) l := by
  unfold cur
  rw [lastW_none n (i + 1) (by omega) (fun j a b c d => c.elim (fun h => h2 j (by omega) b d h) (fun h => by omega))]
  unfold lastW
  rw [if_pos ⟨.inr rfl, hw⟩]

theorem cur_end {σ : Nat → L → V} {S : Nat → Prop} {W : Nat → L → Prop} {n : Nat} {l : L} (hσ : ∀ i, i < n → ¬ W i l → σ (i + 1) l = σ i l) (hS : ∀ j, j < n → S j) : cur σ S W n l = σ n l :=
  cur_eq hσ (Nat.le_refl _) (fun j h _ => hS j h) (fun j h1 h2 => by omega)

theorem cur_start {σ : Nat → L → V} {S : Nat → Prop} {W : Nat → L → Prop} {n : Nat} {l : L} (hS : ∀ j, j < n → ¬ S j) : cur σ S W n l = σ 0 l := by
  unfold cur
  rw [lastW_none n 0 (by omega) (fun j _ h hs => absurd hs (hS j h))]
  rfl
end

/-! ### what has to come ahead -/
def befOf (acc : List Nat) (o : Oper) : Nat := o.after.toList.foldl (fun s e => if Region.binds .any e then s ||| 2 ^ e.on ||| acc.getD e.on 0 else s) 0
def befs : List Oper → List Nat → List Nat
  | [], acc => acc
  | o :: r, acc => befs r (acc ++ [befOf acc o])
def ahead (ops : List Oper) (j i : Nat) : Bool := ((befs ops []).getD j 0).testBit i

theorem befOf_spec {acc : List Nat} {o : Oper} {i : Nat} (h : (befOf acc o).testBit i = true) : ∃ e ∈ o.after, Region.binds .any e = true ∧ (i = e.on ∨ (acc.getD e.on 0).testBit i = true) := by
  unfold befOf at h
  have key : ∀ (l : List Edge) (s : Nat), (l.foldl (fun s e => if Region.binds .any e then s ||| 2 ^ e.on ||| acc.getD e.on 0 else s) s).testBit i = true →
      s.testBit i = true ∨ ∃ e ∈ l, Region.binds .any e = true ∧ (i = e.on ∨ (acc.getD e.on 0).testBit i = true) := by
    intro l
    induction l with
    | nil => intro s h; exact .inl h
    | cons e l ih =>
      intro s h
      rw [List.foldl_cons] at h
      rcases ih _ h with h1 | ⟨e', he', h1⟩
      · by_cases hb : Region.binds .any e = true
        · rw [if_pos hb, Nat.testBit_or, Nat.testBit_or, Bool.or_eq_true, Bool.or_eq_true] at h1
          rcases h1 with (h1 | h1) | h1
          · exact .inl h1
          · refine .inr ⟨e, List.mem_cons_self, hb, .inl ?_⟩
            rw [Nat.testBit_two_pow] at h1
            exact (of_decide_eq_true h1).symm
          · exact .inr ⟨e, List.mem_cons_self, hb, .inr h1⟩
        · rw [if_neg hb] at h1; exact .inl h1
      · exact .inr ⟨e', List.mem_cons_of_mem _ he', h1⟩
  rcases key _ _ h with h1 | ⟨e, he, h1⟩
  · simp at h1
  · exact ⟨e, Array.mem_toList_iff.1 he, h1⟩

theorem befs_get : ∀ (ops : List Oper) (acc : List Nat) (j : Nat), (befs ops acc).getD j 0 = if j < acc.length then acc.getD j 0 else match ops[j - acc.length]? with
    | some o => befOf ((befs ops acc).take j) o
    | none => 0
  | [], acc, j => by
    simp only [befs]
    split
    · rfl
    · simp; rw [List.getElem?_eq_none (by omega)]; rfl
  | o :: r, acc, j => by
    have ih := befs_get r (acc ++ [befOf acc o]) j
    have hpre : ∀ (ops : List Oper) (acc : List Nat), (befs ops acc).take acc.length = acc := by
      intro ops
      induction ops with
      | nil => intro acc; simp [befs]
      | cons o r ih =>
        intro acc
        have := ih (acc ++ [befOf acc o])
        simp only [befs]
        have h2 := congrArg (List.take acc.length) this
        rw [List.take_take, List.length_append, Nat.min_eq_left (by omega), List.take_left] at h2
        exact h2
    simp only [befs]
    rw [ih]
    by_cases h1 : j < acc.length
    · rw [if_pos (by simp; omega), if_pos h1]
      simp [List.getD_eq_getElem?_getD, List.getElem?_append_left h1]
    · rw [if_neg h1]
      by_cases h2 : j = acc.length
      · subst h2
        rw [if_pos (by simp)]
        have h3 := hpre r (acc ++ [befOf acc o])
        have h4 := congrArg (List.take acc.length) h3
        rw [List.take_take, List.length_append, Nat.min_eq_left (by omega), List.take_left] at h4
        simp [List.getD_eq_getElem?_getD, h4]
      · rw [if_neg (by simp; omega)]
        have e : j - acc.length = (j - (acc ++ [befOf acc o]).length) + 1 := by simp; omega
        rw [e, List.getElem?_cons_succ]

theorem ahead_mem {ops : List Oper} {S : Nat → Prop} (hS : ∀ j, S j → ∀ o, ops[j]? = some o → ∀ e ∈ o.after, Region.binds .any e = true → S e.on) :
    ∀ (j i : Nat), (∀ o, ops[j]? = some o → ∀ e ∈ o.after, Region.binds .any e = true → S e.on) → ahead ops j i = true → S i := by
  intro j
  induction j using Nat.strongRecOn with
  | _ j ih =>
    intro i hj h
    unfold ahead at h
    rw [befs_get] at h
    simp only [List.length_nil, Nat.not_lt_zero, if_false, Nat.sub_zero] at h
    cases ho : ops[j]? with
    | none => rw [ho] at h; simp at h
    | some o =>
      rw [ho] at h
      obtain ⟨e, he, hb, h1⟩ := befOf_spec h
      have hs := hj o ho e he hb
      rcases h1 with rfl | h1
      · exact hs
      · have hlt : e.on < j := by
          rcases Nat.lt_or_ge e.on j with h | h
          · exact h
          · have hl : ((befs ops []).take j).length ≤ j := by simp; omega
            rw [List.getD_eq_getElem?_getD, List.getElem?_eq_none (by omega)] at h1
            simp at h1
        refine ih e.on hlt i (fun o' ho' e' he' hb' => hS e.on hs o' ho' e' he' hb') ?_
        unfold ahead
        rw [List.getD_eq_getElem?_getD, List.getElem?_take_of_lt hlt, ← List.getD_eq_getElem?_getD] at h1
        exact h1

def tmpsOK (ops : List Oper) : Bool :=
  let b := befs ops []
  ops.zipIdx.all fun (oj, j) => ops.zipIdx.all fun (oi, i) => !(decide (i < j)) || (b.getD j 0).testBit i || oi.apart ops.toArray oj

end Go.AL

set_option linter.unusedSimpArgs false
set_option linter.unusedVariables false
namespace Go.AL
open Go

/-! ### heaps as functions -/
structure HeapF (g : G) (w : World) (h : Nat → Option Res) : Prop where
  ok : ∀ n r, h n = some r → resOK g w n r
  disj : ∀ n n' r r' b, h n = some r → h n' = some r' → blkOf g n r = some b → blkOf g n' r' = some b → n = n'

theorem HeapOK.toF {g : G} {w : World} {H : Heap} (h : HeapOK g w H) : HeapF g w H.get := ⟨h.ok, h.disj⟩
theorem HeapF.toOK {g : G} {w : World} {H : Heap} (h : HeapF g w H.get) : HeapOK g w H := ⟨h.ok, h.disj⟩

structure Acc (g0 : G) (w0 : World) (h0 : Nat → Option Res) (nx : Nat) (g : G) (w : World) (h : Nat → Option Res) : Prop where
  delta : Delta g0 w0 g w (fun b => ∃ n r, h0 n = some r ∧ r.wr = true ∧ blkOf g0 n r = some b) (fun n => ∃ r, h0 n = some r ∧ r.wr = true) (fun n => nx ≤ n)
  own : ∀ n r b, h n = some r → r.wr = true → blkOf g n r = some b → (∃ n r, h0 n = some r ∧ r.wr = true ∧ blkOf g0 n r = some b) ∨ w0.heap.size ≤ b
  nam : ∀ n r, h n = some r → r.wr = true → (∃ r, h0 n = some r ∧ r.wr = true) ∨ nx ≤ n
  fresh0 : ∀ n, nx ≤ n → ¬ g0.use n

theorem Acc.refl (g : G) (w : World) (h : Nat → Option Res) (nx : Nat) (hf : ∀ n, nx ≤ n → ¬ g.use n) : Acc g w h nx g w h :=
  ⟨Delta.refl g w _ _ _, fun n r b h1 h2 h3 => .inl ⟨n, r, h1, h2, h3⟩, fun n r h1 h2 => .inl ⟨r, h1, h2⟩, hf⟩

def WrOK (H wr : Heap) (nw : List Nat) : Prop := ∀ n ∈ keys wr, (∃ r, H.get n = some r ∧ r.wr = true) ∨ n ∈ nw

theorem StepPost.heapF {g g' : G} {w w' : World} {H wr : Heap} {nw : List Nat} {h : Nat → Option Res} (hp : StepPost g w H wr nw g' w') (hH : HeapF g w h) (ha : ∀ n ∈ keys wr, h n = H.get n) :
    HeapF g' w' (fun n => if n ∈ keys wr then wr.get n else h n) := by
  have fr : ∀ n r, h n = some r → n ∉ keys wr → resOK g' w' n r ∧ blkOf g' n r = blkOf g n r := fun n r hr hn =>
    (hH.ok n r hr).frame hp.delta hn (fun b hb ⟨m, s, hm, hs, hbs⟩ => hn (by rw [hH.disj n m r s b hr (by rw [ha m hm]; exact hs) hb hbs]; exact hm))
  refine ⟨fun n r hr => ?_, fun n n' r r' b hr hr' hb hb' => ?_⟩
  · by_cases hk : n ∈ keys wr
    · simp only [if_pos hk] at hr; exact (hp.res n r hr hk).1
    · simp only [if_neg hk] at hr; exact (fr n r hr hk).1
  · have cross : ∀ n n' r r', h n = some r → n ∉ keys wr → wr.get n' = some r' → n' ∈ keys wr → blkOf g' n r = some b → blkOf g' n' r' = some b → False := by
      intro n n' r r' hr hk hr' hk' hb hb'
      have hb0 : blkOf g n r = some b := by rw [← (fr n r hr hk).2]; exact hb
      rcases (hp.res n' r' hr' hk').2 b hb' with ⟨m, s, hm, hs, hbs⟩ | hge
      · exact hk (by rw [hH.disj n m r s b hr (by rw [ha m hm]; exact hs) hb0 hbs]; exact hm)
      · have := Res.blk_lt (hH.ok n r hr) hb0; omega
    by_cases hk : n ∈ keys wr <;> by_cases hk' : n' ∈ keys wr
    · simp only [if_pos hk] at hr; simp only [if_pos hk'] at hr'; exact hp.disj n n' r r' b hk hk' hr hr' hb hb'
    · simp only [if_pos hk] at hr; simp only [if_neg hk'] at hr'; exact (cross n' n r' r hr' hk' hr hk hb' hb).elim
    · simp only [if_neg hk] at hr; simp only [if_pos hk'] at hr'; exact (cross n n' r r' hr hk hr' hk' hb hb').elim
    · simp only [if_neg hk] at hr; simp only [if_neg hk'] at hr'
      exact hH.disj n n' r r' b hr hr' (by rw [← (fr n r hr hk).2]; exact hb) (by rw [← (fr n' r' hr' hk').2]; exact hb')

theorem Acc.step {g0 g g' : G} {w0 w w' : World} {h0 h : Nat → Option Res} {nx : Nat} {H wr : Heap} {nw : List Nat} (hA : Acc g0 w0 h0 nx g w h) (hH : HeapF g w h) (hp : StepPost g w H wr nw g' w') (ha : ∀ n ∈ keys wr, h n = H.get n)
    (hW : WrOK H wr nw) (hn : ∀ n ∈ nw, nx ≤ n) (hfr : ∀ n ∈ nw, ¬ g.use n) : Acc g0 w0 h0 nx g' w' (fun n => if n ∈ keys wr then wr.get n else h n) := by
  have fr : ∀ n r, h n = some r → n ∉ keys wr → resOK g' w' n r ∧ blkOf g' n r = blkOf g n r := fun n r hr hn =>
    (hH.ok n r hr).frame hp.delta hn (fun b hb ⟨m, s, hm, hs, hbs⟩ => hn (by rw [hH.disj n m r s b hr (by rw [ha m hm]; exact hs) hb hbs]; exact hm))
  -- a block that a name of wr has
  have blkw : ∀ b, Blks g H (keys wr) b → (∃ n r, h0 n = some r ∧ r.wr = true ∧ blkOf g0 n r = some b) ∨ w0.heap.size ≤ b := by
    rintro b ⟨n, r, hk, hr, hb⟩
    rcases hW n hk with ⟨r', hr', hwr⟩ | hnw
    · rw [hr] at hr'; injection hr' with hr'; subst hr'
      exact hA.own n r b (by rw [ha n hk]; exact hr) hwr hb
    · have hu : g.use n := by
        have := hH.ok n r (by rw [ha n hk]; exact hr)
        exact this.use
      exact absurd hu (hfr n hnw)
  refine ⟨(hA.delta.trans hp.delta).mono (fun b hb hd => ?_) (fun n hn' ht => ?_) (fun n hN => hN.elim id (hn n)), fun n r b hr hwr hb => ?_, fun n r hr hwr => ?_, hA.fresh0⟩
  · rcases hd with hd | hd
    · exact hd
    · exact (blkw b hd).resolve_right (by omega)
  · rcases ht with ht | ht
    · exact ht
    · rcases hW n ht with ⟨r, hr, hwr⟩ | hnw
      · rcases hA.nam n r (by rw [ha n ht]; exact hr) hwr with h | h
        · exact h
        · exact absurd hn' (hA.fresh0 n h)
      · exact absurd (hA.delta.ext.use n hn') (hfr n hnw)
  · by_cases hk : n ∈ keys wr
    · simp only [if_pos hk] at hr
      rcases (hp.res n r hr hk).2 b hb with h1 | h1
      · exact blkw b h1
      · exact .inr (Nat.le_trans hA.delta.size h1)
    · simp only [if_neg hk] at hr
      exact hA.own n r b hr hwr (by rw [← (fr n r hr hk).2]; exact hb)
  · by_cases hk : n ∈ keys wr
    · rcases hW n hk with ⟨r', hr', hwr'⟩ | hnw
      · exact hA.nam n r' (by rw [ha n hk]; exact hr') hwr'
      · exact .inr (hn n hnw)
    · simp only [if_neg hk] at hr
      exact hA.nam n r hr hwr

/-! ### the account of a region, and a state in the midst of it -/
open Classical

structure Tr where
  n : Nat
  env : Nat → Env
  H : Nat → Heap
  av : Nat → AV
  rd : Nat → List Nat
  wr : Nat → Heap
  nw : Nat → List Nat
  FR : Nat → Nat → Prop

structure TrOK (P : Program) (ops : List Oper) (N nx : Nat) (t : Tr) : Prop where
  len : t.n = ops.length
  sem : ∀ i o, ops[i]? = some o → StepSem P ops.toArray i o (t.env i) (t.H i) (t.av i) (t.rd i) (t.wr i) (t.nw i) (t.FR i)
  envO : ∀ i o, ops[i]? = some o → ∀ x, o.dst ≠ some x → (t.env (i + 1)).get x = (t.env i).get x
  envD : ∀ i o, ops[i]? = some o → ∀ x, o.dst = some x → (t.env (i + 1)).get x = t.av i ∧ x < N
  heapO : ∀ i, i < t.n → ∀ m, m ∉ keys (t.wr i) → (t.H (i + 1)).get m = (t.H i).get m
  heapW : ∀ i, i < t.n → ∀ m, m ∈ keys (t.wr i) → (t.H (i + 1)).get m = (t.wr i).get m
  wrOK : ∀ i, i < t.n → WrOK (t.H i) (t.wr i) (t.nw i)
  nwx : ∀ i, i < t.n → ∀ m ∈ t.nw i, nx ≤ m ∧ t.FR i m
  frx : ∀ i, i < t.n → ∀ m, t.FR i m → nx ≤ m

structure ST (P : Program) (ops : List Oper) (N nx : Nat) (t : Tr) (g0 : G) (w0 : World) (h0 : Nat → Option Res) (nx0 : Nat) (ds : List Deferred) (S : Nat → Prop) (a : Act) (g : G) (w : World) : Prop where
  size : a.tmps.size = N
  defs : a.defers = ds
  env : ∀ x, cur (fun i x => (t.env i).get x) S (fun i x => ∃ o, ops[i]? = some o ∧ o.dst = some x) t.n x = .undef ∨
    ∃ v, a.tmps[x]? = some v ∧ V1 g w (cur (fun i x => (t.env i).get x) S (fun i x => ∃ o, ops[i]? = some o ∧ o.dst = some x) t.n x) v
  inv : Inv g w
  heap : HeapF g w (cur (fun i m => (t.H i).get m) S (fun i m => m ∈ keys (t.wr i)) t.n)
  acc : Acc g0 w0 h0 nx0 g w (cur (fun i m => (t.H i).get m) S (fun i m => m ∈ keys (t.wr i)) t.n)
  use : ∀ m, nx ≤ m → g.use m → ∃ j, S j ∧ j < t.n ∧ m ∈ t.nw j

theorem step_at {P : Program} {ops : List Oper} {N nx : Nat} {t : Tr} (ht : TrOK P ops N nx t) {g0 : G} {w0 : World} {h0 : Nat → Option Res} {nx0 : Nat} {ds : List Deferred} {S : Nat → Prop} {a : Act} {g : G} {w : World} {i : Nat} {o : Oper}
    (hs : ST P ops N nx t g0 w0 h0 nx0 ds S a g w) (ho : ops[i]? = some o) (hx : nx0 ≤ nx) (Q : Exit → Act → World → Prop)
    (hT : ∀ x, x ∈ o.looksAt ops.toArray ∨ o.dst = some x → ∀ j oj, ops[j]? = some oj → oj.dst = some x → (j < i → S j) ∧ (i < j → ¬ S j))
    (hN : ∀ m, m ∈ t.rd i ∨ m ∈ keys (t.wr i) → ∀ j, j < t.n → m ∈ keys (t.wr j) → (j < i → S j) ∧ (i < j → ¬ S j))
    (hS : ¬ S i) (hF : ∀ m, t.FR i m → ∀ j, S j → j < t.n → m ∉ t.nw j) :
    wpOp P ops.toArray Q i (fun a' w' => ∃ g', ST P ops N nx t g0 w0 h0 nx0 ds (fun j => S j ∨ j = i) a' g' w') a w := by
  have hlt : i < t.n := by
    rw [ht.len]
    rcases Nat.lt_or_ge i ops.length with h | h
    · exact h
    · rw [List.getElem?_eq_none h] at ho; cases ho
  have hσe : ∀ x, ∀ k, k < t.n → ¬ (∃ o, ops[k]? = some o ∧ o.dst = some x) → (t.env (k + 1)).get x = (t.env k).get x := fun x k hk hn => by
    have hk' : k < ops.length := by rw [← ht.len]; exact hk
    exact ht.envO k _ (List.getElem?_eq_getElem hk') x (fun h => hn ⟨_, List.getElem?_eq_getElem hk', h⟩)
  have hσh : ∀ m, ∀ k, k < t.n → ¬ (m ∈ keys (t.wr k)) → (t.H (k + 1)).get m = (t.H k).get m := fun m k hk hn => ht.heapO k hk m hn
  -- what it looks at
  have lookE : ∀ x, x ∈ o.looksAt ops.toArray → cur (fun i x => (t.env i).get x) S (fun i x => ∃ o, ops[i]? = some o ∧ o.dst = some x) t.n x = (t.env i).get x := fun x hxm =>
    cur_eq (hσe x) (Nat.le_of_lt hlt) (fun j hj ⟨oj, h1, h2⟩ => (hT x (.inl hxm) j oj h1 h2).1 hj)
      (fun j h1 h2 ⟨oj, h3, h4⟩ => by
        rcases Nat.eq_or_lt_of_le h1 with rfl | h5
        · exact hS
        · exact (hT x (.inl hxm) j oj h3 h4).2 h5)
  have lookH : ∀ m, m ∈ t.rd i ∨ m ∈ keys (t.wr i) → cur (fun i m => (t.H i).get m) S (fun i m => m ∈ keys (t.wr i)) t.n m = (t.H i).get m := fun m hm =>
    cur_eq (hσh m) (Nat.le_of_lt hlt) (fun j hj h2 => (hN m hm j (by omega) h2).1 hj)
      (fun j h1 h2 h3 => by
        rcases Nat.eq_or_lt_of_le h1 with rfl | h5
        · exact hS
        · exact (hN m hm j h2 h3).2 h5)
  refine ht.sem i o ho Q a g w _ (fun x hxm => ?_) hs.inv ⟨fun m hm r hr => ?_, fun m m' r r' b hm hm' hr hr' hb hb' => ?_⟩ (fun m hm hu => ?_) (fun v g' w' hv hp => ⟨g', ?_⟩)
  · have := hs.env x
    rw [lookE x hxm] at this
    exact this
  · exact hs.heap.ok m r (by rw [lookH m hm]; exact hr)
  · exact hs.heap.disj m m' r r' b (by rw [lookH m hm]; exact hr) (by rw [lookH m' hm']; exact hr') hb hb'
  · obtain ⟨j, h1, h2, h3⟩ := hs.use m (ht.frx i hlt m hm) hu
    exact hF m hm j h1 h2 h3
  · have hag : ∀ m ∈ keys (t.wr i), cur (fun i m => (t.H i).get m) S (fun i m => m ∈ keys (t.wr i)) t.n m = (t.H i).get m := fun m hm => lookH m (.inr hm)
    have hfr : ∀ m ∈ t.nw i, ¬ g.use m := fun m hm hu => by
      obtain ⟨j, h1, h2, h3⟩ := hs.use m (ht.nwx i hlt m hm).1 hu
      exact hF m (ht.nwx i hlt m hm).2 j h1 h2 h3
    have hnew : (fun m => if m ∈ keys (t.wr i) then (t.wr i).get m else cur (fun i m => (t.H i).get m) S (fun i m => m ∈ keys (t.wr i)) t.n m) =
        cur (fun i m => (t.H i).get m) (fun j => S j ∨ j = i) (fun i m => m ∈ keys (t.wr i)) t.n := by
      funext m
      by_cases hm : m ∈ keys (t.wr i)
      · simp only [if_pos hm]
        rw [cur_same hlt hm (fun j h1 h2 h3 => (hN m (.inr hm) j h2 h3).2 h1), ht.heapW i hlt m hm]
      · simp only [if_neg hm]
        exact (cur_other (W := fun i m => m ∈ keys (t.wr i)) (i := i) hm).symm
    have hheap := hp.heapF hs.heap hag
    have hacc := hs.acc.step hs.heap hp hag (ht.wrOK i hlt) (fun m hm => Nat.le_trans hx (ht.nwx i hlt m hm).1) hfr
    rw [hnew] at hheap hacc
    refine ⟨?_, ?_, fun x => ?_, hp.delta.inv hs.inv, hheap, hacc, fun m hm hu => ?_⟩
    · rw [← hs.size]
      cases hd : o.dst <;> simp [Act.put, hd]
    · rw [← hs.defs]
      cases hd : o.dst <;> simp [Act.put, hd]
    · by_cases hd : o.dst = some x
      · rw [cur_same hlt ⟨o, ho, hd⟩ (fun j h1 h2 ⟨oj, h3, h4⟩ => (hT x (.inr hd) j oj h3 h4).2 h1)]
        obtain ⟨e1, e2⟩ := ht.envD i o ho x hd
        rw [e1]
        refine .inr ⟨v, ?_, hv⟩
        rw [← hs.size] at e2
        simp [Act.put, hd, e2]
      · rw [cur_other (fun ⟨oj, h3, h4⟩ => hd (by rw [ho] at h3; injection h3 with h3; rw [h3]; exact h4))]
        refine (hs.env x).imp id fun ⟨u, h1, h2⟩ => ⟨u, ?_, h2.ext hp.delta.ext⟩
        cases hd' : o.dst with
        | none => simpa [Act.put, hd'] using h1
        | some d =>
          have hne : d ≠ x := fun e => hd (by rw [hd', e])
          simpa [Act.put, hd', Array.getElem?_setIfInBounds_ne hne] using h1
    · rcases hp.delta.names m hu with h1 | h1
      · obtain ⟨j, h2, h3, h4⟩ := hs.use m hm h1
        exact ⟨j, .inl h2, h3, h4⟩
      · exact ⟨i, .inr rfl, hlt, h1⟩

def Ends (P : Program) (ops : List Oper) (N nx : Nat) (t : Tr) (g0 : G) (w0 : World) (h0 : Nat → Option Res) (nx0 : Nat) (ds : List Deferred) (K : Act → World → Prop) : Prop :=
  ∀ a g w, a.tmps.size = N → a.defers = ds → (∀ x, EnvAt g w (t.env t.n) a.tmps x) → Inv g w → HeapOK g w (t.H t.n) → Acc g0 w0 h0 nx0 g w (t.H t.n).get → (∀ m, nx ≤ m → g.use m → ∃ j, j < t.n ∧ m ∈ t.nw j) → K a w

theorem ST.end_ {P : Program} {ops : List Oper} {N nx : Nat} {t : Tr} (ht : TrOK P ops N nx t) {g0 : G} {w0 : World} {h0 : Nat → Option Res} {nx0 : Nat} {ds : List Deferred} {S : Nat → Prop} {a : Act} {g : G} {w : World} {K : Act → World → Prop}
    (hs : ST P ops N nx t g0 w0 h0 nx0 ds S a g w) (hS : ∀ j, j < t.n → S j) (hK : Ends P ops N nx t g0 w0 h0 nx0 ds K) : K a w := by
  have hσe : ∀ x, ∀ k, k < t.n → ¬ (∃ o, ops[k]? = some o ∧ o.dst = some x) → (t.env (k + 1)).get x = (t.env k).get x := fun x k hk hn => by
    have hk' : k < ops.length := by rw [← ht.len]; exact hk
    exact ht.envO k _ (List.getElem?_eq_getElem hk') x (fun h => hn ⟨_, List.getElem?_eq_getElem hk', h⟩)
  have eH : cur (fun i m => (t.H i).get m) S (fun i m => m ∈ keys (t.wr i)) t.n = (t.H t.n).get := by
    funext m
    exact cur_end (fun k hk hn => ht.heapO k hk m hn) hS
  refine hK a g w hs.size hs.defs (fun x => ?_) hs.inv (by have := hs.heap; rw [eH] at this; exact this.toOK) (by have := hs.acc; rw [eH] at this; exact this) (fun m hm hu => by obtain ⟨j, _, h⟩ := hs.use m hm hu; exact ⟨j, h⟩)
  have := hs.env x
  rw [cur_end (hσe x) hS] at this
  exact this

theorem region_seq {P : Program} {ops : List Oper} {N nx : Nat} {t : Tr} (ht : TrOK P ops N nx t) {g0 : G} {w0 : World} {h0 : Nat → Option Res} {nx0 : Nat} {ds : List Deferred} (hx : nx0 ≤ nx) {Q : Exit → Act → World → Prop}
    (hFR : ∀ i, i < t.n → ∀ m, t.FR i m → ∀ j, j < i → m ∉ t.nw j) (hK : Ends P ops N nx t g0 w0 h0 nx0 ds (Q .normal)) :
    ∀ (d i : Nat) (a : Act) (g : G) (w : World), i + d = t.n → ST P ops N nx t g0 w0 h0 nx0 ds (fun j => j < i) a g w → wpOps P ops.toArray Q (List.range' i d) a w
  | 0, i, a, g, w, hd, hs => by
    simp only [List.range'_zero, wpOps]
    exact hs.end_ ht (fun j hj => by omega) hK
  | d + 1, i, a, g, w, hd, hs => by
    have hi : i < ops.length := by rw [← ht.len]; omega
    rw [List.range'_succ, wpOps_cons]
    refine wpOp_mono ?_ (step_at ht hs (List.getElem?_eq_getElem hi) hx Q (fun x _ j oj h1 h2 => ⟨fun h => h, fun h h2 => absurd h2 (Nat.not_lt.2 (Nat.le_of_lt h))⟩) (fun m _ j h1 h2 => ⟨fun h => h, fun h h2 => absurd h2 (Nat.not_lt.2 (Nat.le_of_lt h))⟩) (Nat.lt_irrefl i) (fun m hm j h1 h2 => hFR i (by omega) m hm j h1))
    rintro a' w' ⟨g', hs'⟩
    refine region_seq ht hx hFR hK d (i + 1) a' g' w' (by omega) ?_
    have e : (fun j => j < i ∨ j = i) = (fun j => j < i + 1) := by funext j; exact propext (by omega)
    rw [e] at hs'
    exact hs'

theorem wp_region_seq {P : Program} {ops : List Oper} {N nx : Nat} {t : Tr} (ht : TrOK P ops N nx t) {g0 : G} {w0 : World} {h0 : Nat → Option Res} {nx0 : Nat} {ds : List Deferred} (hx : nx0 ≤ nx) {Q : Exit → Act → World → Prop} {id : Nat}
    (hFR : ∀ i, i < t.n → ∀ m, t.FR i m → ∀ j, j < i → m ∉ t.nw j) (hK : Ends P ops N nx t g0 w0 h0 nx0 ds (Q .normal)) {a : Act} {g : G} {w : World}
    (hs : ST P ops N nx t g0 w0 h0 nx0 ds (fun _ => False) a g w) : (Code.region id ops.toArray false).wp P Q a w := by
  refine wp_region ?_
  have e : List.range ops.toArray.size = List.range' 0 t.n := by rw [List.range_eq_range', ht.len]; simp
  rw [e]
  refine region_seq ht hx hFR hK t.n 0 a g w (by omega) ?_
  have e2 : (fun j : Nat => j < 0) = (fun _ => False) := by funext j; simp
  rw [e2]; exact hs

def backOK (ops : List Oper) : Bool := ops.zipIdx.all fun (o, j) => o.after.toList.all fun e => !(Region.binds .any e) || decide (e.on < j)

theorem backOK_spec {ops : List Oper} (h : backOK ops = true) {j : Nat} {o : Oper} (ho : ops[j]? = some o) {e : Edge} (he : e ∈ o.after) (hb : Region.binds .any e = true) : e.on < j := by
  have h1 := List.all_eq_true.1 h (o, j) (by
    rw [List.mem_zipIdx_iff_getElem?]; simpa using ho)
  have h2 := List.all_eq_true.1 h1 e (Array.mem_toList_iff.2 he)
  simpa [hb] using h2

theorem tmpsOK_spec {ops : List Oper} (h : tmpsOK ops = true) {i j : Nat} {oi oj : Oper} (hi : ops[i]? = some oi) (hj : ops[j]? = some oj) (hlt : i < j) : ahead ops j i = true ∨ oi.apart ops.toArray oj = true := by
  have h1 := List.all_eq_true.1 h (oj, j) (by rw [List.mem_zipIdx_iff_getElem?]; simpa using hj)
  have h2 := List.all_eq_true.1 h1 (oi, i) (by rw [List.mem_zipIdx_iff_getElem?]; simpa using hi)
  simp only [hlt, decide_true, Bool.not_true, Bool.false_or, Bool.or_eq_true] at h2
  exact h2

theorem region_any {P : Program} {ops : List Oper} {N nx : Nat} {t : Tr} (ht : TrOK P ops N nx t) {g0 : G} {w0 : World} {h0 : Nat → Option Res} {nx0 : Nat} {ds : List Deferred} (hx : nx0 ≤ nx) {Q : Exit → Act → World → Prop}
    (htm : tmpsOK ops = true) (hbk : backOK ops = true)
    (hnm : ∀ i j m, i < j → j < t.n → (m ∈ keys (t.wr i) ∧ (m ∈ t.rd j ∨ m ∈ keys (t.wr j))) ∨ (m ∈ t.rd i ∧ m ∈ keys (t.wr j)) → ahead ops j i = true)
    (hFR : ∀ i j m, i < t.n → j < t.n → i ≠ j → t.FR i m → m ∈ t.nw j → i < j ∧ ahead ops j i = true) (hK : Ends P ops N nx t g0 w0 h0 nx0 ds (Q .normal)) :
    ∀ (fuel : Nat) (listed : Array Bool) (a : Act) (g : G) (w : World), listed.size = t.n → ((List.range t.n).filter fun j => !(listed.getD j true)).length = fuel →
      (∀ j, listed.getD j false = true → ∀ o, ops[j]? = some o → ∀ e ∈ o.after, Region.binds .any e = true → listed.getD e.on false = true) →
      ST P ops N nx t g0 w0 h0 nx0 ds (fun j => listed.getD j false = true) a g w → wpAny P .any ops.toArray Q fuel listed a w := by
  have alls : ∀ (listed : Array Bool), listed.size = t.n → ((List.range t.n).filter fun j => !(listed.getD j true)).length = 0 → ∀ j, j < t.n → listed.getD j false = true := by
    intro listed hsz h j hj
    have h1 := List.eq_nil_of_length_eq_zero h
    have h2 := List.filter_eq_nil_iff.1 h1 j (List.mem_range.2 hj)
    have hj' : j < listed.size := by omega
    simpa [hj'] using h2
  intro fuel
  induction fuel with
  | zero =>
    intro listed a g w hsz hc hdc hs
    have hall := alls listed hsz hc
    refine ⟨?_, hs.end_ ht hall hK⟩
    rw [List.eq_nil_iff_forall_not_mem]
    intro j hj
    obtain ⟨h0, o, ho, _⟩ := mem_ready.1 hj
    have hj' : j < t.n := by
      rw [ht.len]
      rcases Nat.lt_or_ge j ops.length with h | h
      · exact h
      · simp [List.getElem?_eq_none h] at ho
    have hj2 : j < listed.size := by omega
    have h1 := hall j hj'
    simp [hj2] at h0 h1
    rw [h0] at h1; cases h1
  | succ fuel ih =>
    intro listed a g w hsz hc hdc hs
    refine ⟨fun hr => ?_, fun i hi => ?_⟩
    · -- nothing is ready: all has come
      refine hs.end_ ht (fun j hj => ?_) hK
      refine Classical.byContradiction fun hn => ?_
      have key : ∀ k, k < t.n → listed.getD k false = true := by
        intro k
        induction k using Nat.strongRecOn with
        | _ k ihk =>
          intro hk
          refine Classical.byContradiction fun hkn => ?_
          have hk' : k < ops.length := by rw [← ht.len]; exact hk
          have hk2 : k < listed.size := by omega
          have : k ∈ Region.ready .any ops.toArray listed := mem_ready.2 ⟨by simp [hk2] at hkn ⊢; exact hkn, ops[k], by simp [hk'], fun e he hb =>
            ihk e.on (backOK_spec hbk (List.getElem?_eq_getElem hk') he hb) (by have := backOK_spec hbk (List.getElem?_eq_getElem hk') he hb; omega)⟩
          rw [hr] at this; cases this
      exact hn (key j hj)
    · obtain ⟨h0, o, ho0, hpre⟩ := mem_ready.1 hi
      have ho : ops[i]? = some o := by simpa using ho0
      have hil : i < ops.length := by
        rcases Nat.lt_or_ge i ops.length with h | h
        · exact h
        · rw [List.getElem?_eq_none h] at ho; cases ho
      have hi2 : i < listed.size := by rw [hsz, ht.len]; exact hil
      have hnot : ¬ listed.getD i false = true := by simp [hi2] at h0 ⊢; exact h0
      have hmem : ∀ j k, (∀ o, ops[j]? = some o → ∀ e ∈ o.after, Region.binds .any e = true → listed.getD e.on false = true) → ahead ops j k = true → listed.getD k false = true := fun j k hj hk =>
        ahead_mem (S := fun j => listed.getD j false = true) (fun j hj o ho e he hb => hdc j hj o ho e he hb) j k hj hk
      have hpre' : ∀ o', ops[i]? = some o' → ∀ e ∈ o'.after, Region.binds .any e = true → listed.getD e.on false = true := fun o' ho' e he hb => by
        rw [ho] at ho'; injection ho' with ho'; subst ho'; exact hpre e he hb
      refine wpOp_mono ?_ (step_at ht hs ho hx Q (fun x hxm j oj h1 h2 => ⟨fun hji => ?_, fun hij hj => ?_⟩) (fun m hm j h1 h2 => ⟨fun hji => ?_, fun hij hj => ?_⟩) hnot (fun m hm j h1 h2 h3 => ?_))
      · rintro a' w' ⟨g', hs'⟩
        refine ih (listed.setIfInBounds i true) a' g' w' (by simpa using hsz) ?_ ?_ ?_
        · have key : ∀ l : List Nat, l.Nodup → i ∈ l → (l.filter fun j => !(listed.getD j true)).length = (l.filter fun j => !((listed.setIfInBounds i true).getD j true)).length + 1 := by
            intro l
            induction l with
            | nil => intro _ h; cases h
            | cons x l ihl =>
              intro hnd hm
              rw [List.nodup_cons] at hnd
              by_cases hxi : x = i
              · subst hxi
                have e1 : (!(listed.getD x true)) = true := by rw [h0]; rfl
                have e2 : (!((listed.setIfInBounds x true).getD x true)) = false := by simp [hi2]
                rw [List.filter_cons_of_pos (by simpa using e1), List.filter_cons_of_neg (by simp [hi2])]
                simp only [List.length_cons]
                congr 2
                apply List.filter_congr
                intro y hy
                have hne : x ≠ y := fun e => hnd.1 (e ▸ hy)
                rw [getD_set_ne true hne]
              · have hm' : i ∈ l := by
                  rcases List.mem_cons.1 hm with h | h
                  · exact absurd h.symm hxi
                  · exact h
                have := ihl hnd.2 hm'
                have e3 : (listed.setIfInBounds i true).getD x true = listed.getD x true := getD_set_ne true (Ne.symm hxi)
                simp only [List.filter_cons, e3]
                split
                · simp only [List.length_cons]; omega
                · exact this
          have := key (List.range t.n) List.nodup_range (List.mem_range.2 (by rw [ht.len]; exact hil))
          omega
        · intro j hj o' ho' e he hb
          by_cases hji : i = j
          · subst hji; exact getD_set_true (hpre' o' ho' e he hb)
          · rw [getD_set_ne false hji] at hj
            exact getD_set_true (hdc j hj o' ho' e he hb)
        · have e : (fun j => (listed.setIfInBounds i true).getD j false = true) = (fun j => listed.getD j false = true ∨ j = i) := by
            funext j
            apply propext
            by_cases hji : i = j
            · subst hji; simp [hi2]
            · rw [getD_set_ne false hji]
              exact ⟨.inl, fun h => h.elim id (fun h => absurd h.symm hji)⟩
          rw [e]; exact hs'
      · -- an earlier writer of a temporary that it names
        rcases tmpsOK_spec htm h1 ho hji with h3 | h3
        · exact hmem i j hpre' h3
        · exfalso
          obtain ⟨q1, q2, q3⟩ := Oper.apart_spec h3
          rcases hxm with hxm | hxm
          · exact q1 x h2 hxm
          · exact q2 x h2 hxm
      · rcases tmpsOK_spec htm ho h1 hij with h3 | h3
        · exact hnot (hmem j i (fun o' ho' e he hb => hdc j hj o' ho' e he hb) h3)
        · obtain ⟨q1, q2, q3⟩ := Oper.apart_spec h3
          rcases hxm with hxm | hxm
          · exact q3 x h2 hxm
          · exact q2 x hxm h2
      · have hi' : i < t.n := by rw [ht.len]; exact hil
        refine hmem i j hpre' (hnm j i m hji hi' (.inl ⟨h2, hm⟩))
      · refine hnot (hmem j i (fun o' ho' e he hb => hdc j hj o' ho' e he hb) ?_)
        rcases hm with hm | hm
        · exact hnm i j m hij h1 (.inr ⟨hm, h2⟩)
        · exact hnm i j m hij h1 (.inl ⟨hm, .inr h2⟩)
      · have hi' : i < t.n := by rw [ht.len]; exact hil
        have hne : i ≠ j := fun e => hnot (e ▸ h1)
        obtain ⟨q1, q2⟩ := hFR i j m hi' h2 hne hm h3
        exact hnot (hmem j i (fun o' ho' e he hb => hdc j h1 o' ho' e he hb) q2)

theorem wp_region_any' {P : Program} {ops : List Oper} {N nx : Nat} {t : Tr} (ht : TrOK P ops N nx t) {g0 : G} {w0 : World} {h0 : Nat → Option Res} {nx0 : Nat} {ds : List Deferred} (hx : nx0 ≤ nx) {Q : Exit → Act → World → Prop} {id : Nat}
    (hm : P.follows .mixedOrders = true) (htm : tmpsOK ops = true) (hbk : backOK ops = true)
    (hnm : ∀ i j m, i < j → j < t.n → (m ∈ keys (t.wr i) ∧ (m ∈ t.rd j ∨ m ∈ keys (t.wr j))) ∨ (m ∈ t.rd i ∧ m ∈ keys (t.wr j)) → ahead ops j i = true)
    (hFR : ∀ i j m, i < t.n → j < t.n → i ≠ j → t.FR i m → m ∈ t.nw j → i < j ∧ ahead ops j i = true) (hK : Ends P ops N nx t g0 w0 h0 nx0 ds (Q .normal)) {a : Act} {g : G} {w : World}
    (hs : ST P ops N nx t g0 w0 h0 nx0 ds (fun _ => False) a g { w with drawn := w.drawn + 1 }) : (Code.region id ops.toArray true).wp P Q a w := by
  refine wp_region_any hm ?_
  have e : ops.toArray.size = t.n := by rw [ht.len]; simp
  have hf : ∀ j, (Array.replicate t.n false).getD j false = false := fun j => by
    by_cases hj : j < t.n <;> simp [hj]
  rw [e]
  refine region_any ht hx htm hbk hnm hFR hK t.n _ a g _ (by simp) ?_ (fun j hj => by rw [hf j] at hj; cases hj) ?_
  · have : (List.range t.n).filter (fun j => !((Array.replicate t.n false).getD j true)) = List.range t.n := by
      apply List.filter_eq_self.2
      intro j hj
      have := List.mem_range.1 hj
      simp [this]
    rw [this]; simp
  · have e2 : (fun j => (Array.replicate t.n false).getD j false = true) = (fun _ => False) := by
      funext j; apply propext; rw [hf j]; simp
    rw [e2]; exact hs

end Go.AL

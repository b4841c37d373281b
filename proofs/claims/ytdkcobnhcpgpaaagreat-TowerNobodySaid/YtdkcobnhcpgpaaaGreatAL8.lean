/-
  The layer AL, part 8: a region's operations, in the order of the text or in whatever order its edges let come.
-/
import Derived.Test.YtdkcobnhcpgpaaaGreatAL7
set_option linter.unusedSimpArgs false
set_option linter.unusedVariables false
namespace Go.AL
open Go

/-! ### a small law on orders: what a place holds when a set of steps has come -/
section
open Classical
variable {L V : Type}

/-- 1 and the number of the last step below m of S that writes l; 0: none. -/
noncomputable def lastW (S : Nat → Prop) (W : Nat → L → Prop) (l : L) : Nat → Nat
  | 0 => 0
  | m + 1 => if S m ∧ W m l then m + 1 else lastW S W l m

theorem lastW_le (S : Nat → Prop) (W : Nat → L → Prop) (l : L) : ∀ m, lastW S W l m ≤ m
  | 0 => Nat.le_refl _
  | m + 1 => by
    unfold lastW
    split
    · exact Nat.le_refl _
    · exact Nat.le_succ_of_le (lastW_le S W l m)

theorem const_run {σ : Nat → L → V} {W : Nat → L → Prop} {l : L} {n : Nat} (hσ : ∀ i, i < n → ¬ W i l → σ (i + 1) l = σ i l) : ∀ (d a : Nat), a + d ≤ n → (∀ j, a ≤ j → j < a + d → ¬ W j l) → σ (a + d) l = σ a l
  | 0, a, _, _ => rfl
  | d + 1, a, h, hw => by
    rw [← Nat.add_assoc, hσ (a + d) (by omega) (hw _ (by omega) (by omega))]
    exact const_run hσ d a (by omega) (fun j h1 h2 => hw j h1 (by omega))

noncomputable def cur (σ : Nat → L → V) (S : Nat → Prop) (W : Nat → L → Prop) (n : Nat) (l : L) : V := σ (lastW S W l n) l

theorem lastW_none {S : Nat → Prop} {W : Nat → L → Prop} {l : L} : ∀ (m i : Nat), i ≤ m → (∀ j, i ≤ j → j < m → S j → ¬ W j l) → lastW S W l m = lastW S W l i
  | 0, i, hi, _ => by have : i = 0 := by omega
                      subst this; rfl
  | m + 1, i, hi, h => by
    rcases Nat.eq_or_lt_of_le hi with rfl | hlt
    · rfl
    · conv => lhs; unfold lastW
      rw [if_neg (fun hh => h m (by omega) (by omega) hh.1 hh.2)]
      exact lastW_none m i (by omega) (fun j h1 h2 => h j h1 (by omega))

theorem lastW_all {S : Nat → Prop} {W : Nat → L → Prop} {l : L} : ∀ (i j : Nat), j < i → W j l → (∀ j, j < i → W j l → S j) → j < lastW S W l i
  | 0, j, h, _, _ => by omega
  | i + 1, j, h, hw, hs => by
    unfold lastW
    split
    · omega
    · rename_i hn
      rcases Nat.eq_or_lt_of_le (Nat.lt_succ_iff.1 h) with rfl | hlt
      · exact absurd ⟨hs j (by omega) hw, hw⟩ hn
      · exact lastW_all i j hlt hw (fun j h1 h2 => hs j (by omega) h2)

/-- What op i finds at a place is what the order of the text finds there. -/
theorem cur_eq {σ : Nat → L → V} {S : Nat → Prop} {W : Nat → L → Prop} {n i : Nat} {l : L} (hσ : ∀ i, i < n → ¬ W i l → σ (i + 1) l = σ i l) (hi : i ≤ n) (h1 : ∀ j, j < i → W j l → S j) (h2 : ∀ j, i ≤ j → j < n → W j l → ¬ S j) :
    cur σ S W n l = σ i l := by
  unfold cur
  rw [lastW_none n i hi (fun j a b c d => h2 j a b d c)]
  have hle := lastW_le S W l i
  have := const_run hσ (i - lastW S W l i) (lastW S W l i) (by omega) (fun j a b hw => by
    have := lastW_all i j (by omega) hw h1
    omega)
  rw [show lastW S W l i + (i - lastW S W l i) = i by omega] at this
  exact this.symm

theorem lastW_congr {S S' : Nat → Prop} {W : Nat → L → Prop} {l : L} : ∀ m, (∀ j, j < m → W j l → (S j ↔ S' j)) → lastW S W l m = lastW S' W l m
  | 0, _ => rfl
  | m + 1, h => by
    have ih := lastW_congr m (fun j hj => h j (by omega))
    unfold lastW
    by_cases hw : W m l
    · rw [ih]; simp only [hw, and_true, h m (by omega) hw]
    · simp only [hw, and_false, if_false, ih]

theorem cur_other {σ : Nat → L → V} {S : Nat → Prop} {W : Nat → L → Prop} {n i : Nat} {l : L} (hw : ¬ W i l) : cur σ (fun j => S j ∨ j = i) W n l = cur σ S W n l := by
  unfold cur
  rw [lastW_congr n (S := fun j => S j ∨ j = i) (S' := S) (fun j _ hj => ⟨fun h => h.elim id (fun e => absurd (e ▸ hj) hw), .inl⟩)]

theorem cur_same {σ : Nat → L → V} {S : Nat → Prop} {W : Nat → L → Prop} {n i : Nat} {l : L} (hi : i < n) (hw : W i l) (h2 : ∀ j, i < j → j < n → W j l → ¬ S j) : cur σ (fun j => S j ∨ j = i) W n l = σ (i + 1) l := by
  unfold cur
  rw [lastW_none n (i + 1) (by omega) (fun j a b c d => c.elim (fun h => h2 j (by omega) b d h) (fun h => by omega))]
  unfold lastW
  rw [if_pos ⟨.inr rfl, hw⟩]

theorem cur_end {σ : Nat → L → V} {S : Nat → Prop} {W : Nat → L → Prop} {n : Nat} {l : L} (hσ : ∀ i, i < n → ¬ W i l → σ (i + 1) l = σ i l) (hS : ∀ j, j < n → S j) : cur σ S W n l = σ n l :=
  cur_eq hσ (Nat.le_refl _) (fun j h _ => hS j h) (fun j h1 h2 => by omega)

theorem cur_start {σ : Nat → L → V} {S : Nat → Prop} {W : Nat → L → Prop} {n : Nat} {l : L} (hS : ∀ j, j < n → ¬ S j) : cur σ S W n l = σ 0 l := by
  unfold cur
  rw [lastW_none n 0 (by omega) (fun j _ h hs => absurd hs (hS j h))]
  rfl
end

/-! ### what has to come ahead -/
def befOf (acc : List Nat) (o : Oper) : Nat := o.after.toList.foldl (fun s e => if Region.binds .any e then s ||| 2 ^ e.on ||| acc.getD e.on 0 else s) 0
def befs : List Oper → List Nat → List Nat
  | [], acc => acc
  | o :: r, acc => befs r (acc ++ [befOf acc o])
/-- has i to come ahead of j? -/
def ahead (ops : List Oper) (j i : Nat) : Bool := ((befs ops []).getD j 0).testBit i

theorem befOf_spec {acc : List Nat} {o : Oper} {i : Nat} (h : (befOf acc o).testBit i = true) : ∃ e ∈ o.after, Region.binds .any e = true ∧ (i = e.on ∨ (acc.getD e.on 0).testBit i = true) := by
  unfold befOf at h
  have key : ∀ (l : List Edge) (s : Nat), (l.foldl (fun s e => if Region.binds .any e then s ||| 2 ^ e.on ||| acc.getD e.on 0 else s) s).testBit i = true →
      s.testBit i = true ∨ ∃ e ∈ l, Region.binds .any e = true ∧ (i = e.on ∨ (acc.getD e.on 0).testBit i = true) := by
    intro l
    induction l with
    | nil => intro s h; exact .inl h
    | cons e l ih =>
      intro s h
      rw [List.foldl_cons] at h
      rcases ih _ h with h1 | ⟨e', he', h1⟩
      · by_cases hb : Region.binds .any e = true
        · rw [if_pos hb, Nat.testBit_or, Nat.testBit_or, Bool.or_eq_true, Bool.or_eq_true] at h1
          rcases h1 with (h1 | h1) | h1
          · exact .inl h1
          · refine .inr ⟨e, List.mem_cons_self, hb, .inl ?_⟩
            rw [Nat.testBit_two_pow] at h1
            exact (of_decide_eq_true h1).symm
          · exact .inr ⟨e, List.mem_cons_self, hb, .inr h1⟩
        · rw [if_neg hb] at h1; exact .inl h1
      · exact .inr ⟨e', List.mem_cons_of_mem _ he', h1⟩
  rcases key _ _ h with h1 | ⟨e, he, h1⟩
  · simp at h1
  · exact ⟨e, Array.mem_toList_iff.1 he, h1⟩

theorem befs_length : ∀ (ops : List Oper) (acc : List Nat), (befs ops acc).length = acc.length + ops.length
  | [], acc => by simp [befs]
  | o :: r, acc => by simp [befs, befs_length r]; omega

theorem befs_get : ∀ (ops : List Oper) (acc : List Nat) (j : Nat), (befs ops acc).getD j 0 = if j < acc.length then acc.getD j 0 else match ops[j - acc.length]? with
    | some o => befOf ((befs ops acc).take j) o
    | none => 0
  | [], acc, j => by
    simp only [befs]
    split
    · rfl
    · simp; rw [List.getElem?_eq_none (by omega)]; rfl
  | o :: r, acc, j => by
    have ih := befs_get r (acc ++ [befOf acc o]) j
    have hpre : ∀ (ops : List Oper) (acc : List Nat), (befs ops acc).take acc.length = acc := by
      intro ops
      induction ops with
      | nil => intro acc; simp [befs]
      | cons o r ih =>
        intro acc
        have := ih (acc ++ [befOf acc o])
        simp only [befs]
        have h2 := congrArg (List.take acc.length) this
        rw [List.take_take, List.length_append, Nat.min_eq_left (by omega), List.take_left] at h2
        exact h2
    simp only [befs]
    rw [ih]
    by_cases h1 : j < acc.length
    · rw [if_pos (by simp; omega), if_pos h1]
      simp [List.getD_eq_getElem?_getD, List.getElem?_append_left h1]
    · rw [if_neg h1]
      by_cases h2 : j = acc.length
      · subst h2
        rw [if_pos (by simp)]
        have h3 := hpre r (acc ++ [befOf acc o])
        have h4 := congrArg (List.take acc.length) h3
        rw [List.take_take, List.length_append, Nat.min_eq_left (by omega), List.take_left] at h4
        simp [List.getD_eq_getElem?_getD, h4]
      · rw [if_neg (by simp; omega)]
        have e : j - acc.length = (j - (acc ++ [befOf acc o]).length) + 1 := by simp; omega
        rw [e, List.getElem?_cons_succ]

/-- If all that an operation waits for has come, so has all that is ahead of it. -/
theorem ahead_mem {ops : List Oper} {S : Nat → Prop} (hS : ∀ j, S j → ∀ o, ops[j]? = some o → ∀ e ∈ o.after, Region.binds .any e = true → S e.on) :
    ∀ (j i : Nat), (∀ o, ops[j]? = some o → ∀ e ∈ o.after, Region.binds .any e = true → S e.on) → ahead ops j i = true → S i := by
  intro j
  induction j using Nat.strongRecOn with
  | _ j ih =>
    intro i hj h
    unfold ahead at h
    rw [befs_get] at h
    simp only [List.length_nil, Nat.not_lt_zero, if_false, Nat.sub_zero] at h
    cases ho : ops[j]? with
    | none => rw [ho] at h; simp at h
    | some o =>
      rw [ho] at h
      obtain ⟨e, he, hb, h1⟩ := befOf_spec h
      have hs := hj o ho e he hb
      rcases h1 with rfl | h1
      · exact hs
      · have hlt : e.on < j := by
          rcases Nat.lt_or_ge e.on j with h | h
          · exact h
          · have hl : ((befs ops []).take j).length ≤ j := by simp; omega
            rw [List.getD_eq_getElem?_getD, List.getElem?_eq_none (by omega)] at h1
            simp at h1
        refine ih e.on hlt i (fun o' ho' e' he' hb' => hS e.on hs o' ho' e' he' hb') ?_
        unfold ahead
        rw [List.getD_eq_getElem?_getD, List.getElem?_take_of_lt hlt, ← List.getD_eq_getElem?_getD] at h1
        exact h1

/-- Temporaries: whoever writes one, and whoever names it, stand in an order. -/
def tmpsOK (ops : List Oper) : Bool :=
  let b := befs ops []
  ops.zipIdx.all fun (oj, j) => ops.zipIdx.all fun (oi, i) => !(decide (i < j)) || (b.getD j 0).testBit i || oi.apart ops.toArray oj

end Go.AL

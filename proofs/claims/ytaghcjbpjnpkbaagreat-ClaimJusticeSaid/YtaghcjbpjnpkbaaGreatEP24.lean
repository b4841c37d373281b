/-
  Which outs may be.
-/
import Derived.Test.YtaghcjbpjnpkbaaGreatEP20
set_option linter.unusedSimpArgs false
set_option linter.unusedVariables false
set_option maxRecDepth 100000
set_option maxHeartbeats 8000000
namespace Go.Proofs.YtaghcjbpjnpkbaaGreat
open Go Go.AL Go.Proofs.YtaghcjbpjnpkbaaGreat.T
attribute [local go_sem] nb_u8s u8s_length nb_sum sumA List.length_replicate zero_sum sum_h nb_vals vals_len u8s_nil
noncomputable def idxW (l : List Way_) : Int := if ∀ w ∈ l, wayP w then -1 else (l.findIdx (fun w => !decide (wayP w)) : Nat)
theorem idxW_spec (nx : Nat) (l : List Way_) (hl : l.length < 2 ^ 40) (hk : ∀ w ∈ l, w.keys.length < 2 ^ 40) : FnSpec Tryz.prog 130 nx [.sl 35 (waysA l) 0, .clos 89 []] [] (n64 (idxW l)) [] 0 := by
  refine FnSpec.of_code (cx := cx) (an := {}) (rs := [.tmp 4]) mo Tryz.func130 rfl rfl (by kernel_rfl) (by kernel_rfl) (by show 2 ≤ _; decide) (.inl rfl) (by simp [allWr, keys, Res.wr]) ?_
  repeat' (first | omega | assumption | (show AL.ahead _ _ _ = true; rfl) | (first | apply brF | apply brT | apply brVF | apply brVT) <;> intro _ | (with_reducible refine And.intro ?_ ?_) | (simp -dsimp -implicitDefEqProofs only [go_sem, ways_len]))
  apply loop_keep [0, 1, 7] (fun i : { i : Nat // i ≤ l.length ∧ ∀ j (hj : j < l.length), j < i → wayP l[j] } => [(8, n64 i.1)]) (fun _ => []) (fun i => l.length - i.1) ⟨0, Nat.zero_le _, fun j _ hj => absurd hj (Nat.not_lt_zero _)⟩
  · simp -dsimp -implicitDefEqProofs only [go_sem]; rfl
  · simp -dsimp -implicitDefEqProofs only [go_sem]; try rfl
  · simp -dsimp -implicitDefEqProofs only [go_sem]; try rfl
  · intro s
    simp -dsimp -implicitDefEqProofs only [go_sem, nb_ways]
    try omega
  · rintro ⟨i, hi, hall⟩
    have hi : i ≤ l.length := hi
    simp -dsimp -implicitDefEqProofs only [go_sem, ways_len]
    refine brT (fun hc => ?_) (fun hc => ?_)
    · have hi2 : i < l.length := by omega
      have q1 := ways_get hi2
      have w1 : IntKind.i64.wrap ((i : Int) + 1) = ((i + 1 : Nat) : Int) := wrapE (by omega) (by omega)
      have hr := fun nc => wayN_spec nc l[i] (hk _ (List.getElem_mem _))
      simp only [wayA] at hr q1
      repeat' (first | omega | assumption | (show AL.ahead _ _ _ = true; rfl) | (first | apply brF | apply brT | apply brVF | apply brVT) <;> intro _ | (with_reducible refine And.intro ?_ ?_) | (refine callK_by (hr _) ?_) | (simp -dsimp -implicitDefEqProofs only [go_sem, q1, w1, ways_len]))
      all_goals first
        | (rename_i hx
           have e : idxW l = i := by
             unfold idxW
             rw [if_neg (fun ha => hx (ha _ (List.getElem_mem _))), (List.findIdx_eq hi2).2 ⟨by show (!decide (wayP l[i])) = true; rw [decide_eq_false hx]; rfl, fun j hj => by show (!decide (wayP l[j])) = false; rw [decide_eq_true (hall j (by omega) hj)]; rfl⟩]
           rw [e])
        | (rename_i hx
           refine ⟨⟨i + 1, hi2, fun j hj1 hj2 => ?_⟩, by show l.length - (i + 1) < l.length - i; omega, rfl⟩
           by_cases hj3 : j < i
           · exact hall j hj1 hj3
           · have e : j = i := by omega
             subst e
             exact hx)
       
    · have e : i = l.length := by omega
      subst e
      repeat' (first | omega | assumption | (show AL.ahead _ _ _ = true; rfl) | (first | apply brF | apply brT | apply brVF | apply brVT) <;> intro _ | (with_reducible refine And.intro ?_ ?_) | (simp -dsimp -implicitDefEqProofs only [go_sem]))
      have e : idxW l = -1 := by
        unfold idxW
        rw [if_pos (fun w hw => by obtain ⟨j, hj, q⟩ := List.getElem_of_mem hw; exact q ▸ hall j hj hj)]
      rw [e]
end Go.Proofs.YtaghcjbpjnpkbaaGreat

namespace Go.Proofs.YtaghcjbpjnpkbaaGreat
open Go Go.AL Go.Proofs.YtaghcjbpjnpkbaaGreat.T
attribute [local go_sem] nb_u8s u8s_length nb_sum sumA List.length_replicate zero_sum sum_h nb_vals vals_len u8s_nil ways_len nb_ways
noncomputable def badW (l : List Way_) : Bool := decide (0 ≤ idxW l)
theorem hasW_spec (nx : Nat) (l : List Way_) (hl : l.length < 2 ^ 40) (hk : ∀ w ∈ l, w.keys.length < 2 ^ 40) : FnSpec Tryz.prog 88 nx [.sl 35 (waysA l) 0, .clos 89 []] [] (bA (badW l)) [] 0 := by
 have hi := fun nc => idxW_spec nc l hl hk
 refine FnSpec.of_code (cx := cx) (an := {}) (rs := [.tmp 4]) mo Tryz.func88 rfl rfl (by kernel_rfl) (by kernel_rfl) (by show 2 ≤ _; decide) (.inl rfl) (by simp [allWr, keys, Res.wr]) ?_
 repeat' (first | omega | assumption | (show AL.ahead _ _ _ = true; rfl) | (first | apply brF | apply brT | apply brVF | apply brVT) <;> intro _ | (with_reducible refine And.intro ?_ ?_) | (refine callK_by (hi _) ?_) | (simp -dsimp -implicitDefEqProofs only [go_sem]))
 all_goals rfl
noncomputable def outB (o : Out_) : Bool := decide (0 ≤ o.amount ∧ o.amount ≤ 1125899906842624 ∧ 1 ≤ o.ways.length ∧ o.ways.length ≤ 16) && !badW o.ways
theorem outR_spec (nx : Nat) (o : Out_) (hl : o.ways.length < 2 ^ 40) (hk : ∀ w ∈ o.ways, w.keys.length < 2 ^ 40) : FnSpec Tryz.prog 42 nx [outA o] [] (bA (outB o)) [] 0 := by
 have hi := fun nc => hasW_spec nc o.ways hl hk
 refine FnSpec.of_code (cx := cx) (an := {}) (rs := [.tmp 2]) mo Tryz.func42 rfl rfl (by kernel_rfl) (by kernel_rfl) (by show 1 ≤ _; decide) (.inl rfl) (by simp [allWr, keys, Res.wr]) ?_
 repeat' (first | omega | assumption | (show AL.ahead _ _ _ = true; rfl) | (first | apply brF | apply brT | apply brVF | apply brVT) <;> intro _ | (with_reducible refine And.intro ?_ ?_) | (refine callK_by (hi _) ?_) | (simp -dsimp -implicitDefEqProofs only [go_sem, outA]))
 all_goals first
  | (simp only [bA]; congr 2; unfold outB; rw [decide_eq_true (by omega), Bool.true_and])
  | (simp only [bA]; congr 2; unfold outB; rw [decide_eq_false (by omega), Bool.false_and])
  
end Go.Proofs.YtaghcjbpjnpkbaaGreat

namespace Go.Proofs.YtaghcjbpjnpkbaaGreat
open Go Go.AL Go.Proofs.YtaghcjbpjnpkbaaGreat.T
def idxB {α : Type} (p : α → Bool) (l : List α) : Int := if l.any p then (l.findIdx p : Nat) else -1
theorem idxB_hit {α : Type} {p : α → Bool} {l : List α} {i : Nat} (h : i < l.length) (hp : p l[i] = true) (hb : ∀ j (hj : j < l.length), j < i → p l[j] = false) : idxB p l = i := by
  unfold idxB
  rw [if_pos (List.any_eq_true.2 ⟨_, List.getElem_mem h, hp⟩), (List.findIdx_eq h).2 ⟨hp, fun j hj => hb j (by omega) hj⟩]
theorem idxB_miss {α : Type} {p : α → Bool} {l : List α} (hb : ∀ j (hj : j < l.length), p l[j] = false) : idxB p l = -1 := by
  unfold idxB
  rw [if_neg (fun h => by
    obtain ⟨x, hx, hp⟩ := List.any_eq_true.1 h
    obtain ⟨j, hj, rfl⟩ := List.getElem_of_mem hx
    rw [hb j hj] at hp; cases hp)]
theorem idxB_any {α : Type} {p : α → Bool} {l : List α} : decide (0 ≤ idxB p l) = l.any p := by
  unfold idxB
  cases h : l.any p <;> simp
theorem cmp_sumN {P : Program} {T : TypeId} {s : Sum} {n : Nat} (h : isSumT P T = true) : cmpOK P (n + 2) T (.vec 1 (u8s s.b)) = True := by
  unfold isSumT at h
  split at h
  · rename_i len e he
    simp only [Bool.and_eq_true, decide_eq_true_eq] at h
    obtain ⟨⟨⟨h1, h2⟩, h3⟩, h4⟩ := h
    have h5 : tint P e = some .u8 := by
      split at h4
      · assumption
      · cases h4
    simp only [eq_iff_iff, iff_true]
    rw [cmpOK]
    simp only [he, h2, h3]
    refine ⟨by rw [u8s_length, s.h, h1], trivial, fun p hp => ?_⟩
    obtain ⟨b, _, rfl⟩ := List.mem_map.1 hp
    exact ⟨rfl, rfl, by simp only [u8, cmpOK]; exact h5⟩
  · cases h
theorem cmp_sum7 {P : Program} {T : TypeId} {s : Sum} (h : isSumT P T = true) : cmpOK P 7 T (.vec 1 (u8s s.b)) = True := cmp_sumN (n := 5) h
attribute [local go_sem] nb_u8s u8s_length nb_sum sumA List.length_replicate zero_sum sum_h nb_vals vals_len u8s_nil ways_len nb_ways ins_len outs_len nb_ins nb_outs
noncomputable abbrev sameR (x y : In_) : Bool := eqB (refA y.ref) (refA x.ref)
theorem rin1_spec (nx m : Nat) (x y : In_) (hm : m < nx) : FnSpec Tryz.prog 76 nx [inA y, .ref m 0 []] [(m, some (.robj (inA x)))] (bA (sameR x y)) [] 0 := by
  have x1 := fun k => lt_nx hm k
  have x2 := fun k => nx_gt hm k
  refine FnSpec.of_code (cx := cx) (an := {}) (rs := [.tmp 3]) mo Tryz.func76 rfl rfl (by kernel_rfl) (by kernel_rfl) (by show 2 ≤ _; decide) (.inl rfl) (by simp [allWr, keys, Res.wr]) ?_
  repeat' (first | omega | assumption | (show AL.ahead _ _ _ = true; rfl) | (first | apply brF | apply brT | apply brVF | apply brVT) <;> intro _ | (with_reducible refine And.intro ?_ ?_) | (simp -dsimp -implicitDefEqProofs only [go_sem, inA, refA, x1, x2, ↓cmp_sum7, isSumT, decide_eq_true_eq, Bool.and_self]))
  all_goals rfl
theorem ins_take (l : List In_) (i : Nat) : (insA l).take i = insA (l.take i) := by simp [insA, List.map_take]
theorem idxI_spec (nx m : Nat) (x : In_) (l : List In_) (hm : m < nx) (hl : l.length < 2 ^ 40) : FnSpec Tryz.prog 121 nx [.sl 35 (insA l) 0, .clos 76 [.ref m 0 []]] [(m, some (.robj (inA x)))] (n64 (idxB (sameR x) l)) [] 0 := by
  have x1 := fun k => lt_nx hm k
  have x2 := fun k => nx_gt hm k
  refine FnSpec.of_code (cx := cx) (an := {}) (rs := [.tmp 4]) mo Tryz.func121 rfl rfl (by kernel_rfl) (by kernel_rfl) (by show 2 ≤ _; decide) (.inl rfl) (by simp [allWr, keys, Res.wr]) ?_
  repeat' (first | omega | assumption | (show AL.ahead _ _ _ = true; rfl) | (first | apply brF | apply brT | apply brVF | apply brVT) <;> intro _ | (with_reducible refine And.intro ?_ ?_) | (simp -dsimp -implicitDefEqProofs only [go_sem]))
  apply loop_keep [0, 1, 7] (fun i : { i : Nat // i ≤ l.length ∧ ∀ j (hj : j < l.length), j < i → sameR x l[j] = false } => [(8, n64 i.1)]) (fun _ => [(m, some (.robj (inA x)))]) (fun i => l.length - i.1) ⟨0, Nat.zero_le _, fun j _ hj => absurd hj (Nat.not_lt_zero _)⟩
  · simp -dsimp -implicitDefEqProofs only [go_sem]; rfl
  · simp -dsimp -implicitDefEqProofs only [go_sem]; try rfl
  · simp -dsimp -implicitDefEqProofs only [go_sem]; try rfl
  · intro s
    simp -dsimp -implicitDefEqProofs only [go_sem, inA, refA]
    try omega
  · rintro ⟨i, hi, hall⟩
    have hi : i ≤ l.length := hi
    simp -dsimp -implicitDefEqProofs only [go_sem]
    refine brT (fun hc => ?_) (fun hc => ?_)
    · have hi2 : i < l.length := by omega
      have q1 := ins_get hi2
      have w1 : IntKind.i64.wrap ((i : Int) + 1) = ((i + 1 : Nat) : Int) := wrapE (by omega) (by omega)
      have hr := fun nc (h : m < nc) => rin1_spec nc m x l[i] h
      simp only [inA] at hr q1
      repeat' (first | omega | assumption | (show AL.ahead _ _ _ = true; rfl) | (first | apply brF | apply brT | apply brVF | apply brVT) <;> intro _ | (with_reducible refine And.intro ?_ ?_) | (refine callK_by (hr _ (by omega)) ?_) | (simp -dsimp -implicitDefEqProofs only [go_sem, q1, w1, inA, x1, x2]))
      all_goals first
        | (rename_i hx
           have e : idxB (sameR x) l = i := idxB_hit hi2 hx (fun j h1 h2 => hall j h1 h2)
           rw [e])
        | (rename_i hx
           refine ⟨⟨i + 1, hi2, fun j hj1 hj2 => ?_⟩, by show l.length - (i + 1) < l.length - i; omega, rfl⟩
           by_cases hj3 : j < i
           · exact hall j hj1 hj3
           · have e : j = i := by omega
             subst e
             exact hx)
       
    · have e : i = l.length := by omega
      subst e
      repeat' (first | omega | assumption | (show AL.ahead _ _ _ = true; rfl) | (first | apply brF | apply brT | apply brVF | apply brVT) <;> intro _ | (with_reducible refine And.intro ?_ ?_) | (simp -dsimp -implicitDefEqProofs only [go_sem]))
      have e : idxB (sameR x) l = -1 := idxB_miss (fun j hj => hall j hj hj)
      rw [e]
theorem hasI_spec (nx m : Nat) (x : In_) (l : List In_) (hm : m < nx) (hl : l.length < 2 ^ 40) : FnSpec Tryz.prog 75 nx [.sl 35 (insA l) 0, .clos 76 [.ref m 0 []]] [(m, some (.robj (inA x)))] (bA (l.any (sameR x))) [] 0 := by
  have hi := fun nc (h : m < nc) => idxI_spec nc m x l h hl
  simp only [inA] at hi
  refine FnSpec.of_code (cx := cx) (an := {}) (rs := [.tmp 4]) mo Tryz.func75 rfl rfl (by kernel_rfl) (by kernel_rfl) (by show 2 ≤ _; decide) (.inl rfl) (by simp [allWr, keys, Res.wr]) ?_
  repeat' (first | omega | assumption | (show AL.ahead _ _ _ = true; rfl) | (first | apply brF | apply brT | apply brVF | apply brVT) <;> intro _ | (with_reducible refine And.intro ?_ ?_) | (refine callK_by (hi _ (by omega)) ?_) | (simp -dsimp -implicitDefEqProofs only [go_sem, inA]))
  all_goals rw [idxB_any]
theorem rout_spec (nx : Nat) (o : Out_) (hl : o.ways.length < 2 ^ 40) (hk : ∀ w ∈ o.ways, w.keys.length < 2 ^ 40) : FnSpec Tryz.prog 78 nx [outA o] [] (bA (!outB o)) [] 0 := by
  have hi := fun nc => outR_spec nc o hl hk
  simp only [outA] at hi
  refine FnSpec.of_code (cx := cx) (an := {}) (rs := [.tmp 2]) mo Tryz.func78 rfl rfl (by kernel_rfl) (by kernel_rfl) (by show 1 ≤ _; decide) (.inl rfl) (by simp [allWr, keys, Res.wr]) ?_
  repeat' (first | omega | assumption | (show AL.ahead _ _ _ = true; rfl) | (first | apply brF | apply brT | apply brVF | apply brVT) <;> intro _ | (with_reducible refine And.intro ?_ ?_) | (refine callK_by (hi _) ?_) | (simp -dsimp -implicitDefEqProofs only [go_sem, outA]))
  all_goals rfl
noncomputable abbrev badO (o : Out_) : Bool := !outB o
theorem idxO_spec (nx : Nat) (l : List Out_) (hl : l.length < 2 ^ 40) (hk : ∀ o ∈ l, o.ways.length < 2 ^ 40 ∧ ∀ w ∈ o.ways, w.keys.length < 2 ^ 40) : FnSpec Tryz.prog 122 nx [.sl 2 (outsA l) 0, .clos 78 []] [] (n64 (idxB badO l)) [] 0 := by
  refine FnSpec.of_code (cx := cx) (an := {}) (rs := [.tmp 4]) mo Tryz.func122 rfl rfl (by kernel_rfl) (by kernel_rfl) (by show 2 ≤ _; decide) (.inl rfl) (by simp [allWr, keys, Res.wr]) ?_
  repeat' (first | omega | assumption | (show AL.ahead _ _ _ = true; rfl) | (first | apply brF | apply brT | apply brVF | apply brVT) <;> intro _ | (with_reducible refine And.intro ?_ ?_) | (simp -dsimp -implicitDefEqProofs only [go_sem]))
  apply loop_keep [0, 1, 7] (fun i : { i : Nat // i ≤ l.length ∧ ∀ j (hj : j < l.length), j < i → badO l[j] = false } => [(8, n64 i.1)]) (fun _ => []) (fun i => l.length - i.1) ⟨0, Nat.zero_le _, fun j _ hj => absurd hj (Nat.not_lt_zero _)⟩
  · simp -dsimp -implicitDefEqProofs only [go_sem]; rfl
  · simp -dsimp -implicitDefEqProofs only [go_sem]; try rfl
  · simp -dsimp -implicitDefEqProofs only [go_sem]; try rfl
  · intro s
    simp -dsimp -implicitDefEqProofs only [go_sem]
    try omega
  · rintro ⟨i, hi, hall⟩
    have hi : i ≤ l.length := hi
    simp -dsimp -implicitDefEqProofs only [go_sem]
    refine brT (fun hc => ?_) (fun hc => ?_)
    · have hi2 : i < l.length := by omega
      have q1 := outs_get hi2
      have w1 : IntKind.i64.wrap ((i : Int) + 1) = ((i + 1 : Nat) : Int) := wrapE (by omega) (by omega)
      have hk1 := hk l[i] (List.getElem_mem _)
      have hr := fun nc => rout_spec nc l[i] hk1.1 hk1.2
      simp only [outA] at hr q1
      repeat' (first | omega | assumption | (show AL.ahead _ _ _ = true; rfl) | (first | apply brF | apply brT | apply brVF | apply brVT) <;> intro _ | (with_reducible refine And.intro ?_ ?_) | (refine callK_by (hr _) ?_) | (simp -dsimp -implicitDefEqProofs only [go_sem, q1, w1]))
      all_goals first
        | (rename_i hx
           have e : idxB badO l = i := idxB_hit hi2 (by simp only [badO, hx, Bool.not_false]) (fun j h1 h2 => hall j h1 h2)
           rw [e])
        | (rename_i hx
           refine ⟨⟨i + 1, hi2, fun j hj1 hj2 => ?_⟩, by show l.length - (i + 1) < l.length - i; omega, rfl⟩
           by_cases hj3 : j < i
           · exact hall j hj1 hj3
           · have e : j = i := by omega
             subst e
             simp only [badO, hx, Bool.not_true])
       
    · have e : i = l.length := by omega
      subst e
      repeat' (first | omega | assumption | (show AL.ahead _ _ _ = true; rfl) | (first | apply brF | apply brT | apply brVF | apply brVT) <;> intro _ | (with_reducible refine And.intro ?_ ?_) | (simp -dsimp -implicitDefEqProofs only [go_sem]))
      have e : idxB badO l = -1 := idxB_miss (fun j hj => hall j hj hj)
      rw [e]
theorem hasO_spec (nx : Nat) (l : List Out_) (hl : l.length < 2 ^ 40) (hk : ∀ o ∈ l, o.ways.length < 2 ^ 40 ∧ ∀ w ∈ o.ways, w.keys.length < 2 ^ 40) : FnSpec Tryz.prog 77 nx [.sl 2 (outsA l) 0, .clos 78 []] [] (bA (l.any badO)) [] 0 := by
  have hi := fun nc => idxO_spec nc l hl hk
  refine FnSpec.of_code (cx := cx) (an := {}) (rs := [.tmp 4]) mo Tryz.func77 rfl rfl (by kernel_rfl) (by kernel_rfl) (by show 2 ≤ _; decide) (.inl rfl) (by simp [allWr, keys, Res.wr]) ?_
  repeat' (first | omega | assumption | (show AL.ahead _ _ _ = true; rfl) | (first | apply brF | apply brT | apply brVF | apply brVT) <;> intro _ | (with_reducible refine And.intro ?_ ?_) | (refine callK_by (hi _) ?_) | (simp -dsimp -implicitDefEqProofs only [go_sem]))
  all_goals rw [idxB_any]
end Go.Proofs.YtaghcjbpjnpkbaaGreat

namespace Go.Proofs.YtaghcjbpjnpkbaaGreat
open Go Go.AL Go.Proofs.YtaghcjbpjnpkbaaGreat.T
attribute [local go_sem] nb_u8s u8s_length nb_sum sumA List.length_replicate zero_sum sum_h nb_vals vals_len u8s_nil ways_len nb_ways ins_len outs_len signs_len nb_ins nb_outs nb_signs
def insP (t : Tx_) (n : Nat) : Prop := ∀ i (h : i < t.ins.length), i < n → inR t.ins[i] ∧ (t.ins.take i).any (sameR t.ins[i]) = false
def sgnP (t : Tx_) (n : Nat) : Prop := ∀ i (h : i < t.signs.length), i < n → 0 ≤ t.signs[i].key ∧ t.signs[i].key ≤ 255 ∧ ∀ h0 : 0 < i, t.signs[i - 1].key < t.signs[i].key
def txP (t : Tx_) : Prop := t.ins.length ≤ 16 ∧ t.outs.length ≤ 16 ∧ t.signs.length ≤ 16 ∧ opB t.op = true ∧ ¬ (t.ins.length = 0 ∧ t.op.kind = 0) ∧ insP t t.ins.length ∧ sgnP t t.signs.length ∧ t.outs.any badO = false
noncomputable def txB (t : Tx_) : Bool := @decide (txP t) (Classical.propDecidable _)
theorem txB_yes {t : Tx_} (h : txP t) : bA (txB t) = bA true := by unfold txB; rw [@decide_eq_true _ (Classical.propDecidable _) h]
theorem txB_no {t : Tx_} (h : ¬ txP t) : bA (txB t) = bA false := by unfold txB; rw [@decide_eq_false _ (Classical.propDecidable _) h]
def txL (t : Tx_) : Prop := (∀ x ∈ t.ins, x.pre.length < 2 ^ 40) ∧ t.op.data.length < 2 ^ 40 ∧ t.ins.length < 2 ^ 40 ∧ t.outs.length < 2 ^ 40 ∧ t.signs.length < 2 ^ 40 ∧ ∀ o ∈ t.outs, o.ways.length < 2 ^ 40 ∧ ∀ w ∈ o.ways, w.keys.length < 2 ^ 40
theorem txR_spec (nx : Nat) (t : Tx_) (hL : txL t) : FnSpec Tryz.prog 34 nx [txA t] [] (bA (txB t)) [] 0 := by
  obtain ⟨hp, hd, hi1, ho1, hs1, hO⟩ := hL
  have hop := fun nc => opR_spec nc t.op hd
  simp only [opT] at hop
  refine FnSpec.of_code (cx := cx) (an := {}) (rs := [.tmp 2]) mo Tryz.func34 rfl rfl (by kernel_rfl) (by kernel_rfl) (by show 1 ≤ _; decide) (.inl rfl) (by simp [allWr, keys, Res.wr]) ?_
  repeat' (first | omega | assumption | (show AL.ahead _ _ _ = true; rfl) | (first | apply brF | apply brT | apply brVF | apply brVT) <;> intro _ | (with_reducible refine And.intro ?_ ?_) | (refine callK_by (hop _) ?_) | (simp -dsimp -implicitDefEqProofs only [go_sem, txA, opT]))
  all_goals try (refine (txB_no (fun h => ?_)).symm; obtain ⟨a1, a2, a3, a4, a5, a6, a7, a8⟩ := h; first | omega | (exact a5 ⟨by omega, by assumption⟩) | (simp_all; done))
  all_goals
    apply loop_keep [1, 42, 43] (fun i : { i : Nat // i ≤ t.ins.length ∧ insP t i } => [(44, n64 i.1)]) (fun _ => []) (fun i => t.ins.length - i.1) ⟨0, Nat.zero_le _, fun j _ hj => absurd hj (Nat.not_lt_zero _)⟩
    · simp -dsimp -implicitDefEqProofs only [go_sem]; try rfl
    · simp -dsimp -implicitDefEqProofs only [go_sem]; try rfl
    · simp -dsimp -implicitDefEqProofs only [go_sem]; try rfl
    · intro s
      simp -dsimp -implicitDefEqProofs only [go_sem]
      try omega
    · rintro ⟨i, hi, hall⟩
      have hi : i ≤ t.ins.length := hi
      simp -dsimp -implicitDefEqProofs only [go_sem]
      refine brT (fun hc => ?_) (fun hc => ?_)
      · have hi2 : i < t.ins.length := by omega
        have q1 := ins_get hi2
        have w1 : IntKind.i64.wrap ((i : Int) + 1) = ((i + 1 : Nat) : Int) := wrapE (by omega) (by omega)
        have hrI := fun nc (h : nx + 352 < nc) => hasI_spec nc (nx + 352) t.ins[i] (t.ins.take i) h (by rw [List.length_take]; omega)
        have hri := fun nc => inR_spec nc t.ins[i] (hp _ (List.getElem_mem _))
        simp only [inA] at hrI hri q1
        repeat' (first | omega | assumption | (show AL.ahead _ _ _ = true; rfl) | (first | apply brF | apply brT | apply brVF | apply brVT) <;> intro _ | (with_reducible refine And.intro ?_ ?_) | (refine callK_by (hri _) ?_) | (refine callK_by (hrI _ (by omega)) ?_) | (simp -dsimp -implicitDefEqProofs only [go_sem, q1, w1, inA, ins_take]))
        all_goals first
          | (refine (txB_no (fun h => ?_)).symm
             obtain ⟨a1, a2, a3, a4, a5, a6, a7, a8⟩ := h
             obtain ⟨b1, b2⟩ := a6 i hi2 hi2
             first | contradiction | (simp_all; done))
          | (rename_i hx1 hx2
             refine ⟨⟨i + 1, hi2, fun j hj1 hj2 => ?_⟩, by show t.ins.length - (i + 1) < t.ins.length - i; omega, rfl⟩
             by_cases hj3 : j < i
             · exact hall j hj1 hj3
             · have e : j = i := by omega
               subst e
               exact ⟨hx1, hx2⟩)
         
      · have e : i = t.ins.length := by omega
        subst e
        simp -dsimp -implicitDefEqProofs only [go_sem]
        apply loop_keep [1, 62, 63] (fun i : { i : Nat // i ≤ t.signs.length ∧ sgnP t i } => [(64, n64 i.1)]) (fun _ => []) (fun i => t.signs.length - i.1) ⟨0, Nat.zero_le _, fun j _ hj => absurd hj (Nat.not_lt_zero _)⟩
        · simp -dsimp -implicitDefEqProofs only [go_sem]; try rfl
        · simp -dsimp -implicitDefEqProofs only [go_sem]; try rfl
        · simp -dsimp -implicitDefEqProofs only [go_sem]; try rfl
        · intro s
          simp -dsimp -implicitDefEqProofs only [go_sem]
          try omega
        · rintro ⟨i, hi, hsig⟩
          have hi : i ≤ t.signs.length := hi
          simp -dsimp -implicitDefEqProofs only [go_sem]
          refine brT (fun hc => ?_) (fun hc => ?_)
          · have hi2 : i < t.signs.length := by omega
            have q1 := signs_get hi2
            have w1 : IntKind.i64.wrap ((i : Int) + 1) = ((i + 1 : Nat) : Int) := wrapE (by omega) (by omega)
            simp only [signA] at q1
            rcases Nat.eq_zero_or_pos i with rfl | hpos
            · repeat' (first | omega | assumption | (show AL.ahead _ _ _ = true; rfl) | (first | apply brF | apply brT | apply brVF | apply brVT) <;> intro _ | (with_reducible refine And.intro ?_ ?_) | (simp -dsimp -implicitDefEqProofs only [go_sem, q1, w1]))
              all_goals first
                | (refine (txB_no (fun h => ?_)).symm
                   obtain ⟨a1, a2, a3, a4, a5, a6, a7, a8⟩ := h
                   obtain ⟨b1, b2, b3⟩ := a7 0 hi2 hi2
                   omega)
                | (refine ⟨⟨0 + 1, hi2, fun j hj1 hj2 => ?_⟩, by show t.signs.length - (0 + 1) < t.signs.length - 0; omega, rfl⟩
                   have e : j = 0 := by omega
                   subst e
                   exact ⟨by omega, by omega, fun h0 => absurd h0 (by omega)⟩)
               
            · have hi3 : i - 1 < t.signs.length := by omega
              have q2 := signs_get hi3
              have w2 : IntKind.i64.wrap ((i : Int) - 1) = ((i - 1 : Nat) : Int) := wrapE (by omega) (by omega)
              simp only [signA] at q2
              repeat' (first | omega | assumption | (show AL.ahead _ _ _ = true; rfl) | (first | apply brF | apply brT | apply brVF | apply brVT) <;> intro _ | (with_reducible refine And.intro ?_ ?_) | (simp -dsimp -implicitDefEqProofs only [go_sem, q1, w1, q2, w2]))
              all_goals first
                | (refine (txB_no (fun h => ?_)).symm
                   obtain ⟨a1, a2, a3, a4, a5, a6, a7, a8⟩ := h
                   obtain ⟨b1, b2, b3⟩ := a7 i hi2 hi2
                   have b4 := b3 hpos
                   omega)
                | (refine ⟨⟨i + 1, hi2, fun j hj1 hj2 => ?_⟩, by show t.signs.length - (i + 1) < t.signs.length - i; omega, rfl⟩
                   by_cases hj3 : j < i
                   · exact hsig j hj1 hj3
                   · have e : j = i := by omega
                     subst e
                     exact ⟨by omega, by omega, fun h0 => by omega⟩)
               
          · have e : i = t.signs.length := by omega
            subst e
            repeat' (first | omega | assumption | (show AL.ahead _ _ _ = true; rfl) | (first | apply brF | apply brT | apply brVF | apply brVT) <;> intro _ | (with_reducible refine And.intro ?_ ?_) | (refine callK_by (hasO_spec _ t.outs ho1 hO) ?_) | (simp -dsimp -implicitDefEqProofs only [go_sem]))
            cases hb : t.outs.any badO with
            | true =>
              exact (txB_no (fun h => by rw [h.2.2.2.2.2.2.2] at hb; cases hb)).symm
            | false =>
              exact (txB_yes ⟨by omega, by omega, by omega, by assumption, by first | (rintro ⟨c1, c2⟩; omega) | (rintro ⟨c1, c2⟩; contradiction), hall, hsig, hb⟩).symm
end Go.Proofs.YtaghcjbpjnpkbaaGreat

/-
  Which transactions may be.
-/
import Derived.Test.YthfoeaokfhbdaaaGreatDP23
set_option linter.unusedSimpArgs false
set_option linter.unusedVariables false
set_option maxRecDepth 100000
set_option maxHeartbeats 8000000
namespace Go.Proofs.YthfoeaokfhbdaaaGreat
open Go Go.AL Go.Proofs.YthfoeaokfhbdaaaGreat.T
attribute [local go_sem] nb_u8s u8s_length nb_sum sumA List.length_replicate zero_sum sum_h nb_vals vals_len u8s_nil ways_len nb_ways ins_len outs_len signs_len nb_ins nb_outs nb_signs
def insP (t : Tx_) (n : Nat) : Prop := ∀ i (h : i < t.ins.length), i < n → inR t.ins[i] ∧ (t.ins.take i).any (sameR t.ins[i]) = false
def sgnP (t : Tx_) (n : Nat) : Prop := ∀ i (h : i < t.signs.length), i < n → 0 ≤ t.signs[i].key ∧ t.signs[i].key ≤ 255 ∧ ∀ h0 : 0 < i, t.signs[i - 1].key < t.signs[i].key
def txP (t : Tx_) : Prop := t.ins.length ≤ 16 ∧ t.outs.length ≤ 16 ∧ t.signs.length ≤ 16 ∧ opB t.op = true ∧ ¬ (t.ins.length = 0 ∧ t.op.kind = 0) ∧ insP t t.ins.length ∧ sgnP t t.signs.length ∧ t.outs.any badO = false
noncomputable def txB (t : Tx_) : Bool := @decide (txP t) (Classical.propDecidable _)
theorem txB_yes {t : Tx_} (h : txP t) : bA (txB t) = bA true := by unfold txB; rw [@decide_eq_true _ (Classical.propDecidable _) h]
theorem txB_no {t : Tx_} (h : ¬ txP t) : bA (txB t) = bA false := by unfold txB; rw [@decide_eq_false _ (Classical.propDecidable _) h]
def txL (t : Tx_) : Prop := (∀ x ∈ t.ins, x.pre.length < 2 ^ 40) ∧ t.op.data.length < 2 ^ 40 ∧ t.ins.length < 2 ^ 40 ∧ t.outs.length < 2 ^ 40 ∧ t.signs.length < 2 ^ 40 ∧ ∀ o ∈ t.outs, o.ways.length < 2 ^ 40 ∧ ∀ w ∈ o.ways, w.keys.length < 2 ^ 40
theorem txR_spec (nx : Nat) (t : Tx_) (hL : txL t) : FnSpec Tryz.prog 56 nx [txA t] [] (bA (txB t)) [] 0 := by
  obtain ⟨hp, hd, hi1, ho1, hs1, hO⟩ := hL
  have hop := fun nc => opR_spec nc t.op hd
  simp only [opT] at hop
  refine FnSpec.of_code (cx := cx) (an := {}) (rs := [.tmp 2]) mo Tryz.func56 rfl rfl (by kernel_rfl) (by kernel_rfl) (by show 1 ≤ _; decide) (.inl rfl) (by simp [allWr, keys, Res.wr]) ?_
  repeat' (first | omega | assumption | (show AL.ahead _ _ _ = true; rfl) | (first | apply brF | apply brT | apply brVF | apply brVT) <;> intro _ | (with_reducible refine And.intro ?_ ?_) | (refine callK_by (hop _) ?_) | (simp -dsimp -implicitDefEqProofs only [go_sem, txA, opT]))
  all_goals try (refine (txB_no (fun h => ?_)).symm; obtain ⟨a1, a2, a3, a4, a5, a6, a7, a8⟩ := h; first | omega | (exact a5 ⟨by omega, by assumption⟩) | (simp_all; done))
  all_goals
    apply loop_keep [1, 42, 43] (fun i : { i : Nat // i ≤ t.ins.length ∧ insP t i } => [(44, n64 i.1)]) (fun _ => []) (fun i => t.ins.length - i.1) ⟨0, Nat.zero_le _, fun j _ hj => absurd hj (Nat.not_lt_zero _)⟩
    · simp -dsimp -implicitDefEqProofs only [go_sem]; try rfl
    · simp -dsimp -implicitDefEqProofs only [go_sem]; try rfl
    · simp -dsimp -implicitDefEqProofs only [go_sem]; try rfl
    · intro s
      simp -dsimp -implicitDefEqProofs only [go_sem]
      try omega
    · rintro ⟨i, hi, hall⟩
      have hi : i ≤ t.ins.length := hi
      simp -dsimp -implicitDefEqProofs only [go_sem]
      refine brT (fun hc => ?_) (fun hc => ?_)
      · have hi2 : i < t.ins.length := by omega
        have q1 := ins_get hi2
        have w1 : IntKind.i64.wrap ((i : Int) + 1) = ((i + 1 : Nat) : Int) := wrapE (by omega) (by omega)
        have hrI := fun nc (h : nx + 352 < nc) => hasI_spec nc (nx + 352) t.ins[i] (t.ins.take i) h (by rw [List.length_take]; omega)
        have hri := fun nc => inR_spec nc t.ins[i] (hp _ (List.getElem_mem _))
        simp only [inA] at hrI hri q1
        repeat' (first | omega | assumption | (show AL.ahead _ _ _ = true; rfl) | (first | apply brF | apply brT | apply brVF | apply brVT) <;> intro _ | (with_reducible refine And.intro ?_ ?_) | (refine callK_by (hri _) ?_) | (refine callK_by (hrI _ (by omega)) ?_) | (simp -dsimp -implicitDefEqProofs only [go_sem, q1, w1, inA, ins_take]))
        all_goals first
          | (refine (txB_no (fun h => ?_)).symm
             obtain ⟨a1, a2, a3, a4, a5, a6, a7, a8⟩ := h
             obtain ⟨b1, b2⟩ := a6 i hi2 hi2
             first | contradiction | (simp_all; done))
          | (rename_i hx1 hx2
             refine ⟨⟨i + 1, hi2, fun j hj1 hj2 => ?_⟩, by show t.ins.length - (i + 1) < t.ins.length - i; omega, rfl⟩
             by_cases hj3 : j < i
             · exact hall j hj1 hj3
             · have e : j = i := by omega
               subst e
               exact ⟨hx1, hx2⟩)
         
      · have e : i = t.ins.length := by omega
        subst e
        simp -dsimp -implicitDefEqProofs only [go_sem]
        apply loop_keep [1, 62, 63] (fun i : { i : Nat // i ≤ t.signs.length ∧ sgnP t i } => [(64, n64 i.1)]) (fun _ => []) (fun i => t.signs.length - i.1) ⟨0, Nat.zero_le _, fun j _ hj => absurd hj (Nat.not_lt_zero _)⟩
        · simp -dsimp -implicitDefEqProofs only [go_sem]; try rfl
        · simp -dsimp -implicitDefEqProofs only [go_sem]; try rfl
        · simp -dsimp -implicitDefEqProofs only [go_sem]; try rfl
        · intro s
          simp -dsimp -implicitDefEqProofs only [go_sem]
          try omega
        · rintro ⟨i, hi, hsig⟩
          have hi : i ≤ t.signs.length := hi
          simp -dsimp -implicitDefEqProofs only [go_sem]
          refine brT (fun hc => ?_) (fun hc => ?_)
          · have hi2 : i < t.signs.length := by omega
            have q1 := signs_get hi2
            have w1 : IntKind.i64.wrap ((i : Int) + 1) = ((i + 1 : Nat) : Int) := wrapE (by omega) (by omega)
            simp only [signA] at q1
            rcases Nat.eq_zero_or_pos i with rfl | hpos
            · repeat' (first | omega | assumption | (show AL.ahead _ _ _ = true; rfl) | (first | apply brF | apply brT | apply brVF | apply brVT) <;> intro _ | (with_reducible refine And.intro ?_ ?_) | (simp -dsimp -implicitDefEqProofs only [go_sem, q1, w1]))
              all_goals first
                | (refine (txB_no (fun h => ?_)).symm
                   obtain ⟨a1, a2, a3, a4, a5, a6, a7, a8⟩ := h
                   obtain ⟨b1, b2, b3⟩ := a7 0 hi2 hi2
                   omega)
                | (refine ⟨⟨0 + 1, hi2, fun j hj1 hj2 => ?_⟩, by show t.signs.length - (0 + 1) < t.signs.length - 0; omega, rfl⟩
                   have e : j = 0 := by omega
                   subst e
                   exact ⟨by omega, by omega, fun h0 => absurd h0 (by omega)⟩)
               
            · have hi3 : i - 1 < t.signs.length := by omega
              have q2 := signs_get hi3
              have w2 : IntKind.i64.wrap ((i : Int) - 1) = ((i - 1 : Nat) : Int) := wrapE (by omega) (by omega)
              simp only [signA] at q2
              repeat' (first | omega | assumption | (show AL.ahead _ _ _ = true; rfl) | (first | apply brF | apply brT | apply brVF | apply brVT) <;> intro _ | (with_reducible refine And.intro ?_ ?_) | (simp -dsimp -implicitDefEqProofs only [go_sem, q1, w1, q2, w2]))
              all_goals first
                | (refine (txB_no (fun h => ?_)).symm
                   obtain ⟨a1, a2, a3, a4, a5, a6, a7, a8⟩ := h
                   obtain ⟨b1, b2, b3⟩ := a7 i hi2 hi2
                   have b4 := b3 hpos
                   omega)
                | (refine ⟨⟨i + 1, hi2, fun j hj1 hj2 => ?_⟩, by show t.signs.length - (i + 1) < t.signs.length - i; omega, rfl⟩
                   by_cases hj3 : j < i
                   · exact hsig j hj1 hj3
                   · have e : j = i := by omega
                     subst e
                     exact ⟨by omega, by omega, fun h0 => by omega⟩)
               
          · have e : i = t.signs.length := by omega
            subst e
            repeat' (first | omega | assumption | (show AL.ahead _ _ _ = true; rfl) | (first | apply brF | apply brT | apply brVF | apply brVT) <;> intro _ | (with_reducible refine And.intro ?_ ?_) | (refine callK_by (hasO_spec _ t.outs ho1 hO) ?_) | (simp -dsimp -implicitDefEqProofs only [go_sem]))
            cases hb : t.outs.any badO with
            | true =>
              exact (txB_no (fun h => by rw [h.2.2.2.2.2.2.2] at hb; cases hb)).symm
            | false =>
              exact (txB_yes ⟨by omega, by omega, by omega, by assumption, by first | (rintro ⟨c1, c2⟩; omega) | (rintro ⟨c1, c2⟩; contradiction), hall, hsig, hb⟩).symm
end Go.Proofs.YthfoeaokfhbdaaaGreat

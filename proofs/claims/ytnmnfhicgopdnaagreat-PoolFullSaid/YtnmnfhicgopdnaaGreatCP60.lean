/-
  slices.Equal of bytes.
-/
import Derived.Test.YtnmnfhicgopdnaaGreatCP12
import Derived.Test.YtnmnfhicgopdnaaGreatCP25
set_option linter.unusedSimpArgs false
set_option linter.unusedVariables false
set_option maxRecDepth 100000
set_option maxHeartbeats 1000000
namespace Go.Proofs.YtnmnfhicgopdnaaGreat
open Go Go.AL Go.Proofs.YtnmnfhicgopdnaaGreat.T
attribute [local go_sem] nb_u8s u8s_length
theorem bytes_ext {a b : List UInt8} (hl : a.length = b.length) (h : ∀ j, j < a.length → a.getD j 0 = b.getD j 0) : a = b := by
  apply List.ext_getElem hl
  intro j h1 h2
  have := h j h1
  simpa [List.getD_eq_getElem?_getD, List.getElem?_eq_getElem h1, List.getElem?_eq_getElem h2] using this
theorem u8_inj {a b : UInt8} (h : (a.toNat : Int) = (b.toNat : Int)) : a = b := UInt8.toNat_inj.1 (by omega)
theorem equal_spec (nx : Nat) (a b : List UInt8) (ta tb : Nat) (ha : a.length < 2 ^ 40) (hb : b.length < 2 ^ 40) (h1 : ta < 2 ∨ ta - 2 < nx) (h2 : tb < 2 ∨ tb - 2 < nx) :
    FnSpec Tryz.prog 42 nx [.sl 1 (u8s a) ta, .sl 1 (u8s b) tb] [] (bA (decide (a = b))) [] 0 := by
  refine FnSpec.of_code (cx := cx) (an := {}) (rs := [.tmp 4]) mo Tryz.func42 rfl rfl (by kernel_rfl) (by kernel_rfl) (by show 2 ≤ _; decide) (.inl rfl) (by simp [allWr, keys, Res.wr]) ?_
  repeat' (first | omega | assumption | (show AL.ahead _ _ _ = true; rfl) | refine brF (fun _ => ?_) (fun _ => ?_) | refine brT (fun _ => ?_) (fun _ => ?_) | refine brVF (fun _ => ?_) (fun _ => ?_) | refine brVT (fun _ => ?_) (fun _ => ?_) | (with_reducible refine And.intro ?_ ?_) | (simp -dsimp -implicitDefEqProofs only [go_sem, ↓reduceIte, Nat.reduceEqDiff, Nat.reduceAdd, Nat.reduceMul, Nat.reduceLeDiff, Nat.reduceLT, Nat.reduceBEq, Nat.reducePow, Int.reduceToNat, Int.reduceLE, Int.reduceLT, Int.reduceNeg, reduceCtorEq, Int.reduceEq, Int.reduceAdd, Int.reduceSub, Int.reduceMul, Nat.reduceSub]))
  · rename_i hne
    have e : decide (a = b) = false := decide_eq_false (fun e => by subst e; omega)
    rw [e]
  rename_i heq
  have heq : a.length = b.length := by omega
  apply loop_keep [0, 1, 12] (fun i : { i : Nat // i ≤ a.length ∧ ∀ j, j < i → a.getD j 0 = b.getD j 0 } => [(13, n64 i.1)]) (fun _ => []) (fun i => a.length - i.1) ⟨0, Nat.zero_le _, fun j hj => absurd hj (Nat.not_lt_zero _)⟩
  · simp -dsimp -implicitDefEqProofs only [go_sem, ↓reduceIte, Nat.reduceEqDiff, Nat.reduceAdd, Nat.reduceMul, Nat.reduceLeDiff, Nat.reduceLT, Nat.reduceBEq, Nat.reducePow, Int.reduceToNat, Int.reduceLE, Int.reduceLT, Int.reduceNeg, reduceCtorEq, Int.reduceEq, Int.reduceAdd, Int.reduceSub, Int.reduceMul, Nat.reduceSub]; rfl
  · simp -dsimp -implicitDefEqProofs only [go_sem, ↓reduceIte, Nat.reduceEqDiff, Nat.reduceAdd, Nat.reduceMul, Nat.reduceLeDiff, Nat.reduceLT, Nat.reduceBEq, Nat.reducePow, Int.reduceToNat, Int.reduceLE, Int.reduceLT, Int.reduceNeg, reduceCtorEq, Int.reduceEq, Int.reduceAdd, Int.reduceSub, Int.reduceMul, Nat.reduceSub]; try rfl
  · simp -dsimp -implicitDefEqProofs only [go_sem, ↓reduceIte, Nat.reduceEqDiff, Nat.reduceAdd, Nat.reduceMul, Nat.reduceLeDiff, Nat.reduceLT, Nat.reduceBEq, Nat.reducePow, Int.reduceToNat, Int.reduceLE, Int.reduceLT, Int.reduceNeg, reduceCtorEq, Int.reduceEq, Int.reduceAdd, Int.reduceSub, Int.reduceMul, Nat.reduceSub]; try rfl
  · intro s
    simp -dsimp -implicitDefEqProofs only [go_sem, ↓reduceIte, Nat.reduceEqDiff, Nat.reduceAdd, Nat.reduceMul, Nat.reduceLeDiff, Nat.reduceLT, Nat.reduceBEq, Nat.reducePow, Int.reduceToNat, Int.reduceLE, Int.reduceLT, Int.reduceNeg, reduceCtorEq, Int.reduceEq, Int.reduceAdd, Int.reduceSub, Int.reduceMul, Nat.reduceSub]
    try omega
  · rintro ⟨i, hi, hall⟩
    have hi : i ≤ a.length := hi
    simp -dsimp -implicitDefEqProofs only [go_sem, ↓reduceIte, Nat.reduceEqDiff, Nat.reduceAdd, Nat.reduceMul, Nat.reduceLeDiff, Nat.reduceLT, Nat.reduceBEq, Nat.reducePow, Int.reduceToNat, Int.reduceLE, Int.reduceLT, Int.reduceNeg, reduceCtorEq, Int.reduceEq, Int.reduceAdd, Int.reduceSub, Int.reduceMul, Nat.reduceSub]
    refine brT (fun hc => ?_) (fun hc => ?_)
    · have hi2 : i < a.length := by omega
      have hi3 : i < b.length := by omega
      have q1 := u8s_get hi2
      have q2 := u8s_get hi3
      have w1 : IntKind.i64.wrap ((i : Int) + 1) = ((i + 1 : Nat) : Int) := wrapE (by omega) (by omega)
      repeat' (first | omega | assumption | (show AL.ahead _ _ _ = true; rfl) | refine brF (fun _ => ?_) (fun _ => ?_) | refine brT (fun _ => ?_) (fun _ => ?_) | refine brVF (fun _ => ?_) (fun _ => ?_) | refine brVT (fun _ => ?_) (fun _ => ?_) | (with_reducible refine And.intro ?_ ?_) | (simp -dsimp -implicitDefEqProofs only [go_sem, ↓reduceIte, Nat.reduceEqDiff, Nat.reduceAdd, Nat.reduceMul, Nat.reduceLeDiff, Nat.reduceLT, Nat.reduceBEq, Nat.reducePow, Int.reduceToNat, Int.reduceLE, Int.reduceLT, Int.reduceNeg, reduceCtorEq, Int.reduceEq, Int.reduceAdd, Int.reduceSub, Int.reduceMul, Nat.reduceSub, q1, q2, w1]))
      all_goals first
        | (rename_i hx
           have e : decide (a = b) = false := decide_eq_false (fun e => hx (by rw [e]))
           rw [e])
        | (rename_i hx
           refine ⟨⟨i + 1, hi2, fun j hj => ?_⟩, by show a.length - (i + 1) < a.length - i; omega, rfl⟩
           by_cases hj3 : j < i
           · exact hall j hj3
           · have e : j = i := by omega
             subst e
             exact u8_inj (by omega))
        | trace_state
    · have e : i = a.length := by omega
      subst e
      repeat' (first | omega | assumption | (show AL.ahead _ _ _ = true; rfl) | refine brF (fun _ => ?_) (fun _ => ?_) | refine brT (fun _ => ?_) (fun _ => ?_) | refine brVF (fun _ => ?_) (fun _ => ?_) | refine brVT (fun _ => ?_) (fun _ => ?_) | (with_reducible refine And.intro ?_ ?_) | (simp -dsimp -implicitDefEqProofs only [go_sem, ↓reduceIte, Nat.reduceEqDiff, Nat.reduceAdd, Nat.reduceMul, Nat.reduceLeDiff, Nat.reduceLT, Nat.reduceBEq, Nat.reducePow, Int.reduceToNat, Int.reduceLE, Int.reduceLT, Int.reduceNeg, reduceCtorEq, Int.reduceEq, Int.reduceAdd, Int.reduceSub, Int.reduceMul, Nat.reduceSub]))
      have e : decide (a = b) = true := decide_eq_true (bytes_ext heq hall)
      rw [e]
end Go.Proofs.YtnmnfhicgopdnaaGreat

/-
  Are two transactions alike? Those that spend one out each, and nothing else.
-/
set_option linter.unusedSimpArgs false
set_option linter.unusedVariables false
set_option maxRecDepth 100000
set_option maxHeartbeats 1000000
namespace Go.Proofs.YtnmnfhicgopdnaaGreat
open Go Go.AL Go.Proofs.YtnmnfhicgopdnaaGreat.T
attribute [local go_sem] nb_u8s u8s_length nb_sum sumA List.length_replicate zero_sum sum_h nb_vals vals_len u8s_nil ways_len nb_ways ins_len outs_len signs_len nb_ins nb_outs nb_signs
/-- of a size at which it can be written -/
def txZ2 (t : Tx_) : Prop := txL t ∧ (bytL t).length < 2 ^ 38 ∧ ∀ o ∈ t.outs, ∀ w ∈ o.ways, w.keys.length < 2 ^ 32
noncomputable def sameB (a b : Tx_) : Bool := txB a && (txB b && decide (bytL a = bytL b))
theorem sameG_spec (nx : Nat) (a b : Tx_) (ha : txZ2 a) (hb : txZ2 b) : FnSpec Tryz.prog 20 nx [txA a, txA b] [] (bA (sameB a b)) [] 0 := by
  obtain ⟨a1, a2, a3⟩ := ha
  obtain ⟨b1, b2, b3⟩ := hb
  have hq := fun nc => equal_spec nc (bytL a) (bytL b) 0 0 (by omega) (by omega) (by omega) (by omega)
  unfold sameB
  cases hA : txB a with
  | true =>
    have h1 := fun nc => bytesOk_spec nc a a1 hA a2 a3
    cases hB : txB b with
    | true =>
      have h2 := fun nc => bytesOk_spec nc b b1 hB b2 b3
      rw [Bool.true_and, Bool.true_and]
      refine FnSpec.of_code (cx := cx) (an := {}) (rs := [.tmp 4]) mo Tryz.func20 rfl rfl (by kernel_rfl) (by kernel_rfl) (by show 2 ≤ _; decide) (.inl rfl) (by simp [allWr, keys, Res.wr]) ?_
      simp -dsimp -implicitDefEqProofs only [go_sem, ↓reduceIte, Nat.reduceEqDiff, Nat.reduceAdd, Nat.reduceMul, Nat.reduceLeDiff, Nat.reduceLT, Nat.reduceBEq, Nat.reducePow, Int.reduceToNat, Int.reduceLE, Int.reduceLT, Int.reduceNeg, reduceCtorEq, Int.reduceEq, Int.reduceAdd, Int.reduceSub, Int.reduceMul, Nat.reduceSub, txA_good, txA_csz, txA_agg, nb_tx]
      refine callK_by (h1 _) ?_
      repeat' (first | omega | assumption | (show AL.ahead _ _ _ = true; rfl) | refine brF (fun _ => ?_) (fun _ => ?_) | refine brT (fun _ => ?_) (fun _ => ?_) | refine brVF (fun _ => ?_) (fun _ => ?_) | refine brVT (fun _ => ?_) (fun _ => ?_) | (with_reducible refine And.intro ?_ ?_) | (simp -dsimp -implicitDefEqProofs only [go_sem, ↓reduceIte, Nat.reduceEqDiff, Nat.reduceAdd, Nat.reduceMul, Nat.reduceLeDiff, Nat.reduceLT, Nat.reduceBEq, Nat.reducePow, Int.reduceToNat, Int.reduceLE, Int.reduceLT, Int.reduceNeg, reduceCtorEq, Int.reduceEq, Int.reduceAdd, Int.reduceSub, Int.reduceMul, Nat.reduceSub, txA_good, txA_csz, txA_agg, nb_tx]))
      refine callK_by (h2 _) ?_
      repeat' (first | omega | assumption | (show AL.ahead _ _ _ = true; rfl) | refine brF (fun _ => ?_) (fun _ => ?_) | refine brT (fun _ => ?_) (fun _ => ?_) | refine brVF (fun _ => ?_) (fun _ => ?_) | refine brVT (fun _ => ?_) (fun _ => ?_) | (with_reducible refine And.intro ?_ ?_) | (refine callK_by (hq _) ?_) | (simp -dsimp -implicitDefEqProofs only [go_sem, ↓reduceIte, Nat.reduceEqDiff, Nat.reduceAdd, Nat.reduceMul, Nat.reduceLeDiff, Nat.reduceLT, Nat.reduceBEq, Nat.reducePow, Int.reduceToNat, Int.reduceLE, Int.reduceLT, Int.reduceNeg, reduceCtorEq, Int.reduceEq, Int.reduceAdd, Int.reduceSub, Int.reduceMul, Nat.reduceSub, txA_good, txA_csz, txA_agg, nb_tx]))
      all_goals trace_state
    | false =>
      have h2 := fun nc => bytesBad_spec nc b b1 hB
      rw [Bool.true_and, Bool.false_and]
      refine FnSpec.of_code (cx := cx) (an := {}) (rs := [.tmp 4]) mo Tryz.func20 rfl rfl (by kernel_rfl) (by kernel_rfl) (by show 2 ≤ _; decide) (.inl rfl) (by simp [allWr, keys, Res.wr]) ?_
      simp -dsimp -implicitDefEqProofs only [go_sem, ↓reduceIte, Nat.reduceEqDiff, Nat.reduceAdd, Nat.reduceMul, Nat.reduceLeDiff, Nat.reduceLT, Nat.reduceBEq, Nat.reducePow, Int.reduceToNat, Int.reduceLE, Int.reduceLT, Int.reduceNeg, reduceCtorEq, Int.reduceEq, Int.reduceAdd, Int.reduceSub, Int.reduceMul, Nat.reduceSub, txA_good, txA_csz, txA_agg, nb_tx]
      refine callK_by (h1 _) ?_
      repeat' (first | omega | assumption | (show AL.ahead _ _ _ = true; rfl) | refine brF (fun _ => ?_) (fun _ => ?_) | refine brT (fun _ => ?_) (fun _ => ?_) | refine brVF (fun _ => ?_) (fun _ => ?_) | refine brVT (fun _ => ?_) (fun _ => ?_) | (with_reducible refine And.intro ?_ ?_) | (simp -dsimp -implicitDefEqProofs only [go_sem, ↓reduceIte, Nat.reduceEqDiff, Nat.reduceAdd, Nat.reduceMul, Nat.reduceLeDiff, Nat.reduceLT, Nat.reduceBEq, Nat.reducePow, Int.reduceToNat, Int.reduceLE, Int.reduceLT, Int.reduceNeg, reduceCtorEq, Int.reduceEq, Int.reduceAdd, Int.reduceSub, Int.reduceMul, Nat.reduceSub, txA_good, txA_csz, txA_agg, nb_tx]))
      refine callK_by (h2 _) ?_
      repeat' (first | omega | assumption | (show AL.ahead _ _ _ = true; rfl) | refine brF (fun _ => ?_) (fun _ => ?_) | refine brT (fun _ => ?_) (fun _ => ?_) | refine brVF (fun _ => ?_) (fun _ => ?_) | refine brVT (fun _ => ?_) (fun _ => ?_) | (with_reducible refine And.intro ?_ ?_) | (simp -dsimp -implicitDefEqProofs only [go_sem, ↓reduceIte, Nat.reduceEqDiff, Nat.reduceAdd, Nat.reduceMul, Nat.reduceLeDiff, Nat.reduceLT, Nat.reduceBEq, Nat.reducePow, Int.reduceToNat, Int.reduceLE, Int.reduceLT, Int.reduceNeg, reduceCtorEq, Int.reduceEq, Int.reduceAdd, Int.reduceSub, Int.reduceMul, Nat.reduceSub, txA_good, txA_csz, txA_agg, nb_tx]))
      all_goals trace_state
  | false =>
    have h1 := fun nc => bytesBad_spec nc a a1 hA
    rw [Bool.false_and]
    cases hB : txB b with
    | true =>
      have h2 := fun nc => bytesOk_spec nc b b1 hB b2 b3
      refine FnSpec.of_code (cx := cx) (an := {}) (rs := [.tmp 4]) mo Tryz.func20 rfl rfl (by kernel_rfl) (by kernel_rfl) (by show 2 ≤ _; decide) (.inl rfl) (by simp [allWr, keys, Res.wr]) ?_
      simp -dsimp -implicitDefEqProofs only [go_sem, ↓reduceIte, Nat.reduceEqDiff, Nat.reduceAdd, Nat.reduceMul, Nat.reduceLeDiff, Nat.reduceLT, Nat.reduceBEq, Nat.reducePow, Int.reduceToNat, Int.reduceLE, Int.reduceLT, Int.reduceNeg, reduceCtorEq, Int.reduceEq, Int.reduceAdd, Int.reduceSub, Int.reduceMul, Nat.reduceSub, txA_good, txA_csz, txA_agg, nb_tx]
      refine callK_by (h1 _) ?_
      repeat' (first | omega | assumption | (show AL.ahead _ _ _ = true; rfl) | refine brF (fun _ => ?_) (fun _ => ?_) | refine brT (fun _ => ?_) (fun _ => ?_) | refine brVF (fun _ => ?_) (fun _ => ?_) | refine brVT (fun _ => ?_) (fun _ => ?_) | (with_reducible refine And.intro ?_ ?_) | (simp -dsimp -implicitDefEqProofs only [go_sem, ↓reduceIte, Nat.reduceEqDiff, Nat.reduceAdd, Nat.reduceMul, Nat.reduceLeDiff, Nat.reduceLT, Nat.reduceBEq, Nat.reducePow, Int.reduceToNat, Int.reduceLE, Int.reduceLT, Int.reduceNeg, reduceCtorEq, Int.reduceEq, Int.reduceAdd, Int.reduceSub, Int.reduceMul, Nat.reduceSub, txA_good, txA_csz, txA_agg, nb_tx]))
      refine callK_by (h2 _) ?_
      repeat' (first | omega | assumption | (show AL.ahead _ _ _ = true; rfl) | refine brF (fun _ => ?_) (fun _ => ?_) | refine brT (fun _ => ?_) (fun _ => ?_) | refine brVF (fun _ => ?_) (fun _ => ?_) | refine brVT (fun _ => ?_) (fun _ => ?_) | (with_reducible refine And.intro ?_ ?_) | (simp -dsimp -implicitDefEqProofs only [go_sem, ↓reduceIte, Nat.reduceEqDiff, Nat.reduceAdd, Nat.reduceMul, Nat.reduceLeDiff, Nat.reduceLT, Nat.reduceBEq, Nat.reducePow, Int.reduceToNat, Int.reduceLE, Int.reduceLT, Int.reduceNeg, reduceCtorEq, Int.reduceEq, Int.reduceAdd, Int.reduceSub, Int.reduceMul, Nat.reduceSub, txA_good, txA_csz, txA_agg, nb_tx]))
      all_goals trace_state
    | false =>
      have h2 := fun nc => bytesBad_spec nc b b1 hB
      refine FnSpec.of_code (cx := cx) (an := {}) (rs := [.tmp 4]) mo Tryz.func20 rfl rfl (by kernel_rfl) (by kernel_rfl) (by show 2 ≤ _; decide) (.inl rfl) (by simp [allWr, keys, Res.wr]) ?_
      simp -dsimp -implicitDefEqProofs only [go_sem, ↓reduceIte, Nat.reduceEqDiff, Nat.reduceAdd, Nat.reduceMul, Nat.reduceLeDiff, Nat.reduceLT, Nat.reduceBEq, Nat.reducePow, Int.reduceToNat, Int.reduceLE, Int.reduceLT, Int.reduceNeg, reduceCtorEq, Int.reduceEq, Int.reduceAdd, Int.reduceSub, Int.reduceMul, Nat.reduceSub, txA_good, txA_csz, txA_agg, nb_tx]
      refine callK_by (h1 _) ?_
      repeat' (first | omega | assumption | (show AL.ahead _ _ _ = true; rfl) | refine brF (fun _ => ?_) (fun _ => ?_) | refine brT (fun _ => ?_) (fun _ => ?_) | refine brVF (fun _ => ?_) (fun _ => ?_) | refine brVT (fun _ => ?_) (fun _ => ?_) | (with_reducible refine And.intro ?_ ?_) | (simp -dsimp -implicitDefEqProofs only [go_sem, ↓reduceIte, Nat.reduceEqDiff, Nat.reduceAdd, Nat.reduceMul, Nat.reduceLeDiff, Nat.reduceLT, Nat.reduceBEq, Nat.reducePow, Int.reduceToNat, Int.reduceLE, Int.reduceLT, Int.reduceNeg, reduceCtorEq, Int.reduceEq, Int.reduceAdd, Int.reduceSub, Int.reduceMul, Nat.reduceSub, txA_good, txA_csz, txA_agg, nb_tx]))
      refine callK_by (h2 _) ?_
      repeat' (first | omega | assumption | (show AL.ahead _ _ _ = true; rfl) | refine brF (fun _ => ?_) (fun _ => ?_) | refine brT (fun _ => ?_) (fun _ => ?_) | refine brVF (fun _ => ?_) (fun _ => ?_) | refine brVT (fun _ => ?_) (fun _ => ?_) | (with_reducible refine And.intro ?_ ?_) | (simp -dsimp -implicitDefEqProofs only [go_sem, ↓reduceIte, Nat.reduceEqDiff, Nat.reduceAdd, Nat.reduceMul, Nat.reduceLeDiff, Nat.reduceLT, Nat.reduceBEq, Nat.reducePow, Int.reduceToNat, Int.reduceLE, Int.reduceLT, Int.reduceNeg, reduceCtorEq, Int.reduceEq, Int.reduceAdd, Int.reduceSub, Int.reduceMul, Nat.reduceSub, txA_good, txA_csz, txA_agg, nb_tx]))
      all_goals trace_state
/-- it spends one out, and nothing else -/
def oneT (s : Sum) : Tx_ := ⟨[⟨⟨s, 0⟩, 0, []⟩], [], op0, []⟩
theorem oneT_right (s : Sum) : txB (oneT s) = true := by
  have h : txP (oneT s) := by
    refine ⟨by simp [oneT], by simp [oneT], by simp [oneT], ?_, by simp [oneT], fun i hi _ => ?_, fun i hi _ => by simp [oneT] at hi, by simp [oneT]⟩
    · show opB op0 = true
      unfold opB
      rw [if_pos (show op0.kind = 0 from rfl)]
      simp [op0, eqB_self]
    · have e : i = 0 := by simp [oneT] at hi; omega
      subst e
      exact ⟨by show (0 : Int) ≤ 0 ∧ (0 : Int) < 16 ∧ (0 : Int) ≤ 0 ∧ (0 : Int) < 16 ∧ 0 ≤ 64; decide, by simp [oneT]⟩
  have := txB_yes h
  injection this with this
  injection this
theorem oneT_byt (s : Sum) : ∃ R, ∀ s', bytL (oneT s') = numI ((1 : Nat) : Int) ++ (s'.b ++ R) := by
  refine ⟨[(0 : Int), 0].flatMap numI ++ (numI (([] : List UInt8).length : Int) ++ []) ++ (numI ((0 : Nat) : Int) ++ opL op0 ++ numI ((0 : Nat) : Int)), fun s' => ?_⟩
  simp only [bytL, bodyL, oneT, inL, List.flatMap_cons, List.flatMap_nil, List.append_nil, List.length_cons, List.length_nil, Nat.zero_add, if_true, List.append_assoc]
theorem oneT_inj {s s' : Sum} : bytL (oneT s) = bytL (oneT s') ↔ s.b = s'.b := by
  obtain ⟨R, hR⟩ := oneT_byt s
  rw [hR s, hR s']
  constructor
  · intro h
    have h2 := List.append_cancel_left h
    exact (List.append_inj h2 (by rw [s.h, s'.h])).1
  · intro h; rw [h]
theorem oneT_len (s : Sum) : (bytL (oneT s)).length < 2 ^ 38 := by
  have h1 := numI_len ((1 : Nat) : Int)
  have h0 := numI_len ((0 : Nat) : Int)
  have h2 := inL_le ⟨⟨s, 0⟩, 0, []⟩
  have h4 := opL_le op0
  simp only [op0, List.length_nil] at h4 h2
  simp only [bytL, bodyL, oneT, op0, List.flatMap_cons, List.flatMap_nil, List.append_nil, List.length_append, List.length_cons, List.length_nil, Nat.zero_add]
  omega
theorem oneT_size (s : Sum) : txZ2 (oneT s) := by
  refine ⟨⟨fun x hx => ?_, by simp [oneT, op0], by simp [oneT], by simp [oneT], by simp [oneT], fun o ho => by simp [oneT] at ho⟩, oneT_len s, fun o ho => by simp [oneT] at ho⟩
  simp [oneT] at hx; subst hx; simp
theorem oneT_same (s s' : Sum) : sameB (oneT s) (oneT s') = decide (s.b = s'.b) := by
  unfold sameB
  rw [oneT_right, oneT_right, Bool.true_and, Bool.true_and]
  exact decide_eq_decide.2 oneT_inj
end Go.Proofs.YtnmnfhicgopdnaaGreat

/-
  Transactions that wait: a pool, what is put into it.
-/
set_option linter.unusedSimpArgs false
set_option linter.unusedVariables false
set_option maxRecDepth 100000
set_option maxHeartbeats 2000000
namespace Go.Proofs.YtnmnfhicgopdnaaGreat
open Go Go.AL Go.Proofs.YtnmnfhicgopdnaaGreat.T
structure Wt_ where
  tx : Tx_
  since : Int
def waitA (w : Wt_) : AV := .agg 41 [txA w.tx, n64 w.since]
def waitsA (l : List Wt_) : List AV := l.map waitA
theorem waits_len (l : List Wt_) : (waitsA l).length = l.length := by simp [waitsA]
theorem waits_get {l : List Wt_} {i : Nat} (h : i < l.length) : (waitsA l).getD i .undef = waitA l[i] := by simp [waitsA, List.getD_eq_getElem?_getD, List.getElem?_map, List.getElem?_eq_getElem h]
theorem waits_snoc (l : List Wt_) (w : Wt_) : waitsA l ++ [waitA w] = waitsA (l ++ [w]) := by simp [waitsA]
theorem nb_waits {m : Nat} (l : List Wt_) : AV.nbs m (waitsA l) = True := by
  simp only [eq_iff_iff, iff_true]
  exact nbs_map (fun w => by simp [waitA, AV.nb, AV.nbs, nb_tx]) l
def poolA (l : List Wt_) (late : Int) (t : Nat) : AV := .agg 2 [.sl 41 (waitsA l) t, n64 late]
/-- a pool's heap: what lies behind its list at N, its object at N + 7 -/
abbrev poolH (l : List Wt_) (late : Int) (N : Nat) : Heap := [(N + 7, some (.obj (poolA l late (N + 2)))), (N, some (.tail l.length))]
theorem pkN {N nx : Nat} (h : N + 7 < nx) : (∀ k, (N = nx + k) = False) ∧ (∀ k, (nx + k = N) = False) ∧ (∀ k, (N + 7 = nx + k) = False) ∧ (∀ k, (nx + k = N + 7) = False) ∧ (N = nx) = False ∧ (nx = N) = False ∧ (N + 7 = nx) = False ∧ (nx = N + 7) = False := by
  refine ⟨fun k => ?_, fun k => ?_, fun k => ?_, fun k => ?_, ?_, ?_, ?_, ?_⟩ <;> (simp only [eq_iff_iff, iff_false]; omega)
attribute [local go_sem] nb_u8s u8s_length nb_sum sumA List.length_replicate zero_sum sum_h u8s_nil waits_len nb_waits
theorem newp_spec (nx : Nat) (late : Int) : FnSpec Tryz.prog 10 nx [n64 late] [] (.ref (nx + 40) 0 []) (poolH [] (min (max late 1) 65536) (nx + 33)) 60 := by
  refine FnSpec.of_code (cx := cx) (an := {mt := [7], tk := [(6, [([0], 41)])]}) (rs := [.tmp 2]) mo Tryz.func10 rfl rfl (by kernel_rfl) (by kernel_rfl) (by show 1 ≤ _; decide) (.inl rfl) (by simp [allWr, keys, Res.wr]) ?_
  repeat' (first | omega | assumption | (show AL.ahead _ _ _ = true; rfl) | refine brF (fun _ => ?_) (fun _ => ?_) | refine brT (fun _ => ?_) (fun _ => ?_) | refine brVF (fun _ => ?_) (fun _ => ?_) | refine brVT (fun _ => ?_) (fun _ => ?_) | (with_reducible refine And.intro ?_ ?_) | (simp -dsimp -implicitDefEqProofs only [go_sem, ↓reduceIte, Nat.reduceEqDiff, Nat.reduceAdd, Nat.reduceMul, Nat.reduceLeDiff, Nat.reduceLT, Nat.reduceBEq, Nat.reducePow, Int.reduceToNat, Int.reduceLE, Int.reduceLT, Int.reduceNeg, reduceCtorEq, Int.reduceEq, Int.reduceAdd, Int.reduceSub, Int.reduceMul, Nat.reduceSub, poolA]))
  all_goals first | rfl | trace_state
theorem late_spec (nx N : Nat) (l : List Wt_) (late : Int) (hN : N + 7 < nx) : FnSpec Tryz.prog 6 nx [.ref (N + 7) 0 []] [(N + 7, some (.robj (poolA l late (N + 2))))] (n64 late) [] 0 := by
  have hx := pkN hN
  refine FnSpec.of_code (cx := cx) (an := {}) (rs := [.tmp 2]) mo Tryz.func6 rfl rfl (by kernel_rfl) (by kernel_rfl) (by show 1 ≤ _; decide) (.inl rfl) (by simp [allWr, keys, Res.wr]) ?_
  repeat' (first | omega | assumption | (show AL.ahead _ _ _ = true; rfl) | refine brF (fun _ => ?_) (fun _ => ?_) | refine brT (fun _ => ?_) (fun _ => ?_) | refine brVF (fun _ => ?_) (fun _ => ?_) | refine brVT (fun _ => ?_) (fun _ => ?_) | (with_reducible refine And.intro ?_ ?_) | (simp -dsimp -implicitDefEqProofs only [go_sem, ↓reduceIte, Nat.reduceEqDiff, Nat.reduceAdd, Nat.reduceMul, Nat.reduceLeDiff, Nat.reduceLT, Nat.reduceBEq, Nat.reducePow, Int.reduceToNat, Int.reduceLE, Int.reduceLT, Int.reduceNeg, reduceCtorEq, Int.reduceEq, Int.reduceAdd, Int.reduceSub, Int.reduceMul, Nat.reduceSub, poolA, hx]))
  all_goals trace_state
theorem late_nil (nx : Nat) : FnSpec Tryz.prog 6 nx [nilP] [] (n64 0) [] 0 := by
  refine FnSpec.of_code (cx := cx) (an := {}) (rs := [.tmp 2]) mo Tryz.func6 rfl rfl (by kernel_rfl) (by kernel_rfl) (by show 1 ≤ _; decide) (.inl rfl) (by simp [allWr, keys, Res.wr]) ?_
  repeat' (first | omega | assumption | (show AL.ahead _ _ _ = true; rfl) | refine brF (fun _ => ?_) (fun _ => ?_) | refine brT (fun _ => ?_) (fun _ => ?_) | refine brVF (fun _ => ?_) (fun _ => ?_) | refine brVT (fun _ => ?_) (fun _ => ?_) | (with_reducible refine And.intro ?_ ?_) | (simp -dsimp -implicitDefEqProofs only [go_sem, ↓reduceIte, Nat.reduceEqDiff, Nat.reduceAdd, Nat.reduceMul, Nat.reduceLeDiff, Nat.reduceLT, Nat.reduceBEq, Nat.reducePow, Int.reduceToNat, Int.reduceLE, Int.reduceLT, Int.reduceNeg, reduceCtorEq, Int.reduceEq, Int.reduceAdd, Int.reduceSub, Int.reduceMul, Nat.reduceSub]))
theorem all_nil (nx : Nat) : FnSpec Tryz.prog 7 nx [nilP] [] (.sl 0 [] 1) [] 0 := by
  refine FnSpec.of_code (cx := cx) (an := {}) (rs := [.tmp 2]) mo Tryz.func7 rfl rfl (by kernel_rfl) (by kernel_rfl) (by show 1 ≤ _; decide) (.inl rfl) (by simp [allWr, keys, Res.wr]) ?_
  repeat' (first | omega | assumption | (show AL.ahead _ _ _ = true; rfl) | refine brF (fun _ => ?_) (fun _ => ?_) | refine brT (fun _ => ?_) (fun _ => ?_) | refine brVF (fun _ => ?_) (fun _ => ?_) | refine brVT (fun _ => ?_) (fun _ => ?_) | (with_reducible refine And.intro ?_ ?_) | (simp -dsimp -implicitDefEqProofs only [go_sem, ↓reduceIte, Nat.reduceEqDiff, Nat.reduceAdd, Nat.reduceMul, Nat.reduceLeDiff, Nat.reduceLT, Nat.reduceBEq, Nat.reducePow, Int.reduceToNat, Int.reduceLE, Int.reduceLT, Int.reduceNeg, reduceCtorEq, Int.reduceEq, Int.reduceAdd, Int.reduceSub, Int.reduceMul, Nat.reduceSub]))
theorem mine_nil (nx : Nat) (c h : AV) (hc : c = nilP) (hh : h = .sl 0 [] 1) : FnSpec Tryz.prog 4 nx [nilP, c, h] [] (.tup [.sl 0 [] 1, n64 1]) [] 0 := by
  subst hc hh
  refine FnSpec.of_code (cx := cx) (an := {}) (rs := [.tmp 6, .tmp 7]) mo Tryz.func4 rfl rfl (by kernel_rfl) (by kernel_rfl) (by show 3 ≤ _; decide) (.inr ⟨_, rfl, by simp [AV.good]⟩) (by simp [allWr, keys, Res.wr]) ?_
  repeat' (first | omega | assumption | (show AL.ahead _ _ _ = true; rfl) | refine brF (fun _ => ?_) (fun _ => ?_) | refine brT (fun _ => ?_) (fun _ => ?_) | refine brVF (fun _ => ?_) (fun _ => ?_) | refine brVT (fun _ => ?_) (fun _ => ?_) | (with_reducible refine And.intro ?_ ?_) | (simp -dsimp -implicitDefEqProofs only [go_sem, ↓reduceIte, Nat.reduceEqDiff, Nat.reduceAdd, Nat.reduceMul, Nat.reduceLeDiff, Nat.reduceLT, Nat.reduceBEq, Nat.reducePow, Int.reduceToNat, Int.reduceLE, Int.reduceLT, Int.reduceNeg, reduceCtorEq, Int.reduceEq, Int.reduceAdd, Int.reduceSub, Int.reduceMul, Nat.reduceSub]))
  all_goals trace_state
theorem put_nil (nx h : Nat) (t : Tx_) : FnSpec Tryz.prog 5 nx [nilP, txA t, n64 h] [] (n64 1) [] 0 := by
  refine FnSpec.of_code (cx := cx) (an := {}) (rs := [.tmp 6]) mo Tryz.func5 rfl rfl (by kernel_rfl) (by kernel_rfl) (by show 3 ≤ _; decide) (.inl rfl) (by simp [allWr, keys, Res.wr]) ?_
  repeat' (first | omega | assumption | (show AL.ahead _ _ _ = true; rfl) | refine brF (fun _ => ?_) (fun _ => ?_) | refine brT (fun _ => ?_) (fun _ => ?_) | refine brVF (fun _ => ?_) (fun _ => ?_) | refine brVT (fun _ => ?_) (fun _ => ?_) | (with_reducible refine And.intro ?_ ?_) | (simp -dsimp -implicitDefEqProofs only [go_sem, ↓reduceIte, Nat.reduceEqDiff, Nat.reduceAdd, Nat.reduceMul, Nat.reduceLeDiff, Nat.reduceLT, Nat.reduceBEq, Nat.reducePow, Int.reduceToNat, Int.reduceLE, Int.reduceLT, Int.reduceNeg, reduceCtorEq, Int.reduceEq, Int.reduceAdd, Int.reduceSub, Int.reduceMul, Nat.reduceSub, txA_good, txA_csz, txA_agg, nb_tx]))
  all_goals trace_state
theorem block_nil (nx : Nat) : FnSpec Tryz.prog 8 nx [nilP, n64 1, .sl 0 [] 1] [] (.sl 0 [] 1) [] 0 := by
  refine FnSpec.of_code (cx := cx) (an := {}) (rs := [.tmp 6]) mo Tryz.func8 rfl rfl (by kernel_rfl) (by kernel_rfl) (by show 3 ≤ _; decide) (.inl rfl) (by simp [allWr, keys, Res.wr]) ?_
  repeat' (first | omega | assumption | (show AL.ahead _ _ _ = true; rfl) | refine brF (fun _ => ?_) (fun _ => ?_) | refine brT (fun _ => ?_) (fun _ => ?_) | refine brVF (fun _ => ?_) (fun _ => ?_) | refine brVT (fun _ => ?_) (fun _ => ?_) | (with_reducible refine And.intro ?_ ?_) | (refine callK_by (all_nil _) ?_) | (simp -dsimp -implicitDefEqProofs only [go_sem, ↓reduceIte, Nat.reduceEqDiff, Nat.reduceAdd, Nat.reduceMul, Nat.reduceLeDiff, Nat.reduceLT, Nat.reduceBEq, Nat.reducePow, Int.reduceToNat, Int.reduceLE, Int.reduceLT, Int.reduceNeg, reduceCtorEq, Int.reduceEq, Int.reduceAdd, Int.reduceSub, Int.reduceMul, Nat.reduceSub]))
  apply loop_keep [0, 1, 2, 11, 12] (fun _ : Unit => [(7, .sl 0 [] 1), (13, n64 0)]) (fun _ => []) (fun _ => 0) ()
  · simp -dsimp -implicitDefEqProofs only [go_sem, ↓reduceIte, Nat.reduceEqDiff, Nat.reduceAdd, Nat.reduceMul, Nat.reduceLeDiff, Nat.reduceLT, Nat.reduceBEq, Nat.reducePow, Int.reduceToNat, Int.reduceLE, Int.reduceLT, Int.reduceNeg, reduceCtorEq, Int.reduceEq, Int.reduceAdd, Int.reduceSub, Int.reduceMul, Nat.reduceSub]; try rfl
  · simp -dsimp -implicitDefEqProofs only [go_sem, ↓reduceIte, Nat.reduceEqDiff, Nat.reduceAdd, Nat.reduceMul, Nat.reduceLeDiff, Nat.reduceLT, Nat.reduceBEq, Nat.reducePow, Int.reduceToNat, Int.reduceLE, Int.reduceLT, Int.reduceNeg, reduceCtorEq, Int.reduceEq, Int.reduceAdd, Int.reduceSub, Int.reduceMul, Nat.reduceSub]; try rfl
  · simp -dsimp -implicitDefEqProofs only [go_sem, ↓reduceIte, Nat.reduceEqDiff, Nat.reduceAdd, Nat.reduceMul, Nat.reduceLeDiff, Nat.reduceLT, Nat.reduceBEq, Nat.reducePow, Int.reduceToNat, Int.reduceLE, Int.reduceLT, Int.reduceNeg, reduceCtorEq, Int.reduceEq, Int.reduceAdd, Int.reduceSub, Int.reduceMul, Nat.reduceSub]; try rfl
  · intro s
    simp -dsimp -implicitDefEqProofs only [go_sem, ↓reduceIte, Nat.reduceEqDiff, Nat.reduceAdd, Nat.reduceMul, Nat.reduceLeDiff, Nat.reduceLT, Nat.reduceBEq, Nat.reducePow, Int.reduceToNat, Int.reduceLE, Int.reduceLT, Int.reduceNeg, reduceCtorEq, Int.reduceEq, Int.reduceAdd, Int.reduceSub, Int.reduceMul, Nat.reduceSub]
    try omega
  · rintro ⟨⟩
    repeat' (first | omega | assumption | (show AL.ahead _ _ _ = true; rfl) | refine brF (fun _ => ?_) (fun _ => ?_) | refine brT (fun _ => ?_) (fun _ => ?_) | refine brVF (fun _ => ?_) (fun _ => ?_) | refine brVT (fun _ => ?_) (fun _ => ?_) | (with_reducible refine And.intro ?_ ?_) | (simp -dsimp -implicitDefEqProofs only [go_sem, ↓reduceIte, Nat.reduceEqDiff, Nat.reduceAdd, Nat.reduceMul, Nat.reduceLeDiff, Nat.reduceLT, Nat.reduceBEq, Nat.reducePow, Int.reduceToNat, Int.reduceLE, Int.reduceLT, Int.reduceNeg, reduceCtorEq, Int.reduceEq, Int.reduceAdd, Int.reduceSub, Int.reduceMul, Nat.reduceSub]))
    all_goals trace_state
theorem cloneW_nil (nx t : Nat) : FnSpec Tryz.prog 21 nx [.sl 41 [] t] [] (.sl 41 [] 0) [] 0 := by
  refine FnSpec.empty fun b n => ?_
  cases b with
  | none =>
    have h : FnSpec Tryz.prog 21 nx [.val (.slice none 0 n)] [] (.sl 0 [] 1) [] 0 := by
      refine FnSpec.of_code (cx := cx) (an := {}) (rs := [.tmp 2]) mo Tryz.func21 rfl rfl (by kernel_rfl) (by kernel_rfl) (by show 1 ≤ _; decide) (.inl rfl) (by simp [allWr, keys, Res.wr]) ?_
      repeat' (first | omega | assumption | (show AL.ahead _ _ _ = true; rfl) | refine brF (fun _ => ?_) (fun _ => ?_) | refine brT (fun _ => ?_) (fun _ => ?_) | refine brVF (fun _ => ?_) (fun _ => ?_) | refine brVT (fun _ => ?_) (fun _ => ?_) | (with_reducible refine And.intro ?_ ?_) | (simp -dsimp -implicitDefEqProofs only [go_sem, ↓reduceIte, Nat.reduceEqDiff, Nat.reduceAdd, Nat.reduceMul, Nat.reduceLeDiff, Nat.reduceLT, Nat.reduceBEq, Nat.reducePow, Int.reduceToNat, Int.reduceLE, Int.reduceLT, Int.reduceNeg, reduceCtorEq, Int.reduceEq, Int.reduceAdd, Int.reduceSub, Int.reduceMul, Nat.reduceSub, Option.isNone_none]))
    exact h.forget0 ⟨rfl, .inr ⟨.inr rfl, .inl rfl⟩⟩ (by simp [AV.nb, AV.nbs]) (by simp [keys])
  | some a =>
    have h : FnSpec Tryz.prog 21 nx [.val (.slice (some a) 0 n)] [] (.sl 41 [] (nx + 42)) [(nx + 40, some (.tail 0))] 60 := by
      refine FnSpec.of_code (cx := cx) (an := {}) (rs := [.tmp 2]) mo Tryz.func21 rfl rfl (by kernel_rfl) (by kernel_rfl) (by show 1 ≤ _; decide) (.inl rfl) (by simp [allWr, keys, Res.wr]) ?_
      repeat' (first | omega | assumption | (show AL.ahead _ _ _ = true; rfl) | refine brF (fun _ => ?_) (fun _ => ?_) | refine brT (fun _ => ?_) (fun _ => ?_) | refine brVF (fun _ => ?_) (fun _ => ?_) | refine brVT (fun _ => ?_) (fun _ => ?_) | (with_reducible refine And.intro ?_ ?_) | (simp -dsimp -implicitDefEqProofs only [go_sem, ↓reduceIte, Nat.reduceEqDiff, Nat.reduceAdd, Nat.reduceMul, Nat.reduceLeDiff, Nat.reduceLT, Nat.reduceBEq, Nat.reducePow, Int.reduceToNat, Int.reduceLE, Int.reduceLT, Int.reduceNeg, reduceCtorEq, Int.reduceEq, Int.reduceAdd, Int.reduceSub, Int.reduceMul, Nat.reduceSub, Option.isNone_some]))
    exact h.forget0 ⟨rfl, .inr ⟨.inl rfl, .inl rfl⟩⟩ (by simp [AV.nb, AV.nbs]) (by simp [keys])
theorem cloneW_spec (nx t : Nat) (l : List Wt_) (hl : l.length ≤ 1000) (ht : t < 2 ∨ t - 2 < nx) : FnSpec Tryz.prog 21 nx [.sl 41 (waitsA l) t] [] (.sl 41 (waitsA l) 0) [] 0 := by
  cases l with
  | nil => exact cloneW_nil nx t
  | cons a l =>
    have e : waitsA (a :: l) = waitA a :: waitsA l := rfl
    simp only [List.length_cons] at hl
    have h : FnSpec Tryz.prog 21 nx [.sl 41 (waitsA (a :: l)) t] [] (.sl 41 (waitsA (a :: l)) (nx + 42)) [(nx + 40, some (.tail (waitsA (a :: l)).length))] 60 := by
      rw [e]
      refine FnSpec.of_code (cx := cx) (an := {}) (rs := [.tmp 2]) mo Tryz.func21 rfl rfl (by kernel_rfl) (by kernel_rfl) (by show 1 ≤ _; decide) (.inl rfl) (by simp [allWr, keys, Res.wr]) ?_
      repeat' (first | omega | assumption | (show AL.ahead _ _ _ = true; rfl) | refine brF (fun _ => ?_) (fun _ => ?_) | refine brT (fun _ => ?_) (fun _ => ?_) | refine brVF (fun _ => ?_) (fun _ => ?_) | refine brVT (fun _ => ?_) (fun _ => ?_) | (with_reducible refine And.intro ?_ ?_) | (simp -dsimp -implicitDefEqProofs only [go_sem, ↓reduceIte, Nat.reduceEqDiff, Nat.reduceAdd, Nat.reduceMul, Nat.reduceLeDiff, Nat.reduceLT, Nat.reduceBEq, Nat.reducePow, Int.reduceToNat, Int.reduceLE, Int.reduceLT, Int.reduceNeg, reduceCtorEq, Int.reduceEq, Int.reduceAdd, Int.reduceSub, Int.reduceMul, Nat.reduceSub, waitA, nb_tx]))
      all_goals trace_state
    exact h.forget0 ⟨rfl, .inr ⟨.inl rfl, .inl rfl⟩⟩ (by simp [AV.nb, nb_waits]) (by simp [keys])
theorem all_spec (nx N : Nat) (l : List Wt_) (late : Int) (hN : N + 7 < nx) (hl : l.length ≤ 1000) : FnSpec Tryz.prog 7 nx [.ref (N + 7) 0 []] [(N + 7, some (.robj (poolA l late (N + 2))))] (.sl 41 (waitsA l) 0) [] 0 := by
  have hx := pkN hN
  have hc := fun nc (h : nx ≤ nc) => cloneW_spec nc (N + 2) l hl (by omega)
  refine FnSpec.of_code (cx := cx) (an := {}) (rs := [.tmp 2]) mo Tryz.func7 rfl rfl (by kernel_rfl) (by kernel_rfl) (by show 1 ≤ _; decide) (.inl rfl) (by simp [allWr, keys, Res.wr]) ?_
  repeat' (first | omega | assumption | (show AL.ahead _ _ _ = true; rfl) | refine brF (fun _ => ?_) (fun _ => ?_) | refine brT (fun _ => ?_) (fun _ => ?_) | refine brVF (fun _ => ?_) (fun _ => ?_) | refine brVT (fun _ => ?_) (fun _ => ?_) | (with_reducible refine And.intro ?_ ?_) | (refine callK_by (hc _ (by omega)) ?_) | (simp -dsimp -implicitDefEqProofs only [go_sem, ↓reduceIte, Nat.reduceEqDiff, Nat.reduceAdd, Nat.reduceMul, Nat.reduceLeDiff, Nat.reduceLT, Nat.reduceBEq, Nat.reducePow, Int.reduceToNat, Int.reduceLE, Int.reduceLT, Int.reduceNeg, reduceCtorEq, Int.reduceEq, Int.reduceAdd, Int.reduceSub, Int.reduceMul, Nat.reduceSub, poolA, hx]))
  all_goals trace_state
/-- the first place at which something holds; -1: nowhere -/
theorem put1_spec (nx : Nat) (t : Tx_) (w : Wt_) (hw : txZ2 w.tx) (ht : txZ2 t) : FnSpec Tryz.prog 19 nx [waitA w, .cref (txA t)] [] (bA (sameB w.tx t)) [] 0 := by
  have hs := fun nc => sameG_spec nc w.tx t hw ht
  refine FnSpec.of_code (cx := cx) (an := {}) (rs := [.tmp 3]) mo Tryz.func19 rfl rfl (by kernel_rfl) (by kernel_rfl) (by show 2 ≤ _; decide) (.inl rfl) (by simp [allWr, keys, Res.wr]) ?_
  repeat' (first | omega | assumption | (show AL.ahead _ _ _ = true; rfl) | refine brF (fun _ => ?_) (fun _ => ?_) | refine brT (fun _ => ?_) (fun _ => ?_) | refine brVF (fun _ => ?_) (fun _ => ?_) | refine brVT (fun _ => ?_) (fun _ => ?_) | (with_reducible refine And.intro ?_ ?_) | (refine callK_by (hs _) ?_) | (simp -dsimp -implicitDefEqProofs only [go_sem, ↓reduceIte, Nat.reduceEqDiff, Nat.reduceAdd, Nat.reduceMul, Nat.reduceLeDiff, Nat.reduceLT, Nat.reduceBEq, Nat.reducePow, Int.reduceToNat, Int.reduceLE, Int.reduceLT, Int.reduceNeg, reduceCtorEq, Int.reduceEq, Int.reduceAdd, Int.reduceSub, Int.reduceMul, Nat.reduceSub, waitA, txA_good, txA_csz, txA_agg, nb_tx]))
  all_goals trace_state
noncomputable abbrev sameW (t : Tx_) (w : Wt_) : Bool := sameB w.tx t
theorem idxWt_spec (nx tok : Nat) (t : Tx_) (l : List Wt_) (ht : txZ2 t) (hall : ∀ w ∈ l, txZ2 w.tx) (hl : l.length ≤ 1000) (hk : tok < 2 ∨ tok - 2 < nx) : FnSpec Tryz.prog 30 nx [.sl 41 (waitsA l) tok, .clos 19 [.cref (txA t)]] [] (n64 (idxB (sameW t) l)) [] 0 := by
  refine FnSpec.of_code (cx := cx) (an := {}) (rs := [.tmp 4]) mo Tryz.func30 rfl rfl (by kernel_rfl) (by kernel_rfl) (by show 2 ≤ _; decide) (.inl rfl) (by simp [allWr, keys, Res.wr]) ?_
  repeat' (first | omega | assumption | (show AL.ahead _ _ _ = true; rfl) | refine brF (fun _ => ?_) (fun _ => ?_) | refine brT (fun _ => ?_) (fun _ => ?_) | refine brVF (fun _ => ?_) (fun _ => ?_) | refine brVT (fun _ => ?_) (fun _ => ?_) | (with_reducible refine And.intro ?_ ?_) | (simp -dsimp -implicitDefEqProofs only [go_sem, ↓reduceIte, Nat.reduceEqDiff, Nat.reduceAdd, Nat.reduceMul, Nat.reduceLeDiff, Nat.reduceLT, Nat.reduceBEq, Nat.reducePow, Int.reduceToNat, Int.reduceLE, Int.reduceLT, Int.reduceNeg, reduceCtorEq, Int.reduceEq, Int.reduceAdd, Int.reduceSub, Int.reduceMul, Nat.reduceSub]))
  apply loop_keep [0, 1, 7] (fun i : { i : Nat // i ≤ l.length ∧ ∀ j (hj : j < l.length), j < i → sameW t l[j] = false } => [(8, n64 i.1)]) (fun _ => []) (fun i => l.length - i.1) ⟨0, Nat.zero_le _, fun j _ hj => absurd hj (Nat.not_lt_zero _)⟩
  · simp -dsimp -implicitDefEqProofs only [go_sem, ↓reduceIte, Nat.reduceEqDiff, Nat.reduceAdd, Nat.reduceMul, Nat.reduceLeDiff, Nat.reduceLT, Nat.reduceBEq, Nat.reducePow, Int.reduceToNat, Int.reduceLE, Int.reduceLT, Int.reduceNeg, reduceCtorEq, Int.reduceEq, Int.reduceAdd, Int.reduceSub, Int.reduceMul, Nat.reduceSub]; try rfl
  · simp -dsimp -implicitDefEqProofs only [go_sem, ↓reduceIte, Nat.reduceEqDiff, Nat.reduceAdd, Nat.reduceMul, Nat.reduceLeDiff, Nat.reduceLT, Nat.reduceBEq, Nat.reducePow, Int.reduceToNat, Int.reduceLE, Int.reduceLT, Int.reduceNeg, reduceCtorEq, Int.reduceEq, Int.reduceAdd, Int.reduceSub, Int.reduceMul, Nat.reduceSub]; try rfl
  · simp -dsimp -implicitDefEqProofs only [go_sem, ↓reduceIte, Nat.reduceEqDiff, Nat.reduceAdd, Nat.reduceMul, Nat.reduceLeDiff, Nat.reduceLT, Nat.reduceBEq, Nat.reducePow, Int.reduceToNat, Int.reduceLE, Int.reduceLT, Int.reduceNeg, reduceCtorEq, Int.reduceEq, Int.reduceAdd, Int.reduceSub, Int.reduceMul, Nat.reduceSub]; try rfl
  · intro s
    simp -dsimp -implicitDefEqProofs only [go_sem, ↓reduceIte, Nat.reduceEqDiff, Nat.reduceAdd, Nat.reduceMul, Nat.reduceLeDiff, Nat.reduceLT, Nat.reduceBEq, Nat.reducePow, Int.reduceToNat, Int.reduceLE, Int.reduceLT, Int.reduceNeg, reduceCtorEq, Int.reduceEq, Int.reduceAdd, Int.reduceSub, Int.reduceMul, Nat.reduceSub, nb_tx]
    try omega
  · rintro ⟨i, hi, hno⟩
    have hi : i ≤ l.length := hi
    simp -dsimp -implicitDefEqProofs only [go_sem, ↓reduceIte, Nat.reduceEqDiff, Nat.reduceAdd, Nat.reduceMul, Nat.reduceLeDiff, Nat.reduceLT, Nat.reduceBEq, Nat.reducePow, Int.reduceToNat, Int.reduceLE, Int.reduceLT, Int.reduceNeg, reduceCtorEq, Int.reduceEq, Int.reduceAdd, Int.reduceSub, Int.reduceMul, Nat.reduceSub]
    refine brT (fun hc => ?_) (fun hc => ?_)
    · have hi2 : i < l.length := by omega
      have q1 := waits_get hi2
      have w1 : IntKind.i64.wrap ((i : Int) + 1) = ((i + 1 : Nat) : Int) := wrapE (by omega) (by omega)
      have hr := fun nc => put1_spec nc t l[i] (hall _ (List.getElem_mem _)) ht
      simp only [waitA] at hr q1
      repeat' (first | omega | assumption | (show AL.ahead _ _ _ = true; rfl) | refine brF (fun _ => ?_) (fun _ => ?_) | refine brT (fun _ => ?_) (fun _ => ?_) | refine brVF (fun _ => ?_) (fun _ => ?_) | refine brVT (fun _ => ?_) (fun _ => ?_) | (with_reducible refine And.intro ?_ ?_) | (refine callK_by (hr _) ?_) | (simp -dsimp -implicitDefEqProofs only [go_sem, ↓reduceIte, Nat.reduceEqDiff, Nat.reduceAdd, Nat.reduceMul, Nat.reduceLeDiff, Nat.reduceLT, Nat.reduceBEq, Nat.reducePow, Int.reduceToNat, Int.reduceLE, Int.reduceLT, Int.reduceNeg, reduceCtorEq, Int.reduceEq, Int.reduceAdd, Int.reduceSub, Int.reduceMul, Nat.reduceSub, q1, w1, nb_tx]))
      all_goals first
        | (rename_i hx
           have e : idxB (sameW t) l = i := idxB_hit hi2 hx (fun j h1 h2 => hno j h1 h2)
           rw [e])
        | (rename_i hx
           refine ⟨⟨i + 1, hi2, fun j hj1 hj2 => ?_⟩, by show l.length - (i + 1) < l.length - i; omega, rfl⟩
           by_cases hj3 : j < i
           · exact hno j hj1 hj3
           · have e : j = i := by omega
             subst e
             exact hx)
        | trace_state
    · have e : i = l.length := by omega
      subst e
      repeat' (first | omega | assumption | (show AL.ahead _ _ _ = true; rfl) | refine brF (fun _ => ?_) (fun _ => ?_) | refine brT (fun _ => ?_) (fun _ => ?_) | refine brVF (fun _ => ?_) (fun _ => ?_) | refine brVT (fun _ => ?_) (fun _ => ?_) | (with_reducible refine And.intro ?_ ?_) | (simp -dsimp -implicitDefEqProofs only [go_sem, ↓reduceIte, Nat.reduceEqDiff, Nat.reduceAdd, Nat.reduceMul, Nat.reduceLeDiff, Nat.reduceLT, Nat.reduceBEq, Nat.reducePow, Int.reduceToNat, Int.reduceLE, Int.reduceLT, Int.reduceNeg, reduceCtorEq, Int.reduceEq, Int.reduceAdd, Int.reduceSub, Int.reduceMul, Nat.reduceSub]))
      have e : idxB (sameW t) l = -1 := idxB_miss (fun j hj => hno j hj hj)
      rw [e]
theorem hasWt_spec (nx tok : Nat) (t : Tx_) (l : List Wt_) (ht : txZ2 t) (hall : ∀ w ∈ l, txZ2 w.tx) (hl : l.length ≤ 1000) (hk : tok < 2 ∨ tok - 2 < nx) : FnSpec Tryz.prog 18 nx [.sl 41 (waitsA l) tok, .clos 19 [.cref (txA t)]] [] (bA (l.any (sameW t))) [] 0 := by
  have hi := fun nc (h : nx ≤ nc) => idxWt_spec nc tok t l ht hall hl (by omega)
  refine FnSpec.of_code (cx := cx) (an := {}) (rs := [.tmp 4]) mo Tryz.func18 rfl rfl (by kernel_rfl) (by kernel_rfl) (by show 2 ≤ _; decide) (.inl rfl) (by simp [allWr, keys, Res.wr]) ?_
  repeat' (first | omega | assumption | (show AL.ahead _ _ _ = true; rfl) | refine brF (fun _ => ?_) (fun _ => ?_) | refine brT (fun _ => ?_) (fun _ => ?_) | refine brVF (fun _ => ?_) (fun _ => ?_) | refine brVT (fun _ => ?_) (fun _ => ?_) | (with_reducible refine And.intro ?_ ?_) | (refine callK_by (hi _ (by omega)) ?_) | (simp -dsimp -implicitDefEqProofs only [go_sem, ↓reduceIte, Nat.reduceEqDiff, Nat.reduceAdd, Nat.reduceMul, Nat.reduceLeDiff, Nat.reduceLT, Nat.reduceBEq, Nat.reducePow, Int.reduceToNat, Int.reduceLE, Int.reduceLT, Int.reduceNeg, reduceCtorEq, Int.reduceEq, Int.reduceAdd, Int.reduceSub, Int.reduceMul, Nat.reduceSub, nb_tx]))
  all_goals rw [idxB_any]
end Go.Proofs.YtnmnfhicgopdnaaGreat

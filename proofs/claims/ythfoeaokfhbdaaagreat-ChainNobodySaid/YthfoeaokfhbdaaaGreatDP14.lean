/-
  Outs to a key; transactions signed by one key.
-/
import Derived.Test.YthfoeaokfhbdaaaGreatDP12
import Derived.Test.YthfoeaokfhbdaaaGreatAL26
set_option linter.unusedSimpArgs false
set_option linter.unusedVariables false
set_option maxRecDepth 100000
set_option maxHeartbeats 1000000
namespace Go.Proofs.YthfoeaokfhbdaaaGreat
open Go Go.AL Go.Proofs.YthfoeaokfhbdaaaGreat.T
attribute [local go_sem] nb_u8s u8s_length nb_sum sumA List.length_replicate zero_sum sum_h nb_vals vals_len u8s_nil
theorem w1_64 : IntKind.i64.wrap 1 = 1 := by decide
theorem w20_64 : IntKind.i64.wrap 20 = 20 := by decide
theorem insOne_spec (nx t : Nat) (x : Sign_) (f : Nat) (ht : t < 2 ∨ t - 2 < nx) : FnSpec Tryz.prog 154 nx [.sl 33 [signA x] t, n64 0, n64 1, .clos f []] [] (.tup []) [] 0 := by
  refine FnSpec.of_code (cx := cx) (an := {}) (rs := []) mo Tryz.func154 rfl rfl (by kernel_rfl) (by kernel_rfl) (by show 4 ≤ _; decide) (.inr ⟨_, rfl, by simp [AV.good]⟩) (by simp [allWr, keys, Res.wr]) ?_
  repeat' (first | omega | assumption | (show AL.ahead _ _ _ = true; rfl) | refine brF (fun _ => ?_) (fun _ => ?_) | refine brT (fun _ => ?_) (fun _ => ?_) | refine brVF (fun _ => ?_) (fun _ => ?_) | refine brVT (fun _ => ?_) (fun _ => ?_) | (with_reducible refine And.intro ?_ ?_) | (simp -dsimp -implicitDefEqProofs only [go_sem, ↓reduceIte, Nat.reduceEqDiff, Nat.reduceAdd, Nat.reduceMul, Nat.reduceLeDiff, Nat.reduceLT, Nat.reduceBEq, Nat.reducePow, Int.reduceToNat, Int.reduceLE, Int.reduceLT, Int.reduceNeg, reduceCtorEq, Int.reduceEq, Int.reduceAdd, Int.reduceSub, Int.reduceMul, Nat.reduceSub, w1_64]))
  apply loop_keep [0, 1, 2, 3] (fun _ : Unit => [(8, n64 1)]) (fun _ => []) (fun _ => 0) ()
  · simp -dsimp -implicitDefEqProofs only [go_sem, ↓reduceIte, Nat.reduceEqDiff, Nat.reduceAdd, Nat.reduceMul, Nat.reduceLeDiff, Nat.reduceLT, Nat.reduceBEq, Nat.reducePow, Int.reduceToNat, Int.reduceLE, Int.reduceLT, Int.reduceNeg, reduceCtorEq, Int.reduceEq, Int.reduceAdd, Int.reduceSub, Int.reduceMul, Nat.reduceSub]; rfl
  · simp -dsimp -implicitDefEqProofs only [go_sem, ↓reduceIte, Nat.reduceEqDiff, Nat.reduceAdd, Nat.reduceMul, Nat.reduceLeDiff, Nat.reduceLT, Nat.reduceBEq, Nat.reducePow, Int.reduceToNat, Int.reduceLE, Int.reduceLT, Int.reduceNeg, reduceCtorEq, Int.reduceEq, Int.reduceAdd, Int.reduceSub, Int.reduceMul, Nat.reduceSub]; try rfl
  · simp -dsimp -implicitDefEqProofs only [go_sem, ↓reduceIte, Nat.reduceEqDiff, Nat.reduceAdd, Nat.reduceMul, Nat.reduceLeDiff, Nat.reduceLT, Nat.reduceBEq, Nat.reducePow, Int.reduceToNat, Int.reduceLE, Int.reduceLT, Int.reduceNeg, reduceCtorEq, Int.reduceEq, Int.reduceAdd, Int.reduceSub, Int.reduceMul, Nat.reduceSub]; try rfl
  · intro s
    simp -dsimp -implicitDefEqProofs only [go_sem, ↓reduceIte, Nat.reduceEqDiff, Nat.reduceAdd, Nat.reduceMul, Nat.reduceLeDiff, Nat.reduceLT, Nat.reduceBEq, Nat.reducePow, Int.reduceToNat, Int.reduceLE, Int.reduceLT, Int.reduceNeg, reduceCtorEq, Int.reduceEq, Int.reduceAdd, Int.reduceSub, Int.reduceMul, Nat.reduceSub, signA]
    try omega
  · rintro ⟨⟩
    repeat' (first | omega | assumption | (show AL.ahead _ _ _ = true; rfl) | refine brF (fun _ => ?_) (fun _ => ?_) | refine brT (fun _ => ?_) (fun _ => ?_) | refine brVF (fun _ => ?_) (fun _ => ?_) | refine brVT (fun _ => ?_) (fun _ => ?_) | (with_reducible refine And.intro ?_ ?_) | (simp -dsimp -implicitDefEqProofs only [go_sem, ↓reduceIte, Nat.reduceEqDiff, Nat.reduceAdd, Nat.reduceMul, Nat.reduceLeDiff, Nat.reduceLT, Nat.reduceBEq, Nat.reducePow, Int.reduceToNat, Int.reduceLE, Int.reduceLT, Int.reduceNeg, reduceCtorEq, Int.reduceEq, Int.reduceAdd, Int.reduceSub, Int.reduceMul, Nat.reduceSub, w1_64]))
theorem stableOne_spec (nx t : Nat) (x : Sign_) (f : Nat) (ht : t < 2 ∨ t - 2 < nx) : FnSpec Tryz.prog 101 nx [.sl 33 [signA x] t, n64 1, .clos f []] [] (.tup []) [] 0 := by
  refine FnSpec.of_code (cx := cx) (an := {}) (rs := []) mo Tryz.func101 rfl rfl (by kernel_rfl) (by kernel_rfl) (by show 3 ≤ _; decide) (.inr ⟨_, rfl, by simp [AV.good]⟩) (by simp [allWr, keys, Res.wr]) ?_
  repeat' (first | omega | assumption | (show AL.ahead _ _ _ = true; rfl) | refine brF (fun _ => ?_) (fun _ => ?_) | refine brT (fun _ => ?_) (fun _ => ?_) | refine brVF (fun _ => ?_) (fun _ => ?_) | refine brVT (fun _ => ?_) (fun _ => ?_) | (with_reducible refine And.intro ?_ ?_) | (simp -dsimp -implicitDefEqProofs only [go_sem, ↓reduceIte, Nat.reduceEqDiff, Nat.reduceAdd, Nat.reduceMul, Nat.reduceLeDiff, Nat.reduceLT, Nat.reduceBEq, Nat.reducePow, Int.reduceToNat, Int.reduceLE, Int.reduceLT, Int.reduceNeg, reduceCtorEq, Int.reduceEq, Int.reduceAdd, Int.reduceSub, Int.reduceMul, Nat.reduceSub, w1_64, w20_64]))
  apply loop_keep [0, 1, 2, 6] (fun _ : Unit => [(7, n64 0), (8, n64 20)]) (fun _ => []) (fun _ => 0) ()
  · simp -dsimp -implicitDefEqProofs only [go_sem, ↓reduceIte, Nat.reduceEqDiff, Nat.reduceAdd, Nat.reduceMul, Nat.reduceLeDiff, Nat.reduceLT, Nat.reduceBEq, Nat.reducePow, Int.reduceToNat, Int.reduceLE, Int.reduceLT, Int.reduceNeg, reduceCtorEq, Int.reduceEq, Int.reduceAdd, Int.reduceSub, Int.reduceMul, Nat.reduceSub]; rfl
  · simp -dsimp -implicitDefEqProofs only [go_sem, ↓reduceIte, Nat.reduceEqDiff, Nat.reduceAdd, Nat.reduceMul, Nat.reduceLeDiff, Nat.reduceLT, Nat.reduceBEq, Nat.reducePow, Int.reduceToNat, Int.reduceLE, Int.reduceLT, Int.reduceNeg, reduceCtorEq, Int.reduceEq, Int.reduceAdd, Int.reduceSub, Int.reduceMul, Nat.reduceSub]; try rfl
  · simp -dsimp -implicitDefEqProofs only [go_sem, ↓reduceIte, Nat.reduceEqDiff, Nat.reduceAdd, Nat.reduceMul, Nat.reduceLeDiff, Nat.reduceLT, Nat.reduceBEq, Nat.reducePow, Int.reduceToNat, Int.reduceLE, Int.reduceLT, Int.reduceNeg, reduceCtorEq, Int.reduceEq, Int.reduceAdd, Int.reduceSub, Int.reduceMul, Nat.reduceSub]; try rfl
  · intro s
    simp -dsimp -implicitDefEqProofs only [go_sem, ↓reduceIte, Nat.reduceEqDiff, Nat.reduceAdd, Nat.reduceMul, Nat.reduceLeDiff, Nat.reduceLT, Nat.reduceBEq, Nat.reducePow, Int.reduceToNat, Int.reduceLE, Int.reduceLT, Int.reduceNeg, reduceCtorEq, Int.reduceEq, Int.reduceAdd, Int.reduceSub, Int.reduceMul, Nat.reduceSub, signA]
    try omega
  · rintro ⟨⟩
    repeat' (first | omega | assumption | (show AL.ahead _ _ _ = true; rfl) | refine brF (fun _ => ?_) (fun _ => ?_) | refine brT (fun _ => ?_) (fun _ => ?_) | refine brVF (fun _ => ?_) (fun _ => ?_) | refine brVT (fun _ => ?_) (fun _ => ?_) | (with_reducible refine And.intro ?_ ?_) | (refine callK_by (insOne_spec _ t x f (by omega)) ?_) | (simp -dsimp -implicitDefEqProofs only [go_sem, ↓reduceIte, Nat.reduceEqDiff, Nat.reduceAdd, Nat.reduceMul, Nat.reduceLeDiff, Nat.reduceLT, Nat.reduceBEq, Nat.reducePow, Int.reduceToNat, Int.reduceLE, Int.reduceLT, Int.reduceNeg, reduceCtorEq, Int.reduceEq, Int.reduceAdd, Int.reduceSub, Int.reduceMul, Nat.reduceSub, w1_64]))
    apply loop_keep [0, 1, 2] (fun _ : Unit => [(6, n64 20)]) (fun _ => []) (fun _ => 0) ()
    · simp -dsimp -implicitDefEqProofs only [go_sem, ↓reduceIte, Nat.reduceEqDiff, Nat.reduceAdd, Nat.reduceMul, Nat.reduceLeDiff, Nat.reduceLT, Nat.reduceBEq, Nat.reducePow, Int.reduceToNat, Int.reduceLE, Int.reduceLT, Int.reduceNeg, reduceCtorEq, Int.reduceEq, Int.reduceAdd, Int.reduceSub, Int.reduceMul, Nat.reduceSub]; rfl
    · simp -dsimp -implicitDefEqProofs only [go_sem, ↓reduceIte, Nat.reduceEqDiff, Nat.reduceAdd, Nat.reduceMul, Nat.reduceLeDiff, Nat.reduceLT, Nat.reduceBEq, Nat.reducePow, Int.reduceToNat, Int.reduceLE, Int.reduceLT, Int.reduceNeg, reduceCtorEq, Int.reduceEq, Int.reduceAdd, Int.reduceSub, Int.reduceMul, Nat.reduceSub]; try rfl
    · simp -dsimp -implicitDefEqProofs only [go_sem, ↓reduceIte, Nat.reduceEqDiff, Nat.reduceAdd, Nat.reduceMul, Nat.reduceLeDiff, Nat.reduceLT, Nat.reduceBEq, Nat.reducePow, Int.reduceToNat, Int.reduceLE, Int.reduceLT, Int.reduceNeg, reduceCtorEq, Int.reduceEq, Int.reduceAdd, Int.reduceSub, Int.reduceMul, Nat.reduceSub]; try rfl
    · intro s
      simp -dsimp -implicitDefEqProofs only [go_sem, ↓reduceIte, Nat.reduceEqDiff, Nat.reduceAdd, Nat.reduceMul, Nat.reduceLeDiff, Nat.reduceLT, Nat.reduceBEq, Nat.reducePow, Int.reduceToNat, Int.reduceLE, Int.reduceLT, Int.reduceNeg, reduceCtorEq, Int.reduceEq, Int.reduceAdd, Int.reduceSub, Int.reduceMul, Nat.reduceSub, signA]
      try omega
    · rintro ⟨⟩
      repeat' (first | omega | assumption | (show AL.ahead _ _ _ = true; rfl) | refine brF (fun _ => ?_) (fun _ => ?_) | refine brT (fun _ => ?_) (fun _ => ?_) | refine brVF (fun _ => ?_) (fun _ => ?_) | refine brVT (fun _ => ?_) (fun _ => ?_) | (with_reducible refine And.intro ?_ ?_) | (simp -dsimp -implicitDefEqProofs only [go_sem, ↓reduceIte, Nat.reduceEqDiff, Nat.reduceAdd, Nat.reduceMul, Nat.reduceLeDiff, Nat.reduceLT, Nat.reduceBEq, Nat.reducePow, Int.reduceToNat, Int.reduceLE, Int.reduceLT, Int.reduceNeg, reduceCtorEq, Int.reduceEq, Int.reduceAdd, Int.reduceSub, Int.reduceMul, Nat.reduceSub, w1_64]))
      all_goals trace_state
theorem sortOne_spec (nx t : Nat) (x : Sign_) (f : Nat) (ht : t < 2 ∨ t - 2 < nx) : FnSpec Tryz.prog 52 nx [.sl 33 [signA x] t, .clos f []] [] (.tup []) [] 0 := by
  refine FnSpec.of_code (cx := cx) (an := {}) (rs := []) mo Tryz.func52 rfl rfl (by kernel_rfl) (by kernel_rfl) (by show 2 ≤ _; decide) (.inr ⟨_, rfl, by simp [AV.good]⟩) (by simp [allWr, keys, Res.wr]) ?_
  repeat' (first | omega | assumption | (show AL.ahead _ _ _ = true; rfl) | refine brF (fun _ => ?_) (fun _ => ?_) | refine brT (fun _ => ?_) (fun _ => ?_) | refine brVF (fun _ => ?_) (fun _ => ?_) | refine brVT (fun _ => ?_) (fun _ => ?_) | (with_reducible refine And.intro ?_ ?_) | (refine callK_by (stableOne_spec _ t x f (by omega)) ?_) | (simp -dsimp -implicitDefEqProofs only [go_sem, ↓reduceIte, Nat.reduceEqDiff, Nat.reduceAdd, Nat.reduceMul, Nat.reduceLeDiff, Nat.reduceLT, Nat.reduceBEq, Nat.reducePow, Int.reduceToNat, Int.reduceLE, Int.reduceLT, Int.reduceNeg, reduceCtorEq, Int.reduceEq, Int.reduceAdd, Int.reduceSub, Int.reduceMul, Nat.reduceSub]))
  all_goals trace_state
theorem indexEmpty_spec (nx t f : Nat) (cs : List AV) (hc : ∀ m, nx ≤ m → AV.nbs m cs) (ht : t < 2 ∨ t - 2 < nx) : FnSpec Tryz.prog 100 nx [.sl 33 [] t, .clos f cs] [] (n64 (-1)) [] 0 := by
  refine FnSpec.of_code (cx := cx) (an := {}) (rs := [.tmp 4]) mo Tryz.func100 rfl rfl (by kernel_rfl) (by kernel_rfl) (by show 2 ≤ _; decide) (.inl rfl) (by simp [allWr, keys, Res.wr]) ?_
  repeat' (first | omega | assumption | (show AL.ahead _ _ _ = true; rfl) | refine brF (fun _ => ?_) (fun _ => ?_) | refine brT (fun _ => ?_) (fun _ => ?_) | refine brVF (fun _ => ?_) (fun _ => ?_) | refine brVT (fun _ => ?_) (fun _ => ?_) | (with_reducible refine And.intro ?_ ?_) | (simp -dsimp -implicitDefEqProofs only [go_sem, ↓reduceIte, Nat.reduceEqDiff, Nat.reduceAdd, Nat.reduceMul, Nat.reduceLeDiff, Nat.reduceLT, Nat.reduceBEq, Nat.reducePow, Int.reduceToNat, Int.reduceLE, Int.reduceLT, Int.reduceNeg, reduceCtorEq, Int.reduceEq, Int.reduceAdd, Int.reduceSub, Int.reduceMul, Nat.reduceSub]))
  apply loop_keep [0, 1, 7] (fun _ : Unit => [(8, n64 0)]) (fun _ => []) (fun _ => 0) ()
  · simp -dsimp -implicitDefEqProofs only [go_sem, ↓reduceIte, Nat.reduceEqDiff, Nat.reduceAdd, Nat.reduceMul, Nat.reduceLeDiff, Nat.reduceLT, Nat.reduceBEq, Nat.reducePow, Int.reduceToNat, Int.reduceLE, Int.reduceLT, Int.reduceNeg, reduceCtorEq, Int.reduceEq, Int.reduceAdd, Int.reduceSub, Int.reduceMul, Nat.reduceSub]; rfl
  · simp -dsimp -implicitDefEqProofs only [go_sem, ↓reduceIte, Nat.reduceEqDiff, Nat.reduceAdd, Nat.reduceMul, Nat.reduceLeDiff, Nat.reduceLT, Nat.reduceBEq, Nat.reducePow, Int.reduceToNat, Int.reduceLE, Int.reduceLT, Int.reduceNeg, reduceCtorEq, Int.reduceEq, Int.reduceAdd, Int.reduceSub, Int.reduceMul, Nat.reduceSub]; try rfl
  · simp -dsimp -implicitDefEqProofs only [go_sem, ↓reduceIte, Nat.reduceEqDiff, Nat.reduceAdd, Nat.reduceMul, Nat.reduceLeDiff, Nat.reduceLT, Nat.reduceBEq, Nat.reducePow, Int.reduceToNat, Int.reduceLE, Int.reduceLT, Int.reduceNeg, reduceCtorEq, Int.reduceEq, Int.reduceAdd, Int.reduceSub, Int.reduceMul, Nat.reduceSub]; try rfl
  · intro s
    simp -dsimp -implicitDefEqProofs only [go_sem, ↓reduceIte, Nat.reduceEqDiff, Nat.reduceAdd, Nat.reduceMul, Nat.reduceLeDiff, Nat.reduceLT, Nat.reduceBEq, Nat.reducePow, Int.reduceToNat, Int.reduceLE, Int.reduceLT, Int.reduceNeg, reduceCtorEq, Int.reduceEq, Int.reduceAdd, Int.reduceSub, Int.reduceMul, Nat.reduceSub]
    exact ⟨by omega, hc _ (by omega)⟩
  · rintro ⟨⟩
    repeat' (first | omega | assumption | (show AL.ahead _ _ _ = true; rfl) | refine brF (fun _ => ?_) (fun _ => ?_) | refine brT (fun _ => ?_) (fun _ => ?_) | refine brVF (fun _ => ?_) (fun _ => ?_) | refine brVT (fun _ => ?_) (fun _ => ?_) | (with_reducible refine And.intro ?_ ?_) | (simp -dsimp -implicitDefEqProofs only [go_sem, ↓reduceIte, Nat.reduceEqDiff, Nat.reduceAdd, Nat.reduceMul, Nat.reduceLeDiff, Nat.reduceLT, Nat.reduceBEq, Nat.reducePow, Int.reduceToNat, Int.reduceLE, Int.reduceLT, Int.reduceNeg, reduceCtorEq, Int.reduceEq, Int.reduceAdd, Int.reduceSub, Int.reduceMul, Nat.reduceSub]))
    all_goals trace_state
theorem deleteEmpty_spec (nx t f : Nat) (cs : List AV) (hc : ∀ m, nx ≤ m → AV.nbs m cs) (ht : t < 2 ∨ t - 2 < nx) : FnSpec Tryz.prog 50 nx [.sl 33 [] t, .clos f cs] [] (.sl 33 [] t) [] 0 := by
  refine FnSpec.of_code (cx := cx) (an := {}) (rs := [.tmp 4]) mo Tryz.func50 rfl rfl (by kernel_rfl) (by kernel_rfl) (by show 2 ≤ _; decide) (.inl rfl) (by simp [allWr, keys, Res.wr]) ?_
  repeat' (first | omega | assumption | (show AL.ahead _ _ _ = true; rfl) | refine brF (fun _ => ?_) (fun _ => ?_) | refine brT (fun _ => ?_) (fun _ => ?_) | refine brVF (fun _ => ?_) (fun _ => ?_) | refine brVT (fun _ => ?_) (fun _ => ?_) | (with_reducible refine And.intro ?_ ?_) | (refine callK_by (indexEmpty_spec _ t f cs (fun m h => hc m (by omega)) (by omega)) ?_) | (simp -dsimp -implicitDefEqProofs only [go_sem, ↓reduceIte, Nat.reduceEqDiff, Nat.reduceAdd, Nat.reduceMul, Nat.reduceLeDiff, Nat.reduceLT, Nat.reduceBEq, Nat.reducePow, Int.reduceToNat, Int.reduceLE, Int.reduceLT, Int.reduceNeg, reduceCtorEq, Int.reduceEq, Int.reduceAdd, Int.reduceSub, Int.reduceMul, Nat.reduceSub]))
  all_goals trace_state
theorem cloneNil_spec (nx sz : Nat) : FnSpec Tryz.prog 49 nx [.sl sz [] 1] [] (.sl 33 [] (nx + 42)) [(nx + 40, some (.tail 0))] 60 := by
  refine FnSpec.empty1 fun b => ?_
  cases b with
  | none =>
    have h : FnSpec Tryz.prog 49 nx [.val (.slice none 0 0)] [] (.sl 0 [] 1) [] 0 := by
      refine FnSpec.of_code (cx := cx) (an := {}) (rs := [.tmp 2]) mo Tryz.func49 rfl rfl (by kernel_rfl) (by kernel_rfl) (by show 1 ≤ _; decide) (.inl rfl) (by simp [allWr, keys, Res.wr]) ?_
      repeat' (first | omega | assumption | (show AL.ahead _ _ _ = true; rfl) | refine brF (fun _ => ?_) (fun _ => ?_) | refine brT (fun _ => ?_) (fun _ => ?_) | refine brVF (fun _ => ?_) (fun _ => ?_) | refine brVT (fun _ => ?_) (fun _ => ?_) | (with_reducible refine And.intro ?_ ?_) | (simp -dsimp -implicitDefEqProofs only [go_sem, ↓reduceIte, Nat.reduceEqDiff, Nat.reduceAdd, Nat.reduceMul, Nat.reduceLeDiff, Nat.reduceLT, Nat.reduceBEq, Nat.reducePow, Int.reduceToNat, Int.reduceLE, Int.reduceLT, Int.reduceNeg, reduceCtorEq, Int.reduceEq, Int.reduceAdd, Int.reduceSub, Int.reduceMul, Nat.reduceSub, Option.isNone_none]))
    exact h.tail0 40 60 (by omega)
  | some a =>
      refine FnSpec.of_code (cx := cx) (an := {}) (rs := [.tmp 2]) mo Tryz.func49 rfl rfl (by kernel_rfl) (by kernel_rfl) (by show 1 ≤ _; decide) (.inl rfl) (by simp [allWr, keys, Res.wr]) ?_
      repeat' (first | omega | assumption | (show AL.ahead _ _ _ = true; rfl) | refine brF (fun _ => ?_) (fun _ => ?_) | refine brT (fun _ => ?_) (fun _ => ?_) | refine brVF (fun _ => ?_) (fun _ => ?_) | refine brVT (fun _ => ?_) (fun _ => ?_) | (with_reducible refine And.intro ?_ ?_) | (simp -dsimp -implicitDefEqProofs only [go_sem, ↓reduceIte, Nat.reduceEqDiff, Nat.reduceAdd, Nat.reduceMul, Nat.reduceLeDiff, Nat.reduceLT, Nat.reduceBEq, Nat.reducePow, Int.reduceToNat, Int.reduceLE, Int.reduceLT, Int.reduceNeg, reduceCtorEq, Int.reduceEq, Int.reduceAdd, Int.reduceSub, Int.reduceMul, Nat.reduceSub, Option.isNone_some]))
      all_goals trace_state
theorem to_spec (nx : Nat) (k a : Int) : FnSpec Tryz.prog 69 nx [n64 k, n64 a] [] (outA ⟨a, [⟨[k], zeroS, 0, 0⟩]⟩) [] 0 := by
  have h : FnSpec Tryz.prog 69 nx [n64 k, n64 a] [] (.agg 2 [n64 a, .sl 35 [.agg 35 [.sl 1 [n64 k] 1, sumA zeroS, n64 0, n64 0]] 1]) [] 0 := by
    refine FnSpec.of_code (cx := cx) (an := {}) (rs := [.cell 4 142]) mo Tryz.func69 rfl rfl (by kernel_rfl) (by kernel_rfl) (by show 2 ≤ _; decide) (.inl rfl) (by simp [allWr, keys, Res.wr]) ?_
    repeat' (first | omega | assumption | (show AL.ahead _ _ _ = true; rfl) | refine brF (fun _ => ?_) (fun _ => ?_) | refine brT (fun _ => ?_) (fun _ => ?_) | refine brVF (fun _ => ?_) (fun _ => ?_) | refine brVT (fun _ => ?_) (fun _ => ?_) | (with_reducible refine And.intro ?_ ?_) | (simp -dsimp -implicitDefEqProofs only [go_sem, ↓reduceIte, Nat.reduceEqDiff, Nat.reduceAdd, Nat.reduceMul, Nat.reduceLeDiff, Nat.reduceLT, Nat.reduceBEq, Nat.reducePow, Int.reduceToNat, Int.reduceLE, Int.reduceLT, Int.reduceNeg, reduceCtorEq, Int.reduceEq, Int.reduceAdd, Int.reduceSub, Int.reduceMul, Nat.reduceSub]))
    all_goals trace_state
  exact h.outle ⟨_, rfl, _, _, rfl, AV.le_refl _, _, _, rfl, ⟨_, _, rfl, ⟨_, _, rfl, ⟨_, rfl, _, _, rfl, ⟨_, _, rfl, AV.les_refl _, .inr (.inl rfl)⟩, AV.les_refl _⟩, rfl⟩, .inr (.inl rfl)⟩, rfl⟩
/-- A transaction, its signs told apart. -/
def txW (t : Tx_) (s : AV) : AV := .agg 40 [.sl 35 (insA t.ins) 0, .sl 2 (outsA t.outs) 0, opT t.op, s]
theorem txW_good (t : Tx_) (s : AV) : (txW t s).good = true := rfl
theorem txW_csz (t : Tx_) (s : AV) : (txW t s).csize = 40 := rfl
theorem txW_agg (t : Tx_) (s : AV) : (txW t s).isAgg = true := rfl
theorem nb_txW {m : Nat} (t : Tx_) (s : AV) : AV.nb m (txW t s) = AV.nb m s := by
  simp [txW, AV.nb, AV.nbs, nb_ins, nb_outs, nb_signs, opT, nb_sum, nb_u8s]
theorem txSumW_spec (nx tok : Nat) (t : Tx_) (hs : t.signs = []) (hb : (bodyL true t).length < 2 ^ 38) (hk : ∀ o ∈ t.outs, ∀ w ∈ o.ways, w.keys.length < 2 ^ 32) :
    FnSpec Tryz.prog 47 nx [txW t (.sl 33 [] tok)] [] (sumA (txS t)) [] 0 := by
  refine (txSum_spec nx t hb hk).le ⟨_, _, rfl, ⟨_, rfl, ?_⟩, rfl⟩
  rw [hs]
  exact ⟨_, _, rfl, AV.le_refl _, _, _, rfl, AV.le_refl _, _, _, rfl, AV.le_refl _, _, _, rfl, ⟨_, _, rfl, AV.les_refl _, .inr (.inl rfl)⟩, rfl⟩
theorem txW_p3 (t : Tx_) (s : AV) : (txW t s).parts.getD 3 .undef = s := rfl
theorem txW_len (t : Tx_) (s : AV) : (txW t s).parts.length = 4 := rfl
theorem txW_off (t : Tx_) (s : AV) : (txW t s).partOff 3 = 39 := rfl
theorem txW_set (t : Tx_) (s s' : AV) : (txW t s).setPart 3 s' = txW t s' := rfl
theorem nb_sign {m : Nat} (s : Sign_) : AV.nb m (signA s) = True := by simp [signA, AV.nb, AV.nbs, nb_sum]
def sg (x : Sign_) : Bool → List AV
  | false => []
  | true => [signA x]
def sn : Bool → Int
  | false => 0
  | true => 1
def sk : Bool → Nat
  | false => 0
  | true => 1
theorem sg_f (x : Sign_) : sg x false = [] := rfl
theorem sg_t (x : Sign_) : sg x true = [signA x] := rfl
theorem sn_f : sn false = 0 := rfl
theorem sn_t : sn true = 1 := rfl
theorem sk_f : sk false = 0 := rfl
theorem sk_t : sk true = 1 := rfl
/-- the zero transaction -/
def tx0 : AV := .agg 40 [.sl 35 [] 1, .sl 2 [] 1, .agg 37 [n64 0, n64 0, n64 0, n64 0, sumA zeroS, .sl 1 [] 1], .sl 33 [] 1]
theorem tx0_good : tx0.good = true := rfl
theorem tx0_csz : tx0.csize = 40 := rfl
theorem tx0_agg : tx0.isAgg = true := rfl
theorem nb_sg {m : Nat} (s : Sign_) (b : Bool) : AV.nbs m (sg s b) = True := by cases b <;> simp [sg, nb_sign, AV.nbs]
theorem signedT_spec (nx tok : Nat) (t : Tx_) (k : Int) (hs : t.signs = []) (hb : (bodyL true t).length < 2 ^ 38) (hk : ∀ o ∈ t.outs, ∀ w ∈ o.ways, w.keys.length < 2 ^ 32) (ht : tok < 2 ∨ tok - 2 < nx) :
    FnSpec Tryz.prog 8 nx [txW t (.sl 33 [] 1), .sl 1 [n64 k] tok] [] (txW t (.sl 33 [signA ⟨k, txS t⟩] (nx + 122))) [(nx + 120, some (.tail 1))] 300 := by
  have hdl := fun nc (h : nx + 188 < nc) => deleteEmpty_spec nc (nx + 122) 51 [.ref (nx + 188) 0 []] (fun m h => by simp only [AV.nbs, AV.nb, and_true]; omega) (by omega)
  have hso := fun nc (h : nx + 122 < nc) => sortOne_spec nc (nx + 122) ⟨k, txS t⟩ 53 (by omega)
  refine FnSpec.of_code (cx := cx) (an := {mt := [2]}) (rs := [.cell 4 41]) mo Tryz.func8 rfl rfl (by kernel_rfl) (by kernel_rfl) (by show 2 ≤ _; decide) (.inl rfl) (by simp [allWr, keys, Res.wr]) ?_
  repeat' (first | omega | assumption | (show AL.ahead _ _ _ = true; rfl) | refine brF (fun _ => ?_) (fun _ => ?_) | refine brT (fun _ => ?_) (fun _ => ?_) | refine brVF (fun _ => ?_) (fun _ => ?_) | refine brVT (fun _ => ?_) (fun _ => ?_) | (with_reducible refine And.intro ?_ ?_) | (refine callK_by (txSumW_spec _ 1 t hs hb hk) ?_) | (refine callK_by (cloneNil_spec _ 33) ?_) | (simp -dsimp -implicitDefEqProofs only [go_sem, ↓reduceIte, Nat.reduceEqDiff, Nat.reduceAdd, Nat.reduceMul, Nat.reduceLeDiff, Nat.reduceLT, Nat.reduceBEq, Nat.reducePow, Int.reduceToNat, Int.reduceLE, Int.reduceLT, Int.reduceNeg, reduceCtorEq, Int.reduceEq, Int.reduceAdd, Int.reduceSub, Int.reduceMul, Nat.reduceSub, txW_good, txW_csz, txW_agg, nb_txW, txW_p3, txW_len, txW_off]))
  apply loop_keep [2, 4, 5, 14, 15] (fun b : Bool => [(6, .sl 33 (sg ⟨k, txS t⟩ b) (nx + 122)), (16, n64 (sn b))]) (fun b => [(nx + 120, some (.tail (sk b))), (nx + 32, some (.obj (sumA (txS t)))), (nx + 8, some (.obj tx0)), (nx, some (.obj (txW t (.sl 33 [] 1))))]) (fun b => 1 - sk b) false
  · simp -dsimp -implicitDefEqProofs only [go_sem, ↓reduceIte, Nat.reduceEqDiff, Nat.reduceAdd, Nat.reduceMul, Nat.reduceLeDiff, Nat.reduceLT, Nat.reduceBEq, Nat.reducePow, Int.reduceToNat, Int.reduceLE, Int.reduceLT, Int.reduceNeg, reduceCtorEq, Int.reduceEq, Int.reduceAdd, Int.reduceSub, Int.reduceMul, Nat.reduceSub]; rfl
  · simp -dsimp -implicitDefEqProofs only [go_sem, ↓reduceIte, Nat.reduceEqDiff, Nat.reduceAdd, Nat.reduceMul, Nat.reduceLeDiff, Nat.reduceLT, Nat.reduceBEq, Nat.reducePow, Int.reduceToNat, Int.reduceLE, Int.reduceLT, Int.reduceNeg, reduceCtorEq, Int.reduceEq, Int.reduceAdd, Int.reduceSub, Int.reduceMul, Nat.reduceSub, sg_f, sn_f]; try rfl
  · simp -dsimp -implicitDefEqProofs only [go_sem, ↓reduceIte, Nat.reduceEqDiff, Nat.reduceAdd, Nat.reduceMul, Nat.reduceLeDiff, Nat.reduceLT, Nat.reduceBEq, Nat.reducePow, Int.reduceToNat, Int.reduceLE, Int.reduceLT, Int.reduceNeg, reduceCtorEq, Int.reduceEq, Int.reduceAdd, Int.reduceSub, Int.reduceMul, Nat.reduceSub, sk_f, tx0]; try rfl
  · intro s
    simp -dsimp -implicitDefEqProofs only [go_sem, ↓reduceIte, Nat.reduceEqDiff, Nat.reduceAdd, Nat.reduceMul, Nat.reduceLeDiff, Nat.reduceLT, Nat.reduceBEq, Nat.reducePow, Int.reduceToNat, Int.reduceLE, Int.reduceLT, Int.reduceNeg, reduceCtorEq, Int.reduceEq, Int.reduceAdd, Int.reduceSub, Int.reduceMul, Nat.reduceSub, nb_sg, tx0, nb_txW]
    try omega
  · rintro (_ | _)
    · repeat' (first | omega | assumption | (show AL.ahead _ _ _ = true; rfl) | refine brF (fun _ => ?_) (fun _ => ?_) | refine brT (fun _ => ?_) (fun _ => ?_) | refine brVF (fun _ => ?_) (fun _ => ?_) | refine brVT (fun _ => ?_) (fun _ => ?_) | (with_reducible refine And.intro ?_ ?_) | (refine callK_by (hdl _ (by omega)) ?_) | (simp -dsimp -implicitDefEqProofs only [go_sem, ↓reduceIte, Nat.reduceEqDiff, Nat.reduceAdd, Nat.reduceMul, Nat.reduceLeDiff, Nat.reduceLT, Nat.reduceBEq, Nat.reducePow, Int.reduceToNat, Int.reduceLE, Int.reduceLT, Int.reduceNeg, reduceCtorEq, Int.reduceEq, Int.reduceAdd, Int.reduceSub, Int.reduceMul, Nat.reduceSub, sg_f, sn_f, sk_f, w1_64, List.append_eq, List.cons_append, List.nil_append]))
      exact ⟨true, by decide, ⟨rfl, rfl⟩, rfl⟩
    · repeat' (first | omega | assumption | (show AL.ahead _ _ _ = true; rfl) | refine brF (fun _ => ?_) (fun _ => ?_) | refine brT (fun _ => ?_) (fun _ => ?_) | refine brVF (fun _ => ?_) (fun _ => ?_) | refine brVT (fun _ => ?_) (fun _ => ?_) | (with_reducible refine And.intro ?_ ?_) | (refine callK_by (hso _ (by omega)) ?_) | (simp -dsimp -implicitDefEqProofs only [go_sem, ↓reduceIte, Nat.reduceEqDiff, Nat.reduceAdd, Nat.reduceMul, Nat.reduceLeDiff, Nat.reduceLT, Nat.reduceBEq, Nat.reducePow, Int.reduceToNat, Int.reduceLE, Int.reduceLT, Int.reduceNeg, reduceCtorEq, Int.reduceEq, Int.reduceAdd, Int.reduceSub, Int.reduceMul, Nat.reduceSub, sg_t, sn_t, sk_t, w1_64, List.append_eq, List.cons_append, List.nil_append, txW_good, txW_csz, txW_agg, nb_txW, txW_p3, txW_len, txW_off, txW_set, tx0_good, tx0_csz, tx0_agg, nb_sign]))
/-- **A transaction that one key signed.** -/
theorem signed_spec (nx tok : Nat) (t : Tx_) (k : Int) (hs : t.signs = []) (hb : (bodyL true t).length < 2 ^ 38) (hk : ∀ o ∈ t.outs, ∀ w ∈ o.ways, w.keys.length < 2 ^ 32) (ht : tok < 2 ∨ tok - 2 < nx) :
    FnSpec Tryz.prog 8 nx [txW t (.sl 33 [] 1), .sl 1 [n64 k] tok] [] (txA { t with signs := [⟨k, txS t⟩] }) [] 0 := by
  have h := (signedT_spec nx tok t k hs hb hk ht).outle (av' := txA { t with signs := [⟨k, txS t⟩] }) ⟨_, rfl, ⟨_, _, rfl, AV.le_refl _, _, _, rfl, AV.le_refl _, _, _, rfl, AV.le_refl _, _, _, rfl, ⟨_, _, rfl, AV.les_refl _, .inr (.inl rfl)⟩, rfl⟩⟩
  exact h.forget0 (show subA (txA _) (txA _) from rfl) (by rw [nb_tx]; trivial) (by simp [keys])
end Go.Proofs.YthfoeaokfhbdaaaGreat

/-
  Keys with leaves, and towers: made.
-/
set_option linter.unusedSimpArgs false
set_option linter.unusedVariables false
set_option maxRecDepth 100000
set_option maxHeartbeats 1000000
namespace Go.Proofs.YthfoeaokfhbdaaaGreat
open Go Go.AL Go.Proofs.YthfoeaokfhbdaaaGreat.T

def sumsA (l : List Sum) : List AV := l.map sumA
theorem sums_len (l : List Sum) : (sumsA l).length = l.length := by simp [sumsA]
theorem nb_sums {m : Nat} (l : List Sum) : AV.nbs m (sumsA l) = True := by
  simp only [eq_iff_iff, iff_true]
  exact nbs_map (fun s => by rw [nb_sum]; trivial) l
theorem sums_snoc (l : List Sum) (s : Sum) : sumsA l ++ [AV.vec 1 (u8s s.b)] = sumsA (l ++ [s]) := by simp [sumsA, sumA]
theorem sums_get {l : List Sum} {i : Nat} (h : i < l.length) : (sumsA l).getD i .undef = sumA l[i] := by
  simp [sumsA, List.getD_eq_getElem?_getD, List.getElem?_map, List.getElem?_eq_getElem h]
/-- a key: seed, leaves, the next one -/
def keyA (s : Sum) (l : List Sum) (t : Nat) (next : Int) : AV := .agg 34 [sumA s, .sl 32 (sumsA l) t, n64 next]
noncomputable def leavesL (s : Sum) : Nat → List Sum
  | 0 => []
  | i + 1 => leavesL s i ++ [pubS (seedS s i)]
theorem leavesL_len (s : Sum) : ∀ i, (leavesL s i).length = i
  | 0 => rfl
  | i + 1 => by rw [leavesL, List.length_append, leavesL_len s i]; rfl
abbrev nilP : AV := .val (.pointer none)

attribute [local go_sem] nb_u8s u8s_length nb_sum sumA List.length_replicate u8_wrap take32 List.drop_zero zero_sum sum_h u8s_cons u8s_one u8_gc u8_gd1 u8_cs1 List.length_append u8s_app u8s_nil sums_len nb_sums
end Go.Proofs.YthfoeaokfhbdaaaGreat

/-
  Towers: made; what a nil tower does; the law TowerNobody.
-/
set_option linter.unusedSimpArgs false
set_option linter.unusedVariables false
set_option maxRecDepth 100000
set_option maxHeartbeats 1000000
namespace Go.Proofs.YthfoeaokfhbdaaaGreat
open Go Go.AL Go.Proofs.YthfoeaokfhbdaaaGreat.T

def towerA (n : Int) (key : Nat) (jobs sigs : AV) : AV := .agg 4 [n64 n, .ref key 0 [], jobs, sigs]
def receiptA (t c s : Int) (h b : Sum) : AV := .agg 67 [n64 t, n64 c, n64 s, sumA h, sumA b]
def signedA (r : AV) (sig : List UInt8) (t : Nat) : AV := .agg 68 [r, .sl 1 (u8s sig) t]
def opA (k t c a : Int) (r : Sum) (d : AV) : AV := .agg 37 [n64 k, n64 t, n64 c, n64 a, sumA r, d]
/-- the zero transaction -/
def txZ : AV := .agg 40 [.sl 35 [] 1, .sl 2 [] 1, opA 0 0 0 0 zeroS (.sl 1 [] 1), .sl 33 [] 1]

attribute [local go_sem] nb_u8s u8s_length nb_sum sumA List.length_replicate u8_wrap take32 List.drop_zero zero_sum sum_h u8s_cons u8s_one u8_gc u8_gd1 u8_cs1 List.length_append u8s_app u8s_nil sums_len nb_sums towerA receiptA signedA opA keyA
end Go.Proofs.YthfoeaokfhbdaaaGreat

/-
  What a nil tower does, on; the law TowerNobody.
-/
set_option linter.unusedSimpArgs false
set_option linter.unusedVariables false
set_option maxRecDepth 100000
set_option maxHeartbeats 1000000
namespace Go.Proofs.YthfoeaokfhbdaaaGreat
open Go Go.AL Go.Proofs.YthfoeaokfhbdaaaGreat.T

attribute [local go_sem] nb_u8s u8s_length nb_sum sumA List.length_replicate u8_wrap take32 List.drop_zero zero_sum sum_h u8s_cons u8s_one u8_gc u8_gd1 u8_cs1 List.length_append u8s_app u8s_nil sums_len nb_sums towerA receiptA signedA opA keyA txZ
def chanZ : Chan := ⟨0, 0, 0, ⟨zeroS, 0⟩, 0, 0, 0⟩
theorem rightChannel_zero (nx : Nat) : FnSpec Tryz.prog 24 nx [chanA chanZ] [] (bA false) [] 0 := by
  refine FnSpec.of_code (cx := cx) (an := {}) (rs := [.tmp 2]) mo Tryz.func24 rfl rfl (by kernel_rfl) (by kernel_rfl) (by show 1 ≤ _; decide) (.inl rfl) (by simp [allWr, keys, Res.wr]) ?_
  repeat' (first | omega | assumption | (show AL.ahead _ _ _ = true; rfl) | refine brF (fun _ => ?_) (fun _ => ?_) | refine brT (fun _ => ?_) (fun _ => ?_) | refine brVF (fun _ => ?_) (fun _ => ?_) | refine brVT (fun _ => ?_) (fun _ => ?_) | (with_reducible refine And.intro ?_ ?_) | (simp -dsimp -implicitDefEqProofs only [go_sem, ↓reduceIte, Nat.reduceEqDiff, Nat.reduceAdd, Nat.reduceMul, Nat.reduceLeDiff, Nat.reduceLT, Nat.reduceBEq, Nat.reducePow, Int.reduceToNat, Int.reduceLE, Int.reduceLT, Int.reduceNeg, reduceCtorEq, Int.reduceEq, Int.reduceAdd, Int.reduceSub, Int.reduceMul, Nat.reduceSub, chanA, refA, chanZ, List.append_eq, List.cons_append, List.nil_append]))
  all_goals trace_state
def isSumT (P : Program) (T : TypeId) : Bool :=
  match tarr P T with
  | some (len, e) => decide (len = 32) && decide (tsz P e = some 1) && decide (tagg P e = some false) && (match tint P e with | some .u8 => true | _ => false)
  | none => false
theorem cmp_sum {P : Program} {T : TypeId} {s : Sum} (h : isSumT P T = true) : cmpOK P 8 T (.vec 1 (u8s s.b)) = True := by
  unfold isSumT at h
  split at h
  · rename_i len e he
    simp only [Bool.and_eq_true, decide_eq_true_eq] at h
    obtain ⟨⟨⟨h1, h2⟩, h3⟩, h4⟩ := h
    have h5 : tint P e = some .u8 := by
      split at h4
      · assumption
      · cases h4
    simp only [eq_iff_iff, iff_true]
    rw [cmpOK]
    simp only [he, h2, h3]
    refine ⟨by rw [u8s_length, s.h, h1], trivial, fun p hp => ?_⟩
    obtain ⟨b, _, rfl⟩ := List.mem_map.1 hp
    exact ⟨rfl, rfl, by simp only [u8, cmpOK]; exact h5⟩
  · cases h
theorem wrap0 : IntKind.i64.wrap 0 = 0 := by decide
theorem eqB_self (a : AV) : eqB a a = true := eqB_yes rfl
end Go.Proofs.YthfoeaokfhbdaaaGreat

/-
  What sweeps, and what settles.
-/
set_option linter.unusedSimpArgs false
set_option linter.unusedVariables false
set_option maxRecDepth 100000
set_option maxHeartbeats 1000000
namespace Go.Proofs.YthfoeaokfhbdaaaGreat
open Go Go.AL Go.Proofs.YthfoeaokfhbdaaaGreat.T
attribute [local go_sem] nb_u8s u8s_length nb_sum sumA List.length_replicate zero_sum sum_h nb_vals vals_len u8s_nil
def op0 : Op_ := ⟨0, 0, 0, 0, zeroS, []⟩
def toO (k a : Int) : Out_ := ⟨a, [⟨[k], zeroS, 0, 0⟩]⟩
def sweepT (k : Int) (id : Sum) (a : Int) : Tx_ := ⟨[⟨⟨id, 0⟩, 0, []⟩], [toO k a], op0, []⟩
def settleT (ch k : Int) (tower a : Int) : Tx_ := ⟨[], [toO k a], ⟨7, tower, ch, 0, zeroS, []⟩, []⟩
noncomputable def signedT (t : Tx_) (k : Int) : Tx_ := { t with signs := [⟨k, txS t⟩] }
theorem opL_le (o : Op_) : (opL o).length ≤ 82 + o.data.length := by
  have h1 := flat_numI [o.kind, o.tower, o.channel, o.amount]
  have h2 := numI_len o.data.length
  simp only [List.length_cons, List.length_nil] at h1
  simp only [opL, List.length_append, sum_h]; omega
theorem outL_to (k a : Int) : (outL (toO k a)).length ≤ 92 := by
  have h1 := flat_numI [a, ((1 : Nat) : Int)]
  have h2 := numI_len ((1 : Nat) : Int)
  have h3 := flat_numI [k]
  have h4 := flat_numI [(0 : Int), 0]
  simp only [List.length_cons, List.length_nil] at h1 h3 h4
  simp only [outL, toO, wayL, List.flatMap_cons, List.flatMap_nil, List.append_nil, List.length_append, sum_h, List.length_cons, List.length_nil, Nat.zero_add] at *
  omega
theorem inL_le (x : In_) : (inL true x).length ≤ 62 + x.pre.length := by
  have h1 := flat_numI [x.ref.at_, x.way]
  have h2 := numI_len x.pre.length
  simp only [List.length_cons, List.length_nil] at h1
  simp only [inL, List.length_append, sum_h, if_true]; omega
theorem sweepT_len (k : Int) (id : Sum) (a : Int) : (bodyL true (sweepT k id a)).length < 2 ^ 38 := by
  have h1 := numI_len ((1 : Nat) : Int)
  have h2 := inL_le ⟨⟨id, 0⟩, 0, []⟩
  have h3 := outL_to k a
  have h4 := opL_le op0
  simp only [op0, List.length_nil] at h4 h2
  simp only [bodyL, sweepT, op0, List.flatMap_cons, List.flatMap_nil, List.append_nil, List.length_append, List.length_cons, List.length_nil, Nat.zero_add]
  omega
theorem settleT_len (ch k t a : Int) : (bodyL true (settleT ch k t a)).length < 2 ^ 38 := by
  have h1 := numI_len ((1 : Nat) : Int)
  have h2 := numI_len ((0 : Nat) : Int)
  have h3 := outL_to k a
  have h4 := opL_le ⟨7, t, ch, 0, zeroS, []⟩
  simp only [List.length_nil] at h4
  simp only [bodyL, settleT, List.flatMap_cons, List.flatMap_nil, List.append_nil, List.length_append, List.length_cons, List.length_nil, Nat.zero_add]
  omega
theorem toO_keys (k a : Int) (L : List Out_) (h : L = [toO k a]) : ∀ o ∈ L, ∀ w ∈ o.ways, w.keys.length < 2 ^ 32 := by
  subst h
  intro o ho w hw
  simp at ho; subst ho
  simp [toO] at hw; subst hw
  simp
theorem sweepSign (nx : Nat) (k : Int) (id : Sum) (a : Int) :
    FnSpec Tryz.prog 8 nx [.agg 40 [.sl 35 [.agg 35 [.agg 33 [sumA id, n64 0], n64 0, .sl 1 [] 1]] 1, .sl 2 [outA (toO k a)] 1, .agg 37 [n64 0, n64 0, n64 0, n64 0, sumA zeroS, .sl 1 [] 1], .sl 33 [] 1], .sl 1 [n64 k] 1] [] (txA (signedT (sweepT k id a) k)) [] 0 := by
  refine (signed_spec nx 1 (sweepT k id a) k rfl (sweepT_len k id a) (toO_keys k a _ rfl) (.inl (by decide))).le ?_
  refine ⟨_, _, rfl, ⟨_, rfl, _, _, rfl, ⟨_, _, rfl, ?_, .inr (.inl rfl)⟩, _, _, rfl, ⟨_, _, rfl, AV.les_refl _, .inr (.inl rfl)⟩, _, _, rfl, ⟨_, rfl, ?_⟩, AV.les_refl _⟩, AV.les_refl _⟩
  · exact ⟨_, _, rfl, ⟨_, rfl, _, _, rfl, AV.le_refl _, _, _, rfl, AV.le_refl _, _, _, rfl, ⟨_, _, rfl, AV.les_refl _, .inr (.inl rfl)⟩, rfl⟩, rfl⟩
  · exact ⟨_, _, rfl, AV.le_refl _, _, _, rfl, AV.le_refl _, _, _, rfl, AV.le_refl _, _, _, rfl, AV.le_refl _, _, _, rfl, AV.le_refl _, _, _, rfl, ⟨_, _, rfl, AV.les_refl _, .inr (.inl rfl)⟩, rfl⟩
theorem settleSign (nx : Nat) (ch k t a : Int) :
    FnSpec Tryz.prog 8 nx [.agg 40 [.sl 35 [] 1, .sl 2 [outA (toO k a)] 1, .agg 37 [n64 7, n64 t, n64 ch, n64 0, sumA zeroS, .sl 1 [] 1], .sl 33 [] 1], .sl 1 [n64 k] 1] [] (txA (signedT (settleT ch k t a) k)) [] 0 := by
  refine (signed_spec nx 1 (settleT ch k t a) k rfl (settleT_len ch k t a) (toO_keys k a _ rfl) (.inl (by decide))).le ?_
  refine ⟨_, _, rfl, ⟨_, rfl, _, _, rfl, ⟨_, _, rfl, AV.les_refl _, .inr (.inl rfl)⟩, _, _, rfl, ⟨_, _, rfl, AV.les_refl _, .inr (.inl rfl)⟩, _, _, rfl, ⟨_, rfl, ?_⟩, AV.les_refl _⟩, AV.les_refl _⟩
  · exact ⟨_, _, rfl, AV.le_refl _, _, _, rfl, AV.le_refl _, _, _, rfl, AV.le_refl _, _, _, rfl, AV.le_refl _, _, _, rfl, AV.le_refl _, _, _, rfl, ⟨_, _, rfl, AV.les_refl _, .inr (.inl rfl)⟩, rfl⟩
theorem txA_sc (t : Tx_) : (txA t).cref = .cref (txA t) := rfl
end Go.Proofs.YthfoeaokfhbdaaaGreat

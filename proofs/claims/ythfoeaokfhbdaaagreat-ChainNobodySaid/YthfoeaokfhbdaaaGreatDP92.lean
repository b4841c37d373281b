/-
  What a nil ledger, and the zero ledger, answer.
-/
import Derived.Test.YthfoeaokfhbdaaaGreatDP78
import Derived.Test.YthfoeaokfhbdaaaGreatDP77
import Derived.Test.YthfoeaokfhbdaaaGreatDP82
set_option linter.unusedSimpArgs false
set_option linter.unusedVariables false
set_option maxRecDepth 100000
set_option maxHeartbeats 2000000
namespace Go.Proofs.YthfoeaokfhbdaaaGreat
open Go Go.AL Go.Proofs.YthfoeaokfhbdaaaGreat.T
def ledZ : AV := .agg 6 [nilP, nilP, .val (.map none), .val (.map none), .sl 32 [] 1, n64 0]
attribute [local go_sem] nb_u8s u8s_length nb_sum List.length_replicate zero_sum sum_h u8s_nil txA_good txA_csz txA_agg nb_tx sum_csz sum_agg sumA_good nb_ref refA_good refA_agg refA_csz
theorem lnone_nil (nx : Nat) : FnSpec Tryz.prog 55 nx [nilP] [] (bA true) [] 0 := by
  refine FnSpec.of_code (cx := cx) (an := {}) (rs := [.tmp 2]) mo Tryz.func55 rfl rfl (by kernel_rfl) (by kernel_rfl) (by show 1 ≤ _; decide) (.inl rfl) (by simp [allWr, keys, Res.wr]) ?_
  repeat' (first | omega | assumption | (show AL.ahead _ _ _ = true; rfl) | refine brF (fun _ => ?_) (fun _ => ?_) | refine brT (fun _ => ?_) (fun _ => ?_) | refine brVF (fun _ => ?_) (fun _ => ?_) | refine brVT (fun _ => ?_) (fun _ => ?_) | (with_reducible refine And.intro ?_ ?_) | (simp -dsimp -implicitDefEqProofs only [go_sem, ↓reduceIte, Nat.reduceEqDiff, Nat.reduceAdd, Nat.reduceMul, Nat.reduceLeDiff, Nat.reduceLT, Nat.reduceBEq, Nat.reducePow, Int.reduceToNat, Int.reduceLE, Int.reduceLT, Int.reduceNeg, reduceCtorEq, Int.reduceEq, Int.reduceAdd, Int.reduceSub, Int.reduceMul, Nat.reduceSub]))
  all_goals trace_state
theorem lnone_zero (nx m : Nat) (hm : m < nx) : FnSpec Tryz.prog 55 nx [.ref m 0 []] [(m, some (.robj ledZ))] (bA true) [] 0 := by
  have x1 := ltF hm
  refine FnSpec.of_code (cx := cx) (an := {}) (rs := [.tmp 2]) mo Tryz.func55 rfl rfl (by kernel_rfl) (by kernel_rfl) (by show 1 ≤ _; decide) (.inl rfl) (by simp [allWr, keys, Res.wr]) ?_
  repeat' (first | omega | assumption | (show AL.ahead _ _ _ = true; rfl) | refine brF (fun _ => ?_) (fun _ => ?_) | refine brT (fun _ => ?_) (fun _ => ?_) | refine brVF (fun _ => ?_) (fun _ => ?_) | refine brVT (fun _ => ?_) (fun _ => ?_) | (with_reducible refine And.intro ?_ ?_) | (simp -dsimp -implicitDefEqProofs only [go_sem, ↓reduceIte, Nat.reduceEqDiff, Nat.reduceAdd, Nat.reduceMul, Nat.reduceLeDiff, Nat.reduceLT, Nat.reduceBEq, Nat.reducePow, Int.reduceToNat, Int.reduceLE, Int.reduceLT, Int.reduceNeg, reduceCtorEq, Int.reduceEq, Int.reduceAdd, Int.reduceSub, Int.reduceMul, Nat.reduceSub, x1, ledZ]))
  all_goals trace_state
theorem ldone_nil (nx : Nat) (id : Sum) : FnSpec Tryz.prog 9 nx [nilP, sumA id] [] (.tup [optD none, bA false]) [] 0 := by
  refine FnSpec.of_code (cx := cx) (an := {}) (rs := [.cell 4 46, .tmp 5]) mo Tryz.func9 rfl rfl (by kernel_rfl) (by kernel_rfl) (by show 2 ≤ _; decide) (.inr ⟨_, rfl, by simp [AV.good, optD, doneA]⟩) (by simp [allWr, keys, Res.wr]) ?_
  repeat' (first | omega | assumption | (show AL.ahead _ _ _ = true; rfl) | refine brF (fun _ => ?_) (fun _ => ?_) | refine brT (fun _ => ?_) (fun _ => ?_) | refine brVF (fun _ => ?_) (fun _ => ?_) | refine brVT (fun _ => ?_) (fun _ => ?_) | (with_reducible refine And.intro ?_ ?_) | (refine callK_by (lnone_nil _) ?_) | (simp -dsimp -implicitDefEqProofs only [go_sem, ↓reduceIte, Nat.reduceEqDiff, Nat.reduceAdd, Nat.reduceMul, Nat.reduceLeDiff, Nat.reduceLT, Nat.reduceBEq, Nat.reducePow, Int.reduceToNat, Int.reduceLE, Int.reduceLT, Int.reduceNeg, reduceCtorEq, Int.reduceEq, Int.reduceAdd, Int.reduceSub, Int.reduceMul, Nat.reduceSub, optD]))
  all_goals trace_state
theorem lspent_zero (nx m : Nat) (r : Ref_) (hm : m < nx) : FnSpec Tryz.prog 10 nx [.ref m 0 [], refA r] [(m, some (.robj ledZ))] (.tup [optS none, bA false]) [] 0 := by
  have x1 := ltF hm
  refine FnSpec.of_code (cx := cx) (an := {}) (rs := [.cell 4 50, .tmp 5]) mo Tryz.func10 rfl rfl (by kernel_rfl) (by kernel_rfl) (by show 2 ≤ _; decide) (.inr ⟨_, rfl, by simp [AV.good, optS, spendA]⟩) (by simp [allWr, keys, Res.wr]) ?_
  repeat' (first | omega | assumption | (show AL.ahead _ _ _ = true; rfl) | refine brF (fun _ => ?_) (fun _ => ?_) | refine brT (fun _ => ?_) (fun _ => ?_) | refine brVF (fun _ => ?_) (fun _ => ?_) | refine brVT (fun _ => ?_) (fun _ => ?_) | (with_reducible refine And.intro ?_ ?_) | (refine callK_by (lnone_zero _ m (by omega)) ?_) | (simp -dsimp -implicitDefEqProofs only [go_sem, ↓reduceIte, Nat.reduceEqDiff, Nat.reduceAdd, Nat.reduceMul, Nat.reduceLeDiff, Nat.reduceLT, Nat.reduceBEq, Nat.reducePow, Int.reduceToNat, Int.reduceLE, Int.reduceLT, Int.reduceNeg, reduceCtorEq, Int.reduceEq, Int.reduceAdd, Int.reduceSub, Int.reduceMul, Nat.reduceSub, x1, optS, spendA]))
  all_goals trace_state
/-- no facts -/
def facZ : AV := .agg 43 [.agg 40 [.sl 35 [] 1, .sl 2 [] 1, .agg 37 [n64 0, n64 0, n64 0, n64 0, sumA zeroS, .sl 1 [] 1], .sl 33 [] 1], n64 0, bA false, n64 0]
theorem lfacts_nil (nx : Nat) (id : Sum) : FnSpec Tryz.prog 11 nx [nilP, sumA id] [] (.tup [facZ, bA false]) [] 0 := by
  have hd := fun nc => ldone_nil nc id
  simp only [optD] at hd
  refine FnSpec.of_code (cx := cx) (an := {}) (rs := [.cell 4 54, .tmp 5]) mo Tryz.func11 rfl rfl (by kernel_rfl) (by kernel_rfl) (by show 2 ≤ _; decide) (.inr ⟨_, rfl, by simp [AV.good, facZ]⟩) (by simp [allWr, keys, Res.wr]) ?_
  repeat' (first | omega | assumption | (show AL.ahead _ _ _ = true; rfl) | refine brF (fun _ => ?_) (fun _ => ?_) | refine brT (fun _ => ?_) (fun _ => ?_) | refine brVF (fun _ => ?_) (fun _ => ?_) | refine brVT (fun _ => ?_) (fun _ => ?_) | (with_reducible refine And.intro ?_ ?_) | (refine callK_by (hd _) ?_) | (simp -dsimp -implicitDefEqProofs only [go_sem, ↓reduceIte, Nat.reduceEqDiff, Nat.reduceAdd, Nat.reduceMul, Nat.reduceLeDiff, Nat.reduceLT, Nat.reduceBEq, Nat.reducePow, Int.reduceToNat, Int.reduceLE, Int.reduceLT, Int.reduceNeg, reduceCtorEq, Int.reduceEq, Int.reduceAdd, Int.reduceSub, Int.reduceMul, Nat.reduceSub, facZ]))
  all_goals trace_state
theorem lapply_nil (nx : Nat) (t : Tx_) (h : Int) : FnSpec Tryz.prog 12 nx [nilP, txA t, n64 h] [] (n64 1) [] 0 := by
  refine FnSpec.of_code (cx := cx) (an := {}) (rs := [.tmp 6]) mo Tryz.func12 rfl rfl (by kernel_rfl) (by kernel_rfl) (by show 3 ≤ _; decide) (.inl rfl) (by simp [allWr, keys, Res.wr]) ?_
  repeat' (first | omega | assumption | (show AL.ahead _ _ _ = true; rfl) | refine brF (fun _ => ?_) (fun _ => ?_) | refine brT (fun _ => ?_) (fun _ => ?_) | refine brVF (fun _ => ?_) (fun _ => ?_) | refine brVT (fun _ => ?_) (fun _ => ?_) | (with_reducible refine And.intro ?_ ?_) | (refine callK_by (lnone_nil _) ?_) | (simp -dsimp -implicitDefEqProofs only [go_sem, ↓reduceIte, Nat.reduceEqDiff, Nat.reduceAdd, Nat.reduceMul, Nat.reduceLeDiff, Nat.reduceLT, Nat.reduceBEq, Nat.reducePow, Int.reduceToNat, Int.reduceLE, Int.reduceLT, Int.reduceNeg, reduceCtorEq, Int.reduceEq, Int.reduceAdd, Int.reduceSub, Int.reduceMul, Nat.reduceSub]))
  all_goals trace_state
theorem lapply_zero (nx m : Nat) (t : Tx_) (h : Int) (hm : m < nx) : FnSpec Tryz.prog 12 nx [.ref m 0 [], txA t, n64 h] [(m, some (.robj ledZ))] (n64 1) [] 0 := by
  have x1 := ltF hm
  refine FnSpec.of_code (cx := cx) (an := {}) (rs := [.tmp 6]) mo Tryz.func12 rfl rfl (by kernel_rfl) (by kernel_rfl) (by show 3 ≤ _; decide) (.inl rfl) (by simp [allWr, keys, Res.wr]) ?_
  repeat' (first | omega | assumption | (show AL.ahead _ _ _ = true; rfl) | refine brF (fun _ => ?_) (fun _ => ?_) | refine brT (fun _ => ?_) (fun _ => ?_) | refine brVF (fun _ => ?_) (fun _ => ?_) | refine brVT (fun _ => ?_) (fun _ => ?_) | (with_reducible refine And.intro ?_ ?_) | (refine callK_by (lnone_zero _ m (by omega)) ?_) | (simp -dsimp -implicitDefEqProofs only [go_sem, ↓reduceIte, Nat.reduceEqDiff, Nat.reduceAdd, Nat.reduceMul, Nat.reduceLeDiff, Nat.reduceLT, Nat.reduceBEq, Nat.reducePow, Int.reduceToNat, Int.reduceLE, Int.reduceLT, Int.reduceNeg, reduceCtorEq, Int.reduceEq, Int.reduceAdd, Int.reduceSub, Int.reduceMul, Nat.reduceSub, x1]))
  all_goals trace_state
theorem lorder_nil (nx : Nat) : FnSpec Tryz.prog 13 nx [nilP] [] (.sl 0 [] 1) [] 0 := by
  refine FnSpec.of_code (cx := cx) (an := {}) (rs := [.tmp 2]) mo Tryz.func13 rfl rfl (by kernel_rfl) (by kernel_rfl) (by show 1 ≤ _; decide) (.inl rfl) (by simp [allWr, keys, Res.wr]) ?_
  repeat' (first | omega | assumption | (show AL.ahead _ _ _ = true; rfl) | refine brF (fun _ => ?_) (fun _ => ?_) | refine brT (fun _ => ?_) (fun _ => ?_) | refine brVF (fun _ => ?_) (fun _ => ?_) | refine brVT (fun _ => ?_) (fun _ => ?_) | (with_reducible refine And.intro ?_ ?_) | (refine callK_by (lnone_nil _) ?_) | (simp -dsimp -implicitDefEqProofs only [go_sem, ↓reduceIte, Nat.reduceEqDiff, Nat.reduceAdd, Nat.reduceMul, Nat.reduceLeDiff, Nat.reduceLT, Nat.reduceBEq, Nat.reducePow, Int.reduceToNat, Int.reduceLE, Int.reduceLT, Int.reduceNeg, reduceCtorEq, Int.reduceEq, Int.reduceAdd, Int.reduceSub, Int.reduceMul, Nat.reduceSub]))
  all_goals trace_state
theorem lorder_zero (nx m : Nat) (hm : m < nx) : FnSpec Tryz.prog 13 nx [.ref m 0 []] [(m, some (.robj ledZ))] (.sl 0 [] 1) [] 0 := by
  have x1 := ltF hm
  refine FnSpec.of_code (cx := cx) (an := {}) (rs := [.tmp 2]) mo Tryz.func13 rfl rfl (by kernel_rfl) (by kernel_rfl) (by show 1 ≤ _; decide) (.inl rfl) (by simp [allWr, keys, Res.wr]) ?_
  repeat' (first | omega | assumption | (show AL.ahead _ _ _ = true; rfl) | refine brF (fun _ => ?_) (fun _ => ?_) | refine brT (fun _ => ?_) (fun _ => ?_) | refine brVF (fun _ => ?_) (fun _ => ?_) | refine brVT (fun _ => ?_) (fun _ => ?_) | (with_reducible refine And.intro ?_ ?_) | (refine callK_by (lnone_zero _ m (by omega)) ?_) | (simp -dsimp -implicitDefEqProofs only [go_sem, ↓reduceIte, Nat.reduceEqDiff, Nat.reduceAdd, Nat.reduceMul, Nat.reduceLeDiff, Nat.reduceLT, Nat.reduceBEq, Nat.reducePow, Int.reduceToNat, Int.reduceLE, Int.reduceLT, Int.reduceNeg, reduceCtorEq, Int.reduceEq, Int.reduceAdd, Int.reduceSub, Int.reduceMul, Nat.reduceSub, x1]))
  all_goals trace_state
theorem lfees_nil (nx : Nat) : FnSpec Tryz.prog 14 nx [nilP] [] (n64 0) [] 0 := by
  refine FnSpec.of_code (cx := cx) (an := {}) (rs := [.tmp 2]) mo Tryz.func14 rfl rfl (by kernel_rfl) (by kernel_rfl) (by show 1 ≤ _; decide) (.inl rfl) (by simp [allWr, keys, Res.wr]) ?_
  repeat' (first | omega | assumption | (show AL.ahead _ _ _ = true; rfl) | refine brF (fun _ => ?_) (fun _ => ?_) | refine brT (fun _ => ?_) (fun _ => ?_) | refine brVF (fun _ => ?_) (fun _ => ?_) | refine brVT (fun _ => ?_) (fun _ => ?_) | (with_reducible refine And.intro ?_ ?_) | (refine callK_by (lnone_nil _) ?_) | (simp -dsimp -implicitDefEqProofs only [go_sem, ↓reduceIte, Nat.reduceEqDiff, Nat.reduceAdd, Nat.reduceMul, Nat.reduceLeDiff, Nat.reduceLT, Nat.reduceBEq, Nat.reducePow, Int.reduceToNat, Int.reduceLE, Int.reduceLT, Int.reduceNeg, reduceCtorEq, Int.reduceEq, Int.reduceAdd, Int.reduceSub, Int.reduceMul, Nat.reduceSub]))
  all_goals trace_state
theorem lfees_spec (nx : Nat) (n : LN) (x : LS) (hv : n.l < nx) : FnSpec Tryz.prog 14 nx [.ref n.l 0 []] [(n.l, some (.robj (ledA n x)))] (n64 x.fees) [] 0 := by
  have x1 := ltF hv
  refine FnSpec.of_code (cx := cx) (an := {}) (rs := [.tmp 2]) mo Tryz.func14 rfl rfl (by kernel_rfl) (by kernel_rfl) (by show 1 ≤ _; decide) (.inl rfl) (by simp [allWr, keys, Res.wr]) ?_
  repeat' (first | omega | assumption | (show AL.ahead _ _ _ = true; rfl) | refine brF (fun _ => ?_) (fun _ => ?_) | refine brT (fun _ => ?_) (fun _ => ?_) | refine brVF (fun _ => ?_) (fun _ => ?_) | refine brVT (fun _ => ?_) (fun _ => ?_) | (with_reducible refine And.intro ?_ ?_) | (refine callK_by (lnone_spec _ n x (by omega)) ?_) | (simp -dsimp -implicitDefEqProofs only [go_sem, ↓reduceIte, Nat.reduceEqDiff, Nat.reduceAdd, Nat.reduceMul, Nat.reduceLeDiff, Nat.reduceLT, Nat.reduceBEq, Nat.reducePow, Int.reduceToNat, Int.reduceLE, Int.reduceLT, Int.reduceNeg, reduceCtorEq, Int.reduceEq, Int.reduceAdd, Int.reduceSub, Int.reduceMul, Nat.reduceSub, x1, ledA]))
  all_goals trace_state
theorem lworth_nil (nx : Nat) : FnSpec Tryz.prog 15 nx [nilP] [] (n64 0) [] 0 := by
  refine FnSpec.of_code (cx := cx) (an := {}) (rs := [.tmp 2]) mo Tryz.func15 rfl rfl (by kernel_rfl) (by kernel_rfl) (by show 1 ≤ _; decide) (.inl rfl) (by simp [allWr, keys, Res.wr]) ?_
  repeat' (first | omega | assumption | (show AL.ahead _ _ _ = true; rfl) | refine brF (fun _ => ?_) (fun _ => ?_) | refine brT (fun _ => ?_) (fun _ => ?_) | refine brVF (fun _ => ?_) (fun _ => ?_) | refine brVT (fun _ => ?_) (fun _ => ?_) | (with_reducible refine And.intro ?_ ?_) | (refine callK_by (lnone_nil _) ?_) | (simp -dsimp -implicitDefEqProofs only [go_sem, ↓reduceIte, Nat.reduceEqDiff, Nat.reduceAdd, Nat.reduceMul, Nat.reduceLeDiff, Nat.reduceLT, Nat.reduceBEq, Nat.reducePow, Int.reduceToNat, Int.reduceLE, Int.reduceLT, Int.reduceNeg, reduceCtorEq, Int.reduceEq, Int.reduceAdd, Int.reduceSub, Int.reduceMul, Nat.reduceSub]))
  all_goals trace_state
theorem lworth_zero (nx m : Nat) (hm : m < nx) : FnSpec Tryz.prog 15 nx [.ref m 0 []] [(m, some (.robj ledZ))] (n64 0) [] 0 := by
  have x1 := ltF hm
  refine FnSpec.of_code (cx := cx) (an := {}) (rs := [.tmp 2]) mo Tryz.func15 rfl rfl (by kernel_rfl) (by kernel_rfl) (by show 1 ≤ _; decide) (.inl rfl) (by simp [allWr, keys, Res.wr]) ?_
  repeat' (first | omega | assumption | (show AL.ahead _ _ _ = true; rfl) | refine brF (fun _ => ?_) (fun _ => ?_) | refine brT (fun _ => ?_) (fun _ => ?_) | refine brVF (fun _ => ?_) (fun _ => ?_) | refine brVT (fun _ => ?_) (fun _ => ?_) | (with_reducible refine And.intro ?_ ?_) | (refine callK_by (lnone_zero _ m (by omega)) ?_) | (simp -dsimp -implicitDefEqProofs only [go_sem, ↓reduceIte, Nat.reduceEqDiff, Nat.reduceAdd, Nat.reduceMul, Nat.reduceLeDiff, Nat.reduceLT, Nat.reduceBEq, Nat.reducePow, Int.reduceToNat, Int.reduceLE, Int.reduceLT, Int.reduceNeg, reduceCtorEq, Int.reduceEq, Int.reduceAdd, Int.reduceSub, Int.reduceMul, Nat.reduceSub, x1]))
  all_goals trace_state
theorem lclone_nil (nx : Nat) : FnSpec Tryz.prog 16 nx [nilP] [] nilP [] 0 := by
  refine FnSpec.of_code (cx := cx) (an := {}) (rs := [.tmp 2]) mo Tryz.func16 rfl rfl (by kernel_rfl) (by kernel_rfl) (by show 1 ≤ _; decide) (.inl rfl) (by simp [allWr, keys, Res.wr]) ?_
  repeat' (first | omega | assumption | (show AL.ahead _ _ _ = true; rfl) | refine brF (fun _ => ?_) (fun _ => ?_) | refine brT (fun _ => ?_) (fun _ => ?_) | refine brVF (fun _ => ?_) (fun _ => ?_) | refine brVT (fun _ => ?_) (fun _ => ?_) | (with_reducible refine And.intro ?_ ?_) | (refine callK_by (lnone_nil _) ?_) | (simp -dsimp -implicitDefEqProofs only [go_sem, ↓reduceIte, Nat.reduceEqDiff, Nat.reduceAdd, Nat.reduceMul, Nat.reduceLeDiff, Nat.reduceLT, Nat.reduceBEq, Nat.reducePow, Int.reduceToNat, Int.reduceLE, Int.reduceLT, Int.reduceNeg, reduceCtorEq, Int.reduceEq, Int.reduceAdd, Int.reduceSub, Int.reduceMul, Nat.reduceSub]))
  all_goals trace_state
theorem jkeyW_spec (nx : Nat) (n : Int) : FnSpec Tryz.prog 17 nx [n64 n] [] (n64 (w64 (100 + n))) [] 0 := by
  refine FnSpec.of_code (cx := cx) (an := {}) (rs := [.tmp 2]) mo Tryz.func17 rfl rfl (by kernel_rfl) (by kernel_rfl) (by show 1 ≤ _; decide) (.inl rfl) (by simp [allWr, keys, Res.wr]) ?_
  repeat' (first | omega | assumption | (show AL.ahead _ _ _ = true; rfl) | refine brF (fun _ => ?_) (fun _ => ?_) | refine brT (fun _ => ?_) (fun _ => ?_) | refine brVF (fun _ => ?_) (fun _ => ?_) | refine brVT (fun _ => ?_) (fun _ => ?_) | (with_reducible refine And.intro ?_ ?_) | (simp -dsimp -implicitDefEqProofs only [go_sem, ↓reduceIte, Nat.reduceEqDiff, Nat.reduceAdd, Nat.reduceMul, Nat.reduceLeDiff, Nat.reduceLT, Nat.reduceBEq, Nat.reducePow, Int.reduceToNat, Int.reduceLE, Int.reduceLT, Int.reduceNeg, reduceCtorEq, Int.reduceEq, Int.reduceAdd, Int.reduceSub, Int.reduceMul, Nat.reduceSub]))
  all_goals first | rfl | trace_state
end Go.Proofs.YthfoeaokfhbdaaaGreat

/-
  The example: a first out, and what spends it.
-/
set_option linter.unusedSimpArgs false
set_option linter.unusedVariables false
set_option maxRecDepth 100000
set_option maxHeartbeats 2000000
namespace Go.Proofs.YthfoeaokfhbdaaaGreat
open Go Go.AL Go.Proofs.YthfoeaokfhbdaaaGreat.T
theorem badW_one {w : Way_} (h : wayP w) : badW [w] = false := by
  unfold badW idxW
  rw [if_pos (fun q hq => by simp at hq; subst hq; exact h)]
  decide
theorem wayP_to {k : Int} (h0 : 0 ≤ k) (h1 : k ≤ 255) : wayP ⟨[k], zeroS, 0, 0⟩ := by
  refine ⟨by simp, by simp, by simp, by simp, by simp, fun i hi => ?_⟩
  have : i = 0 := by simp at hi; omega
  subst this
  exact ⟨by simpa using h0, by simpa using h1, fun h => absurd h (Nat.lt_irrefl 0)⟩
theorem outB_to {k a : Int} (h0 : 0 ≤ k) (h1 : k ≤ 255) (h2 : 0 ≤ a) (h3 : a ≤ 1125899906842624) : outB (toO k a) = true := by
  unfold outB
  rw [show (toO k a).ways = [⟨[k], zeroS, 0, 0⟩] from rfl, badW_one (wayP_to h0 h1)]
  simp [toO, h2, h3]
noncomputable def x0 : LS := ⟨[(⟨id1, 0⟩, ⟨toO 1 5, 0⟩)], [], [], [(id1, ⟨txO [toO 1 5], 0⟩)], [], [id1], 0⟩
theorem putL_nil {r : Ref_} {o : Out_} {h : Int} (h1 : outB o = true) (h2 : 0 ≤ h) (h3 : h ≤ 1073741824) : putL r o h [] = [(r, ⟨o, h⟩)] := by
  rw [(putL_ok (l := []) h1 h2 h3 rfl).1]; rfl
theorem newS_1 : newS [toO 1 5] = x0 := by
  show comeS id1 (txO [toO 1 5]) 0 ⟨[], [], [], [], [], [], 0⟩ = x0
  simp only [comeS, txO, putAll, setM, List.nil_append]
  rw [putL_nil (outB_to (by decide) (by decide) (by decide) (by decide)) (by decide) (by decide)]
  rfl
theorem newE_1 : newE 0 [toO 1 5] = 0 := by
  have e1 : outB (toO 1 5) = true := outB_to (by decide) (by decide) (by decide) (by decide)
  have e2 : addF 0 [0, (toO 1 5).amount] = (5, 0) := by decide
  simp only [newE, e1, e2]
  decide
/-- what spends it -/
noncomputable def sp (os : List Out_) : Tx_ := signedT (tx1 os) 1
theorem sp_id (os : List Out_) : txS (sp os) = txS (tx1 os) := rfl
theorem sp_keys (os : List Out_) : keysF (sp os) (sp os).signs = [1] := by
  show keysF (sp os) [⟨1, txS (tx1 os)⟩] = [1]
  simp only [keysF]
  rw [if_pos (sp_id os).symm]
theorem sp_ins (os : List Out_) : insF (keysF (sp os) (sp os).signs) 1 x0.coins 0 (sp os).ins = (5, 0) := by
  rw [sp_keys]
  show insF [1] 1 [(⟨id1, 0⟩, ⟨toO 1 5, 0⟩)] 0 [⟨⟨id1, 0⟩, 0, []⟩] = (5, 0)
  have hl : lookM (⟨id1, 0⟩ : Ref_) [((⟨id1, 0⟩ : Ref_), (⟨toO 1 5, 0⟩ : Coin_))] = some ⟨toO 1 5, 0⟩ := by simp [lookM]
  have ho : opensB (⟨[1], zeroS, 0, 0⟩ : Way_) [1] [] 1 (w64 (1 - 0)) = true := opensB_t ⟨fun k hk => hk, .inl rfl, by decide, by decide⟩
  have e2 : addF 0 [0, (toO 1 5).amount] = (5, 0) := by decide
  simp only [insF, hl]
  rw [if_neg (by
    rintro (h | h)
    · simp [toO] at h
    · have : (([] : List Int).length : Int) = 0 := rfl
      rw [show (toO 1 5).ways.getD (0 : Int).toNat wayZ = ⟨[1], zeroS, 0, 0⟩ from rfl, ho] at h
      exact absurd h (by decide)), if_pos (by rw [e2]), e2]
theorem sp_b (os : List Out_) (h : (os.flatMap outL).length < 2 ^ 30) : (bodyL true (sp os)).length < 2 ^ 38 := by
  have h1 := numI_len ((1 : Nat) : Int)
  have h5 := numI_len (os.length : Int)
  have h2 := inL_le ⟨⟨id1, 0⟩, 0, []⟩
  have h4 := opL_le opZ
  simp only [opZ, List.length_nil] at h4 h2
  show (bodyL true (tx1 os)).length < 2 ^ 38
  simp only [bodyL, tx1, opZ, List.flatMap_cons, List.flatMap_nil, List.append_nil, List.length_append, List.length_cons, List.length_nil, Nat.zero_add]
  omega
theorem sp_ok (os : List Out_) (h : os = [toO 2 4] ∨ os = []) : TxOk (sp os) := by
  have hL : ∀ o ∈ os, o.ways.length < 2 ^ 40 ∧ ∀ w ∈ o.ways, w.keys.length < 2 ^ 32 := by
    rcases h with h | h <;> subst h
    · intro o ho
      simp at ho; subst ho
      exact ⟨by simp [toO], fun w hw => by simp [toO] at hw; subst hw; simp⟩
    · intro o ho; simp at ho
  have hlen : os.length ≤ 1 := by rcases h with h | h <;> subst h <;> simp
  have hb : (os.flatMap outL).length < 2 ^ 30 := by
    rcases h with h | h <;> subst h
    · have := outL_to 2 4; simp only [List.flatMap_cons, List.flatMap_nil, List.append_nil]; omega
    · simp
  refine ⟨⟨fun y hy => ?_, ?_, ?_, ?_, ?_, fun o ho => ⟨(hL o ho).1, fun w hw => Nat.lt_trans ((hL o ho).2 w hw) (by decide)⟩⟩, sp_b os hb, fun o ho => (hL o ho).2, fun y hy => ?_⟩
  · simp [sp, signedT, tx1] at hy; subst hy; simp
  · simp [sp, signedT, tx1, opZ]
  · simp [sp, signedT, tx1]
  · show os.length < _; omega
  · simp [sp, signedT, tx1]
  · simp [sp, signedT, tx1] at hy; subst hy; simp
theorem sp_B (os : List Out_) (h : os = [toO 2 4] ∨ os = []) : txB (sp os) = true := by
  have hany : os.any badO = false := by
    rcases h with h | h <;> subst h
    · simp [badO, outB_to]
    · rfl
  have hlen : os.length ≤ 1 := by rcases h with h | h <;> subst h <;> simp
  have hp : txP (sp os) := by
    refine ⟨by simp [sp, signedT, tx1], by show os.length ≤ 16; omega, by simp [sp, signedT, tx1], ?_, by simp [sp, signedT, tx1], fun i hi _ => ?_, fun i hi _ => ?_, hany⟩
    · show opB op0 = true
      unfold opB
      rw [if_pos (show op0.kind = 0 from rfl)]
      simp [op0, eqB_yes]
    · have e : i = 0 := by simp [sp, signedT, tx1] at hi; omega
      subst e
      exact ⟨by show (0 : Int) ≤ 0 ∧ (0 : Int) < 16 ∧ (0 : Int) ≤ 0 ∧ (0 : Int) < 16 ∧ 0 ≤ 64; decide, by simp [sp, signedT, tx1]⟩
    · have e : i = 0 := by simp [sp, signedT, tx1] at hi; omega
      subst e
      exact ⟨by show (0 : Int) ≤ 1; decide, by show (1 : Int) ≤ 255; decide, fun h0 => absurd h0 (Nat.lt_irrefl 0)⟩
  have := txB_yes hp
  injection this with this
  injection this
/-- the ledger behind it -/
noncomputable def x1 : LS := applyS (sp [toO 2 4]) 1 1 [] [] x0
theorem x1_done : lookM (txS (sp [toO 2 4])) x1.done = some ⟨sp [toO 2 4], 1⟩ := by
  show lookM (txS (sp [toO 2 4])) (setM (txS (sp [toO 2 4])) _ _) = _
  rw [lookM_set, if_pos rfl]
theorem x1_fees : x1.fees = 1 := by show w64 (0 + 1) = 1; decide
theorem x1_tow : x1.towers = [] := rfl
theorem x1_coins : x1.coins = [(⟨txS (sp [toO 2 4]), 0⟩, ⟨toO 2 4, 1⟩)] := by
  show putAll (txS (sp [toO 2 4])) 1 [toO 2 4] 0 (delM ⟨id1, 0⟩ [(⟨id1, 0⟩, ⟨toO 1 5, 0⟩)]) = _
  have hd : delM (⟨id1, 0⟩ : Ref_) [((⟨id1, 0⟩ : Ref_), (⟨toO 1 5, 0⟩ : Coin_))] = [] := by simp [delM]
  rw [hd]
  simp only [putAll]
  rw [putL_nil (outB_to (by decide) (by decide) (by decide) (by decide)) (by decide) (by decide)]
  rfl
theorem x0_co : CoOk x0.coins := by
  intro p hp
  simp [x0] at hp
  subst hp
  exact ⟨by simp [toO], fun w hw => by simp [toO] at hw; subst hw; simp⟩
theorem x0_done (os : List Out_) (h : txS (tx1 os) ≠ id1) : lookM (txS (sp os)) x0.done = none := by
  rw [sp_id]
  show lookM (txS (tx1 os)) [(id1, _)] = none
  simp [lookM, h]
end Go.Proofs.YthfoeaokfhbdaaaGreat

/-
  The example comes to what it says; the law LedgerNobody.
-/
set_option linter.unusedSimpArgs false
set_option linter.unusedVariables false
set_option maxRecDepth 100000
set_option maxHeartbeats 4000000
namespace Go.Proofs.YthfoeaokfhbdaaaGreat
open Go Go.AL Go.Proofs.YthfoeaokfhbdaaaGreat.T
attribute [local go_sem] nb_u8s u8s_length nb_sum List.length_replicate zero_sum sum_h u8s_nil txA_good txA_csz txA_agg nb_tx sum_csz sum_agg sumA_good nb_ref refA_good refA_agg refA_csz outA_good outA_agg outA_csz nb_out1 nb_outs
theorem spSign (nx : Nat) :
    FnSpec Tryz.prog 8 nx [.agg 40 [.sl 35 [.agg 35 [.agg 33 [sumA id1, n64 0], n64 0, .sl 1 [] 1]] 1, .sl 2 [outA (toO 2 4)] 1, .agg 37 [n64 0, n64 0, n64 0, n64 0, sumA zeroS, .sl 1 [] 1], .sl 33 [] 1], .sl 1 [n64 1] 1] [] (txA (sp [toO 2 4])) [] 0 := by
  have h := signed_spec nx 1 (tx1 [toO 2 4]) 1 rfl (sp_b [toO 2 4] (by have := outL_to 2 4; simp only [List.flatMap_cons, List.flatMap_nil, List.append_nil]; omega)) (toO_keys 2 4 _ rfl) (.inl (by decide))
  refine h.le ?_
  refine ⟨_, _, rfl, ⟨_, rfl, _, _, rfl, ⟨_, _, rfl, ?_, .inr (.inl rfl)⟩, _, _, rfl, ⟨_, _, rfl, AV.les_refl _, .inr (.inl rfl)⟩, _, _, rfl, ⟨_, rfl, ?_⟩, AV.les_refl _⟩, AV.les_refl _⟩
  · exact ⟨_, _, rfl, ⟨_, rfl, _, _, rfl, AV.le_refl _, _, _, rfl, AV.le_refl _, _, _, rfl, ⟨_, _, rfl, AV.les_refl _, .inr (.inl rfl)⟩, rfl⟩, rfl⟩
  · exact ⟨_, _, rfl, AV.le_refl _, _, _, rfl, AV.le_refl _, _, _, rfl, AV.le_refl _, _, _, rfl, AV.le_refl _, _, _, rfl, AV.le_refl _, _, _, rfl, ⟨_, _, rfl, AV.les_refl _, .inr (.inl rfl)⟩, rfl⟩
theorem new1_spec (nx : Nat) : FnSpec Tryz.prog 68 nx [.sl 2 [outA (toO 1 5)] 1] [] (.tup [.ref (newN (nx + 88)).l 0 [], sumA id1, n64 0]) (ledH (newN (nx + 88)) x0) 4000 := by
  have h := newOk_spec nx 1 [toO 1 5] newE_1 (by simp) (fun o ho => by simp at ho; subst ho; exact ⟨by simp [toO], fun w hw => by simp [toO] at hw; subst hw; simp⟩) (by
    have h1 := numI_len ((1 : Nat) : Int)
    have h5 := numI_len ((0 : Nat) : Int)
    have h3 := outL_to 1 5
    have h4 := opL_le opZ
    simp only [opZ, List.length_nil] at h4
    simp only [bodyL, txO, opZ, List.flatMap_cons, List.flatMap_nil, List.append_nil, List.length_append, List.length_cons, List.length_nil, Nat.zero_add]
    omega) (.inl (by decide))
  rw [newS_1] at h
  exact h
theorem newN_add (N : Nat) : newN (N + 88) = ⟨N + 128, N + 168, N + 152, N + 216, N + 192, N + 200, N + 104, N + 112, N + 121⟩ := rfl
theorem ap1_spec (nx : Nat) (n : LN) (hn : n.ok nx) : FnSpec Tryz.prog 12 nx [.ref n.l 0 [], txA (sp [toO 2 4]), n64 1] (ledI n x0) (n64 0) (ledH (apN (nx + 408) n) x1) 3000 :=
  applyOk_spec nx n x0 (sp [toO 2 4]) 1 hn (sp_ok _ (.inl rfl)) (sp_B _ (.inl rfl)) (by decide) (by decide) x0_co (by show 1 < 2 ^ 40; decide) (x0_done _ id2_ne) 5 (sp_ins _) 0 0 [] [] (eff_none _ _ _ rfl) 5 (by decide) 1 (by show subF 5 [0, 4] = (1, 0); decide)
theorem lawake_spec (nx : Nat) : FnSpec Tryz.prog 18 nx [] [] (bA true) [] 0 := by
  have hto := fun nc k a => to_spec nc k a
  have hn0 := fun nc (q : nx + 400 ≤ nc) => (newN_ok (N := nx + 96 + 88) (nx := nc) (by omega))
  have h1 := ap1_spec (nx + 4400) (newN (nx + 96 + 88)) (hn0 _ (by omega))
  have hn1 := fun nc (q : nx + 7400 ≤ nc) => apN_ok (N := nx + 4808) (nc := nc) (hn0 (nx + 4400) (by omega)) (by omega) (by omega)
  have h2 := fun nc (q : nx + 7400 ≤ nc) => applyTwice_spec nc (apN (nx + 4808) (newN (nx + 96 + 88))) x1 (sp [toO 2 4]) 1 (hn1 nc q) (sp_ok _ (.inl rfl)) (sp_B _ (.inl rfl)) (by decide) (by decide) _ x1_done
  have h3 := fun nc (q : nx + 7400 ≤ nc) => lfees_spec nc (apN (nx + 4808) (newN (nx + 96 + 88))) x1 (hn1 nc q).l
  have h4 := fun nc (q : nx + 7400 ≤ nc) => lworth_one nc (apN (nx + 4808) (newN (nx + 96 + 88))) x1 _ (hn1 nc q) x1_coins (by decide)
  rw [x1_fees] at h3 h4
  have hw : w64 (w64 ((toO 2 4).amount + totT x1.towers) + 1) = 5 := by rw [x1_tow]; decide
  simp only [hw] at h4
  simp only [newN_add, apN, Nat.add_assoc, Nat.reduceAdd] at h1 h2 h3 h4
  simp only [ledI, ledH, ledA] at h1 h2 h3 h4
  refine FnSpec.of_code (cx := cx) (an := {}) (rs := [.tmp 0]) mo Tryz.func18 rfl rfl (by kernel_rfl) (by kernel_rfl) (by show 0 ≤ _; decide) (.inl rfl) (by simp [allWr, keys, Res.wr]) ?_
  repeat' (first | omega | assumption | (show AL.ahead _ _ _ = true; rfl) | refine brF (fun _ => ?_) (fun _ => ?_) | refine brT (fun _ => ?_) (fun _ => ?_) | refine brVF (fun _ => ?_) (fun _ => ?_) | refine brVT (fun _ => ?_) (fun _ => ?_) | (with_reducible refine And.intro ?_ ?_) | (refine callK_by (to_spec _ 1 5) ?_) | (simp -dsimp -implicitDefEqProofs only [go_sem, ↓reduceIte, Nat.reduceEqDiff, Nat.reduceAdd, Nat.reduceMul, Nat.reduceLeDiff, Nat.reduceLT, Nat.reduceBEq, Nat.reducePow, Int.reduceToNat, Int.reduceLE, Int.reduceLT, Int.reduceNeg, reduceCtorEq, Int.reduceEq, Int.reduceAdd, Int.reduceSub, Int.reduceMul, Nat.reduceSub]))
  refine callK_by (new1_spec _) ?_
  repeat' (first | omega | assumption | (show AL.ahead _ _ _ = true; rfl) | refine brF (fun _ => ?_) (fun _ => ?_) | refine brT (fun _ => ?_) (fun _ => ?_) | refine brVF (fun _ => ?_) (fun _ => ?_) | refine brVT (fun _ => ?_) (fun _ => ?_) | (with_reducible refine And.intro ?_ ?_) | (refine callK_by (to_spec _ 2 4) ?_) | (refine callK_by (spSign _) ?_) | (simp -dsimp -implicitDefEqProofs only [go_sem, ↓reduceIte, Nat.reduceEqDiff, Nat.reduceAdd, Nat.reduceMul, Nat.reduceLeDiff, Nat.reduceLT, Nat.reduceBEq, Nat.reducePow, Int.reduceToNat, Int.reduceLE, Int.reduceLT, Int.reduceNeg, reduceCtorEq, Int.reduceEq, Int.reduceAdd, Int.reduceSub, Int.reduceMul, Nat.reduceSub, newN, ledA]))
  refine callK_by h1 ?_
  repeat' (first | omega | assumption | (show AL.ahead _ _ _ = true; rfl) | refine brF (fun _ => ?_) (fun _ => ?_) | refine brT (fun _ => ?_) (fun _ => ?_) | refine brVF (fun _ => ?_) (fun _ => ?_) | refine brVT (fun _ => ?_) (fun _ => ?_) | (with_reducible refine And.intro ?_ ?_) | (simp -dsimp -implicitDefEqProofs only [go_sem, ↓reduceIte, Nat.reduceEqDiff, Nat.reduceAdd, Nat.reduceMul, Nat.reduceLeDiff, Nat.reduceLT, Nat.reduceBEq, Nat.reducePow, Int.reduceToNat, Int.reduceLE, Int.reduceLT, Int.reduceNeg, reduceCtorEq, Int.reduceEq, Int.reduceAdd, Int.reduceSub, Int.reduceMul, Nat.reduceSub]))
  refine callK_by (h2 _ (by omega)) ?_
  repeat' (first | omega | assumption | (show AL.ahead _ _ _ = true; rfl) | refine brF (fun _ => ?_) (fun _ => ?_) | refine brT (fun _ => ?_) (fun _ => ?_) | refine brVF (fun _ => ?_) (fun _ => ?_) | refine brVT (fun _ => ?_) (fun _ => ?_) | (with_reducible refine And.intro ?_ ?_) | (refine callK_by (h3 _ (by omega)) ?_) | (refine callK_by (h4 _ (by omega)) ?_) | (simp -dsimp -implicitDefEqProofs only [go_sem, ↓reduceIte, Nat.reduceEqDiff, Nat.reduceAdd, Nat.reduceMul, Nat.reduceLeDiff, Nat.reduceLT, Nat.reduceBEq, Nat.reducePow, Int.reduceToNat, Int.reduceLE, Int.reduceLT, Int.reduceNeg, reduceCtorEq, Int.reduceEq, Int.reduceAdd, Int.reduceSub, Int.reduceMul, Nat.reduceSub]))
  all_goals trace_state
def rT (r : Ref_) : Tx_ := ⟨[⟨r, 0, []⟩], [], op0, []⟩
theorem rSign (nx : Nat) (r : Ref_) :
    FnSpec Tryz.prog 8 nx [.agg 40 [.sl 35 [.agg 35 [refA r, n64 0, .sl 1 [] 1]] 1, .sl 2 [] 1, .agg 37 [n64 0, n64 0, n64 0, n64 0, sumA zeroS, .sl 1 [] 1], .sl 33 [] 1], .sl 1 [n64 1] 1] [] (txA (signedT (rT r) 1)) [] 0 := by
  have hb : (bodyL true (rT r)).length < 2 ^ 38 := by
    have h1 := numI_len ((1 : Nat) : Int)
    have h5 := numI_len ((0 : Nat) : Int)
    have h2 := inL_le ⟨r, 0, []⟩
    have h4 := opL_le op0
    simp only [op0, List.length_nil] at h4 h2
    simp only [bodyL, rT, op0, List.flatMap_cons, List.flatMap_nil, List.append_nil, List.length_append, List.length_cons, List.length_nil, Nat.zero_add]
    omega
  refine (signed_spec nx 1 (rT r) 1 rfl hb (fun o ho => by simp [rT] at ho) (.inl (by decide))).le ?_
  refine ⟨_, _, rfl, ⟨_, rfl, _, _, rfl, ⟨_, _, rfl, ?_, .inr (.inl rfl)⟩, _, _, rfl, ⟨_, _, rfl, AV.les_refl _, .inr (.inl rfl)⟩, _, _, rfl, ⟨_, rfl, ?_⟩, AV.les_refl _⟩, AV.les_refl _⟩
  · exact ⟨_, _, rfl, ⟨_, rfl, _, _, rfl, AV.le_refl _, _, _, rfl, AV.le_refl _, _, _, rfl, ⟨_, _, rfl, AV.les_refl _, .inr (.inl rfl)⟩, rfl⟩, rfl⟩
  · exact ⟨_, _, rfl, AV.le_refl _, _, _, rfl, AV.le_refl _, _, _, rfl, AV.le_refl _, _, _, rfl, AV.le_refl _, _, _, rfl, AV.le_refl _, _, _, rfl, ⟨_, _, rfl, AV.les_refl _, .inr (.inl rfl)⟩, rfl⟩
theorem lnobody_spec (nx : Nat) (r : Ref_) : FnSpec Tryz.prog 3 nx [refA r] [] (bA true) [] 0 := by
  have hj := fun nc => jkeyW_spec nc 0
  have e : w64 (100 + 0) = 100 := by decide
  rw [e] at hj
  have d1 := fun nc => ldone_nil nc r.tx
  have d2 := fun nc m (q : m < nc) => lspent_zero nc m r q
  have d3 := fun nc => lfacts_nil nc r.tx
  have d4 := fun nc => lapply_nil nc (signedT (rT r) 1) 1
  have d5 := fun nc m (q : m < nc) => lapply_zero nc m (signedT (rT r) 1) 1 q
  have hs := fun nc => rSign nc r
  have d6 := fun nc m (q : m < nc) => lorder_zero nc m q
  have d7 := fun nc m (q : m < nc) => lworth_zero nc m q
  simp only [optD, optS, spendA, facZ, refA, ledZ] at d1 d2 d3 hs
  simp only [ledZ] at d5 d6 d7
  have w0 : IntKind.i64.wrap 0 = 0 := by decide
  refine FnSpec.of_code (cx := cx) (an := {}) (rs := [.tmp 2]) mo Tryz.func3 rfl rfl (by kernel_rfl) (by kernel_rfl) (by show 1 ≤ _; decide) (.inl rfl) (by simp [allWr, keys, Res.wr]) ?_
  repeat' (first | omega | assumption | (show AL.ahead _ _ _ = true; rfl) | refine brF (fun _ => ?_) (fun _ => ?_) | refine brT (fun _ => ?_) (fun _ => ?_) | refine brVF (fun _ => ?_) (fun _ => ?_) | refine brVT (fun _ => ?_) (fun _ => ?_) | (with_reducible refine And.intro ?_ ?_) | (refine callK_by (hs _) ?_) | (refine callK_by (d1 _) ?_) | (refine callK_by (d3 _) ?_) | (refine callK_by (hj _) ?_) | (refine callK_by (d4 _) ?_) | (refine callK_by (lorder_nil _) ?_) | (refine callK_by (lfees_nil _) ?_) | (refine callK_by (lworth_nil _) ?_) | (refine callK_by (lclone_nil _) ?_) | (refine callK_by (lawake_spec _) ?_) | (refine callK_by (d2 _ (nx + 24) (by omega)) ?_) | (refine callK_by (d5 _ (nx + 24) (by omega)) ?_) | (refine callK_by (d6 _ (nx + 24) (by omega)) ?_) | (refine callK_by (d7 _ (nx + 24) (by omega)) ?_) | (simp -dsimp -implicitDefEqProofs only [go_sem, ↓reduceIte, Nat.reduceEqDiff, Nat.reduceAdd, Nat.reduceMul, Nat.reduceLeDiff, Nat.reduceLT, Nat.reduceBEq, Nat.reducePow, Int.reduceToNat, Int.reduceLE, Int.reduceLT, Int.reduceNeg, reduceCtorEq, Int.reduceEq, Int.reduceAdd, Int.reduceSub, Int.reduceMul, Nat.reduceSub, ledZ, refA, w0]))
  all_goals trace_state
end Go.Proofs.YthfoeaokfhbdaaaGreat

/-
  Chains: a new one; its height, its heads, how deep something lies.
-/
set_option linter.unusedSimpArgs false
set_option linter.unusedVariables false
set_option maxRecDepth 100000
set_option maxHeartbeats 2000000
namespace Go.Proofs.YthfoeaokfhbdaaaGreat
open Go Go.AL Go.Proofs.YthfoeaokfhbdaaaGreat.T
def headsA (l : List Head_) : List AV := l.map headA
theorem heads_len (l : List Head_) : (headsA l).length = l.length := by simp [headsA]
theorem heads_get {l : List Head_} {i : Nat} (h : i < l.length) : (headsA l).getD i .undef = headA l[i] := by
  simp [headsA, List.getD_eq_getElem?_getD, List.getElem?_map, List.getElem?_eq_getElem h]
theorem nb_heads {m : Nat} (l : List Head_) : AV.nbs m (headsA l) = True := by
  simp only [eq_iff_iff, iff_true]; exact nbs_map (fun s => by rw [nb_head]; trivial) l
def chA (l : Nat) (hs : List Head_) (th : Nat) (bs : List AV) (tb : Nat) : AV := .agg 3 [.ref l 0 [], .sl 66 (headsA hs) th, .sl 67 bs tb]
attribute [local go_sem] nb_u8s u8s_length nb_sum List.length_replicate zero_sum sum_h u8s_nil sums_len nb_sums sum_csz sum_agg sumA_good txA_good txA_csz txA_agg nb_tx nb_head headA_good headA_agg headA_csz heads_len nb_heads
section
variable (nx c l : Nat) (hs : List Head_) (th : Nat) (bs : List AV) (tb : Nat)
theorem cnone_spec (hc : c < nx) (hh : 0 < hs.length) : FnSpec Tryz.prog 76 nx [.ref c 0 []] [(c, some (.robj (chA l hs th bs tb)))] (bA false) [] 0 := by
  have x1 := ltF hc
  have e : ((hs.length : Int) = 0) = False := by simp only [eq_iff_iff, iff_false]; omega
  refine FnSpec.of_code (cx := cx) (an := {}) (rs := [.tmp 2]) mo Tryz.func76 rfl rfl (by kernel_rfl) (by kernel_rfl) (by show 1 ≤ _; decide) (.inl rfl) (by simp [allWr, keys, Res.wr]) ?_
  repeat' (first | omega | assumption | (show AL.ahead _ _ _ = true; rfl) | refine brF (fun _ => ?_) (fun _ => ?_) | refine brT (fun _ => ?_) (fun _ => ?_) | refine brVF (fun _ => ?_) (fun _ => ?_) | refine brVT (fun _ => ?_) (fun _ => ?_) | (with_reducible refine And.intro ?_ ?_) | (simp -dsimp -implicitDefEqProofs only [go_sem, ↓reduceIte, Nat.reduceEqDiff, Nat.reduceAdd, Nat.reduceMul, Nat.reduceLeDiff, Nat.reduceLT, Nat.reduceBEq, Nat.reducePow, Int.reduceToNat, Int.reduceLE, Int.reduceLT, Int.reduceNeg, reduceCtorEq, Int.reduceEq, Int.reduceAdd, Int.reduceSub, Int.reduceMul, Nat.reduceSub, x1, chA, e]))
  all_goals first | omega | trace_state
theorem cheight_spec (hc : c < nx) (hh : 0 < hs.length) (hl : hs.length < 2 ^ 40) : FnSpec Tryz.prog 29 nx [.ref c 0 []] [(c, some (.robj (chA l hs th bs tb)))] (n64 ((hs.length - 1 : Nat) : Int)) [] 0 := by
  have x1 := ltF hc
  have w1 : IntKind.i64.wrap ((hs.length : Int) - 1) = ((hs.length - 1 : Nat) : Int) := wrapE (by omega) (by omega)
  refine FnSpec.of_code (cx := cx) (an := {}) (rs := [.tmp 2]) mo Tryz.func29 rfl rfl (by kernel_rfl) (by kernel_rfl) (by show 1 ≤ _; decide) (.inl rfl) (by simp [allWr, keys, Res.wr]) ?_
  repeat' (first | omega | assumption | (show AL.ahead _ _ _ = true; rfl) | refine brF (fun _ => ?_) (fun _ => ?_) | refine brT (fun _ => ?_) (fun _ => ?_) | refine brVF (fun _ => ?_) (fun _ => ?_) | refine brVT (fun _ => ?_) (fun _ => ?_) | (with_reducible refine And.intro ?_ ?_) | (refine callK_by (cnone_spec _ c l hs th bs tb (by omega) hh) ?_) | (simp -dsimp -implicitDefEqProofs only [go_sem, ↓reduceIte, Nat.reduceEqDiff, Nat.reduceAdd, Nat.reduceMul, Nat.reduceLeDiff, Nat.reduceLT, Nat.reduceBEq, Nat.reducePow, Int.reduceToNat, Int.reduceLE, Int.reduceLT, Int.reduceNeg, reduceCtorEq, Int.reduceEq, Int.reduceAdd, Int.reduceSub, Int.reduceMul, Nat.reduceSub, x1, chA, w1]))
  all_goals first | rfl | trace_state
theorem chead_spec (hc : c < nx) (hh : 0 < hs.length) (hl : hs.length < 2 ^ 40) (i : Nat) (hi : i < hs.length) (ht : th < 2 ∨ th - 2 < nx) : FnSpec Tryz.prog 27 nx [.ref c 0 [], n64 i] [(c, some (.robj (chA l hs th bs tb)))] (.tup [headA hs[i], bA true]) [] 0 := by
  have x1 := ltF hc
  have q1 := heads_get hi
  have e1 : ¬ ((i : Int) < 0) := by omega
  have e2 : ¬ ((hs.length : Int) ≤ (i : Int)) := by omega
  refine FnSpec.of_code (cx := cx) (an := {}) (rs := [.cell 4 84, .tmp 5]) mo Tryz.func27 rfl rfl (by kernel_rfl) (by kernel_rfl) (by show 2 ≤ _; decide) (.inr ⟨_, rfl, by simp [AV.good, headA]⟩) (by simp [allWr, keys, Res.wr]) ?_
  repeat' (first | omega | assumption | (show AL.ahead _ _ _ = true; rfl) | refine brF (fun _ => ?_) (fun _ => ?_) | refine brT (fun _ => ?_) (fun _ => ?_) | refine brVF (fun _ => ?_) (fun _ => ?_) | refine brVT (fun _ => ?_) (fun _ => ?_) | (with_reducible refine And.intro ?_ ?_) | (refine callK_by (cnone_spec _ c l hs th bs tb (by omega) hh) ?_) | (simp -dsimp -implicitDefEqProofs only [go_sem, ↓reduceIte, Nat.reduceEqDiff, Nat.reduceAdd, Nat.reduceMul, Nat.reduceLeDiff, Nat.reduceLT, Nat.reduceBEq, Nat.reducePow, Int.reduceToNat, Int.reduceLE, Int.reduceLT, Int.reduceNeg, reduceCtorEq, Int.reduceEq, Int.reduceAdd, Int.reduceSub, Int.reduceMul, Nat.reduceSub, x1, chA, e1, e2, q1, ge_iff_le]))
  all_goals first | rfl | omega | trace_state
theorem ctip_spec (hc : c < nx) (hh : 0 < hs.length) (hl : hs.length < 2 ^ 40) (h : Head_) (hi : hs[hs.length - 1]? = some h) (ht : th < 2 ∨ th - 2 < nx) : FnSpec Tryz.prog 31 nx [.ref c 0 []] [(c, some (.robj (chA l hs th bs tb)))] (headA h) [] 0 := by
  have x1 := ltF hc
  have hlt : hs.length - 1 < hs.length := by omega
  have e : hs[hs.length - 1] = h := by rw [List.getElem?_eq_getElem hlt] at hi; injection hi
  have hhd := fun nc (q : nx ≤ nc) => chead_spec nc c l hs th bs tb (by omega) hh hl (hs.length - 1) hlt (by omega)
  rw [e] at hhd
  refine FnSpec.of_code (cx := cx) (an := {}) (rs := [.cell 2 84]) mo Tryz.func31 rfl rfl (by kernel_rfl) (by kernel_rfl) (by show 1 ≤ _; decide) (.inl rfl) (by simp [allWr, keys, Res.wr]) ?_
  repeat' (first | omega | assumption | (show AL.ahead _ _ _ = true; rfl) | refine brF (fun _ => ?_) (fun _ => ?_) | refine brT (fun _ => ?_) (fun _ => ?_) | refine brVF (fun _ => ?_) (fun _ => ?_) | refine brVT (fun _ => ?_) (fun _ => ?_) | (with_reducible refine And.intro ?_ ?_) | (refine callK_by (cheight_spec _ c l hs th bs tb (by omega) hh hl) ?_) | (refine callK_by (hhd _ (by omega)) ?_) | (simp -dsimp -implicitDefEqProofs only [go_sem, ↓reduceIte, Nat.reduceEqDiff, Nat.reduceAdd, Nat.reduceMul, Nat.reduceLeDiff, Nat.reduceLT, Nat.reduceBEq, Nat.reducePow, Int.reduceToNat, Int.reduceLE, Int.reduceLT, Int.reduceNeg, reduceCtorEq, Int.reduceEq, Int.reduceAdd, Int.reduceSub, Int.reduceMul, Nat.reduceSub, x1]))
  all_goals first | rfl | trace_state
theorem cdeep_spec (n : LN) (x : LS) (hn : n.ok nx) (hc : c < nx) (hh : 0 < hs.length) (hl : hs.length < 2 ^ 40) (hne : c ≠ n.l) (hnd : c ≠ n.d) (id : Sum) (d : Done_) (hd : lookM id x.done = some d) :
    FnSpec Tryz.prog 30 nx [.ref c 0 [], sumA id] [(c, some (.robj (chA n.l hs th bs tb))), (n.l, some (.robj (ledA n x))), (n.d, some (.rmp (donesE x.done)))] (n64 (w64 (w64 (((hs.length - 1 : Nat) : Int) - d.height) + 1))) [] 0 := by
  have x1 := ltF hc
  have xf := hn.xf
  have yf := hn.nf
  have y1 := neF hne
  have y2 := neF hnd
  have hdn := fun nc (q : nx ≤ nc) => ldone_spec nc n x id (hn.up q)
  rw [hd] at hdn
  simp only [optD, doneA, Option.isSome_some] at hdn
  refine FnSpec.of_code (cx := cx) (an := {}) (rs := [.tmp 4]) mo Tryz.func30 rfl rfl (by kernel_rfl) (by kernel_rfl) (by show 2 ≤ _; decide) (.inl rfl) (by simp [allWr, keys, Res.wr]) ?_
  repeat' (first | omega | assumption | (show AL.ahead _ _ _ = true; rfl) | refine brF (fun _ => ?_) (fun _ => ?_) | refine brT (fun _ => ?_) (fun _ => ?_) | refine brVF (fun _ => ?_) (fun _ => ?_) | refine brVT (fun _ => ?_) (fun _ => ?_) | (with_reducible refine And.intro ?_ ?_) | (refine callK_by (cnone_spec _ c n.l hs th bs tb (by omega) hh) ?_) | (refine callK_by (cheight_spec _ c n.l hs th bs tb (by omega) hh hl) ?_) | (refine callK_by (hdn _ (by omega)) ?_) | (simp -dsimp -implicitDefEqProofs only [go_sem, ↓reduceIte, Nat.reduceEqDiff, Nat.reduceAdd, Nat.reduceMul, Nat.reduceLeDiff, Nat.reduceLT, Nat.reduceBEq, Nat.reducePow, Int.reduceToNat, Int.reduceLE, Int.reduceLT, Int.reduceNeg, reduceCtorEq, Int.reduceEq, Int.reduceAdd, Int.reduceSub, Int.reduceMul, Nat.reduceSub, x1, xf, yf, y1, y2, chA]))
  all_goals first | rfl | trace_state
end
end Go.Proofs.YthfoeaokfhbdaaaGreat

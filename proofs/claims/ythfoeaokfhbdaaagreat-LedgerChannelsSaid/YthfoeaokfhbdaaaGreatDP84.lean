/-
  What a nil ledger, and the zero ledger, answer.
-/
import Derived.Test.YthfoeaokfhbdaaaGreatDP77
set_option linter.unusedSimpArgs false
set_option linter.unusedVariables false
set_option maxRecDepth 100000
set_option maxHeartbeats 2000000
namespace Go.Proofs.YthfoeaokfhbdaaaGreat
open Go Go.AL Go.Proofs.YthfoeaokfhbdaaaGreat.T
def ledZ : AV := .agg 6 [nilP, nilP, .val (.map none), .val (.map none), .sl 32 [] 1, n64 0]
attribute [local go_sem] nb_u8s u8s_length nb_sum List.length_replicate zero_sum sum_h u8s_nil txA_good txA_csz txA_agg nb_tx sum_csz sum_agg sumA_good nb_ref refA_good refA_agg refA_csz
theorem lnone_nil (nx : Nat) : FnSpec Tryz.prog 55 nx [nilP] [] (bA true) [] 0 := by
  refine FnSpec.of_code (cx := cx) (an := {}) (rs := [.tmp 2]) mo Tryz.func55 rfl rfl (by kernel_rfl) (by kernel_rfl) (by show 1 ≤ _; decide) (.inl rfl) (by simp [allWr, keys, Res.wr]) ?_
  repeat' (first | omega | assumption | (show AL.ahead _ _ _ = true; rfl) | refine brF (fun _ => ?_) (fun _ => ?_) | refine brT (fun _ => ?_) (fun _ => ?_) | refine brVF (fun _ => ?_) (fun _ => ?_) | refine brVT (fun _ => ?_) (fun _ => ?_) | (with_reducible refine And.intro ?_ ?_) | (simp -dsimp -implicitDefEqProofs only [go_sem, ↓reduceIte, Nat.reduceEqDiff, Nat.reduceAdd, Nat.reduceMul, Nat.reduceLeDiff, Nat.reduceLT, Nat.reduceBEq, Nat.reducePow, Int.reduceToNat, Int.reduceLE, Int.reduceLT, Int.reduceNeg, reduceCtorEq, Int.reduceEq, Int.reduceAdd, Int.reduceSub, Int.reduceMul, Nat.reduceSub]))
  all_goals trace_state
theorem lnone_zero (nx m : Nat) (hm : m < nx) : FnSpec Tryz.prog 55 nx [.ref m 0 []] [(m, some (.robj ledZ))] (bA true) [] 0 := by
  have x1 := ltF hm
  refine FnSpec.of_code (cx := cx) (an := {}) (rs := [.tmp 2]) mo Tryz.func55 rfl rfl (by kernel_rfl) (by kernel_rfl) (by show 1 ≤ _; decide) (.inl rfl) (by simp [allWr, keys, Res.wr]) ?_
  repeat' (first | omega | assumption | (show AL.ahead _ _ _ = true; rfl) | refine brF (fun _ => ?_) (fun _ => ?_) | refine brT (fun _ => ?_) (fun _ => ?_) | refine brVF (fun _ => ?_) (fun _ => ?_) | refine brVT (fun _ => ?_) (fun _ => ?_) | (with_reducible refine And.intro ?_ ?_) | (simp -dsimp -implicitDefEqProofs only [go_sem, ↓reduceIte, Nat.reduceEqDiff, Nat.reduceAdd, Nat.reduceMul, Nat.reduceLeDiff, Nat.reduceLT, Nat.reduceBEq, Nat.reducePow, Int.reduceToNat, Int.reduceLE, Int.reduceLT, Int.reduceNeg, reduceCtorEq, Int.reduceEq, Int.reduceAdd, Int.reduceSub, Int.reduceMul, Nat.reduceSub, x1, ledZ]))
  all_goals trace_state
theorem ldone_nil (nx : Nat) (id : Sum) : FnSpec Tryz.prog 9 nx [nilP, sumA id] [] (.tup [optD none, bA false]) [] 0 := by
  refine FnSpec.of_code (cx := cx) (an := {}) (rs := [.cell 4 46, .tmp 5]) mo Tryz.func9 rfl rfl (by kernel_rfl) (by kernel_rfl) (by show 2 ≤ _; decide) (.inr ⟨_, rfl, by simp [AV.good, optD, doneA]⟩) (by simp [allWr, keys, Res.wr]) ?_
  repeat' (first | omega | assumption | (show AL.ahead _ _ _ = true; rfl) | refine brF (fun _ => ?_) (fun _ => ?_) | refine brT (fun _ => ?_) (fun _ => ?_) | refine brVF (fun _ => ?_) (fun _ => ?_) | refine brVT (fun _ => ?_) (fun _ => ?_) | (with_reducible refine And.intro ?_ ?_) | (refine callK_by (lnone_nil _) ?_) | (simp -dsimp -implicitDefEqProofs only [go_sem, ↓reduceIte, Nat.reduceEqDiff, Nat.reduceAdd, Nat.reduceMul, Nat.reduceLeDiff, Nat.reduceLT, Nat.reduceBEq, Nat.reducePow, Int.reduceToNat, Int.reduceLE, Int.reduceLT, Int.reduceNeg, reduceCtorEq, Int.reduceEq, Int.reduceAdd, Int.reduceSub, Int.reduceMul, Nat.reduceSub, optD]))
  all_goals trace_state
theorem lspent_zero (nx m : Nat) (r : Ref_) (hm : m < nx) : FnSpec Tryz.prog 10 nx [.ref m 0 [], refA r] [(m, some (.robj ledZ))] (.tup [optS none, bA false]) [] 0 := by
  have x1 := ltF hm
  refine FnSpec.of_code (cx := cx) (an := {}) (rs := [.cell 4 50, .tmp 5]) mo Tryz.func10 rfl rfl (by kernel_rfl) (by kernel_rfl) (by show 2 ≤ _; decide) (.inr ⟨_, rfl, by simp [AV.good, optS, spendA]⟩) (by simp [allWr, keys, Res.wr]) ?_
  repeat' (first | omega | assumption | (show AL.ahead _ _ _ = true; rfl) | refine brF (fun _ => ?_) (fun _ => ?_) | refine brT (fun _ => ?_) (fun _ => ?_) | refine brVF (fun _ => ?_) (fun _ => ?_) | refine brVT (fun _ => ?_) (fun _ => ?_) | (with_reducible refine And.intro ?_ ?_) | (refine callK_by (lnone_zero _ m (by omega)) ?_) | (simp -dsimp -implicitDefEqProofs only [go_sem, ↓reduceIte, Nat.reduceEqDiff, Nat.reduceAdd, Nat.reduceMul, Nat.reduceLeDiff, Nat.reduceLT, Nat.reduceBEq, Nat.reducePow, Int.reduceToNat, Int.reduceLE, Int.reduceLT, Int.reduceNeg, reduceCtorEq, Int.reduceEq, Int.reduceAdd, Int.reduceSub, Int.reduceMul, Nat.reduceSub, x1, optS, spendA]))
  all_goals trace_state
/-- no facts -/
def facZ : AV := .agg 43 [.agg 40 [.sl 35 [] 1, .sl 2 [] 1, .agg 37 [n64 0, n64 0, n64 0, n64 0, sumA zeroS, .sl 1 [] 1], .sl 33 [] 1], n64 0, bA false, n64 0]
theorem lfacts_nil (nx : Nat) (id : Sum) : FnSpec Tryz.prog 11 nx [nilP, sumA id] [] (.tup [facZ, bA false]) [] 0 := by
  have hd := fun nc => ldone_nil nc id
  simp only [optD] at hd
  refine FnSpec.of_code (cx := cx) (an := {}) (rs := [.cell 4 54, .tmp 5]) mo Tryz.func11 rfl rfl (by kernel_rfl) (by kernel_rfl) (by show 2 ≤ _; decide) (.inr ⟨_, rfl, by simp [AV.good, facZ]⟩) (by simp [allWr, keys, Res.wr]) ?_
  repeat' (first | omega | assumption | (show AL.ahead _ _ _ = true; rfl) | refine brF (fun _ => ?_) (fun _ => ?_) | refine brT (fun _ => ?_) (fun _ => ?_) | refine brVF (fun _ => ?_) (fun _ => ?_) | refine brVT (fun _ => ?_) (fun _ => ?_) | (with_reducible refine And.intro ?_ ?_) | (refine callK_by (hd _) ?_) | (simp -dsimp -implicitDefEqProofs only [go_sem, ↓reduceIte, Nat.reduceEqDiff, Nat.reduceAdd, Nat.reduceMul, Nat.reduceLeDiff, Nat.reduceLT, Nat.reduceBEq, Nat.reducePow, Int.reduceToNat, Int.reduceLE, Int.reduceLT, Int.reduceNeg, reduceCtorEq, Int.reduceEq, Int.reduceAdd, Int.reduceSub, Int.reduceMul, Nat.reduceSub, facZ]))
  all_goals trace_state
theorem lapply_nil (nx : Nat) (t : Tx_) (h : Int) : FnSpec Tryz.prog 12 nx [nilP, txA t, n64 h] [] (n64 1) [] 0 := by
  refine FnSpec.of_code (cx := cx) (an := {}) (rs := [.tmp 6]) mo Tryz.func12 rfl rfl (by kernel_rfl) (by kernel_rfl) (by show 3 ≤ _; decide) (.inl rfl) (by simp [allWr, keys, Res.wr]) ?_
  repeat' (first | omega | assumption | (show AL.ahead _ _ _ = true; rfl) | refine brF (fun _ => ?_) (fun _ => ?_) | refine brT (fun _ => ?_) (fun _ => ?_) | refine brVF (fun _ => ?_) (fun _ => ?_) | refine brVT (fun _ => ?_) (fun _ => ?_) | (with_reducible refine And.intro ?_ ?_) | (refine callK_by (lnone_nil _) ?_) | (simp -dsimp -implicitDefEqProofs only [go_sem, ↓reduceIte, Nat.reduceEqDiff, Nat.reduceAdd, Nat.reduceMul, Nat.reduceLeDiff, Nat.reduceLT, Nat.reduceBEq, Nat.reducePow, Int.reduceToNat, Int.reduceLE, Int.reduceLT, Int.reduceNeg, reduceCtorEq, Int.reduceEq, Int.reduceAdd, Int.reduceSub, Int.reduceMul, Nat.reduceSub]))
  all_goals trace_state
theorem lapply_zero (nx m : Nat) (t : Tx_) (h : Int) (hm : m < nx) : FnSpec Tryz.prog 12 nx [.ref m 0 [], txA t, n64 h] [(m, some (.robj ledZ))] (n64 1) [] 0 := by
  have x1 := ltF hm
  refine FnSpec.of_code (cx := cx) (an := {}) (rs := [.tmp 6]) mo Tryz.func12 rfl rfl (by kernel_rfl) (by kernel_rfl) (by show 3 ≤ _; decide) (.inl rfl) (by simp [allWr, keys, Res.wr]) ?_
  repeat' (first | omega | assumption | (show AL.ahead _ _ _ = true; rfl) | refine brF (fun _ => ?_) (fun _ => ?_) | refine brT (fun _ => ?_) (fun _ => ?_) | refine brVF (fun _ => ?_) (fun _ => ?_) | refine brVT (fun _ => ?_) (fun _ => ?_) | (with_reducible refine And.intro ?_ ?_) | (refine callK_by (lnone_zero _ m (by omega)) ?_) | (simp -dsimp -implicitDefEqProofs only [go_sem, ↓reduceIte, Nat.reduceEqDiff, Nat.reduceAdd, Nat.reduceMul, Nat.reduceLeDiff, Nat.reduceLT, Nat.reduceBEq, Nat.reducePow, Int.reduceToNat, Int.reduceLE, Int.reduceLT, Int.reduceNeg, reduceCtorEq, Int.reduceEq, Int.reduceAdd, Int.reduceSub, Int.reduceMul, Nat.reduceSub, x1]))
  all_goals trace_state
theorem lorder_nil (nx : Nat) : FnSpec Tryz.prog 13 nx [nilP] [] (.sl 0 [] 1) [] 0 := by
  refine FnSpec.of_code (cx := cx) (an := {}) (rs := [.tmp 2]) mo Tryz.func13 rfl rfl (by kernel_rfl) (by kernel_rfl) (by show 1 ≤ _; decide) (.inl rfl) (by simp [allWr, keys, Res.wr]) ?_
  repeat' (first | omega | assumption | (show AL.ahead _ _ _ = true; rfl) | refine brF (fun _ => ?_) (fun _ => ?_) | refine brT (fun _ => ?_) (fun _ => ?_) | refine brVF (fun _ => ?_) (fun _ => ?_) | refine brVT (fun _ => ?_) (fun _ => ?_) | (with_reducible refine And.intro ?_ ?_) | (refine callK_by (lnone_nil _) ?_) | (simp -dsimp -implicitDefEqProofs only [go_sem, ↓reduceIte, Nat.reduceEqDiff, Nat.reduceAdd, Nat.reduceMul, Nat.reduceLeDiff, Nat.reduceLT, Nat.reduceBEq, Nat.reducePow, Int.reduceToNat, Int.reduceLE, Int.reduceLT, Int.reduceNeg, reduceCtorEq, Int.reduceEq, Int.reduceAdd, Int.reduceSub, Int.reduceMul, Nat.reduceSub]))
  all_goals trace_state
theorem lorder_zero (nx m : Nat) (hm : m < nx) : FnSpec Tryz.prog 13 nx [.ref m 0 []] [(m, some (.robj ledZ))] (.sl 0 [] 1) [] 0 := by
  have x1 := ltF hm
  refine FnSpec.of_code (cx := cx) (an := {}) (rs := [.tmp 2]) mo Tryz.func13 rfl rfl (by kernel_rfl) (by kernel_rfl) (by show 1 ≤ _; decide) (.inl rfl) (by simp [allWr, keys, Res.wr]) ?_
  repeat' (first | omega | assumption | (show AL.ahead _ _ _ = true; rfl) | refine brF (fun _ => ?_) (fun _ => ?_) | refine brT (fun _ => ?_) (fun _ => ?_) | refine brVF (fun _ => ?_) (fun _ => ?_) | refine brVT (fun _ => ?_) (fun _ => ?_) | (with_reducible refine And.intro ?_ ?_) | (refine callK_by (lnone_zero _ m (by omega)) ?_) | (simp -dsimp -implicitDefEqProofs only [go_sem, ↓reduceIte, Nat.reduceEqDiff, Nat.reduceAdd, Nat.reduceMul, Nat.reduceLeDiff, Nat.reduceLT, Nat.reduceBEq, Nat.reducePow, Int.reduceToNat, Int.reduceLE, Int.reduceLT, Int.reduceNeg, reduceCtorEq, Int.reduceEq, Int.reduceAdd, Int.reduceSub, Int.reduceMul, Nat.reduceSub, x1]))
  all_goals trace_state
theorem lfees_nil (nx : Nat) : FnSpec Tryz.prog 14 nx [nilP] [] (n64 0) [] 0 := by
  refine FnSpec.of_code (cx := cx) (an := {}) (rs := [.tmp 2]) mo Tryz.func14 rfl rfl (by kernel_rfl) (by kernel_rfl) (by show 1 ≤ _; decide) (.inl rfl) (by simp [allWr, keys, Res.wr]) ?_
  repeat' (first | omega | assumption | (show AL.ahead _ _ _ = true; rfl) | refine brF (fun _ => ?_) (fun _ => ?_) | refine brT (fun _ => ?_) (fun _ => ?_) | refine brVF (fun _ => ?_) (fun _ => ?_) | refine brVT (fun _ => ?_) (fun _ => ?_) | (with_reducible refine And.intro ?_ ?_) | (refine callK_by (lnone_nil _) ?_) | (simp -dsimp -implicitDefEqProofs only [go_sem, ↓reduceIte, Nat.reduceEqDiff, Nat.reduceAdd, Nat.reduceMul, Nat.reduceLeDiff, Nat.reduceLT, Nat.reduceBEq, Nat.reducePow, Int.reduceToNat, Int.reduceLE, Int.reduceLT, Int.reduceNeg, reduceCtorEq, Int.reduceEq, Int.reduceAdd, Int.reduceSub, Int.reduceMul, Nat.reduceSub]))
  all_goals trace_state
theorem lfees_spec (nx : Nat) (n : LN) (x : LS) (hv : n.l < nx) : FnSpec Tryz.prog 14 nx [.ref n.l 0 []] [(n.l, some (.robj (ledA n x)))] (n64 x.fees) [] 0 := by
  have x1 := ltF hv
  refine FnSpec.of_code (cx := cx) (an := {}) (rs := [.tmp 2]) mo Tryz.func14 rfl rfl (by kernel_rfl) (by kernel_rfl) (by show 1 ≤ _; decide) (.inl rfl) (by simp [allWr, keys, Res.wr]) ?_
  repeat' (first | omega | assumption | (show AL.ahead _ _ _ = true; rfl) | refine brF (fun _ => ?_) (fun _ => ?_) | refine brT (fun _ => ?_) (fun _ => ?_) | refine brVF (fun _ => ?_) (fun _ => ?_) | refine brVT (fun _ => ?_) (fun _ => ?_) | (with_reducible refine And.intro ?_ ?_) | (refine callK_by (lnone_spec _ n x (by omega)) ?_) | (simp -dsimp -implicitDefEqProofs only [go_sem, ↓reduceIte, Nat.reduceEqDiff, Nat.reduceAdd, Nat.reduceMul, Nat.reduceLeDiff, Nat.reduceLT, Nat.reduceBEq, Nat.reducePow, Int.reduceToNat, Int.reduceLE, Int.reduceLT, Int.reduceNeg, reduceCtorEq, Int.reduceEq, Int.reduceAdd, Int.reduceSub, Int.reduceMul, Nat.reduceSub, x1, ledA]))
  all_goals trace_state
theorem lworth_nil (nx : Nat) : FnSpec Tryz.prog 15 nx [nilP] [] (n64 0) [] 0 := by
  refine FnSpec.of_code (cx := cx) (an := {}) (rs := [.tmp 2]) mo Tryz.func15 rfl rfl (by kernel_rfl) (by kernel_rfl) (by show 1 ≤ _; decide) (.inl rfl) (by simp [allWr, keys, Res.wr]) ?_
  repeat' (first | omega | assumption | (show AL.ahead _ _ _ = true; rfl) | refine brF (fun _ => ?_) (fun _ => ?_) | refine brT (fun _ => ?_) (fun _ => ?_) | refine brVF (fun _ => ?_) (fun _ => ?_) | refine brVT (fun _ => ?_) (fun _ => ?_) | (with_reducible refine And.intro ?_ ?_) | (refine callK_by (lnone_nil _) ?_) | (simp -dsimp -implicitDefEqProofs only [go_sem, ↓reduceIte, Nat.reduceEqDiff, Nat.reduceAdd, Nat.reduceMul, Nat.reduceLeDiff, Nat.reduceLT, Nat.reduceBEq, Nat.reducePow, Int.reduceToNat, Int.reduceLE, Int.reduceLT, Int.reduceNeg, reduceCtorEq, Int.reduceEq, Int.reduceAdd, Int.reduceSub, Int.reduceMul, Nat.reduceSub]))
  all_goals trace_state
theorem lworth_zero (nx m : Nat) (hm : m < nx) : FnSpec Tryz.prog 15 nx [.ref m 0 []] [(m, some (.robj ledZ))] (n64 0) [] 0 := by
  have x1 := ltF hm
  refine FnSpec.of_code (cx := cx) (an := {}) (rs := [.tmp 2]) mo Tryz.func15 rfl rfl (by kernel_rfl) (by kernel_rfl) (by show 1 ≤ _; decide) (.inl rfl) (by simp [allWr, keys, Res.wr]) ?_
  repeat' (first | omega | assumption | (show AL.ahead _ _ _ = true; rfl) | refine brF (fun _ => ?_) (fun _ => ?_) | refine brT (fun _ => ?_) (fun _ => ?_) | refine brVF (fun _ => ?_) (fun _ => ?_) | refine brVT (fun _ => ?_) (fun _ => ?_) | (with_reducible refine And.intro ?_ ?_) | (refine callK_by (lnone_zero _ m (by omega)) ?_) | (simp -dsimp -implicitDefEqProofs only [go_sem, ↓reduceIte, Nat.reduceEqDiff, Nat.reduceAdd, Nat.reduceMul, Nat.reduceLeDiff, Nat.reduceLT, Nat.reduceBEq, Nat.reducePow, Int.reduceToNat, Int.reduceLE, Int.reduceLT, Int.reduceNeg, reduceCtorEq, Int.reduceEq, Int.reduceAdd, Int.reduceSub, Int.reduceMul, Nat.reduceSub, x1]))
  all_goals trace_state
theorem lclone_nil (nx : Nat) : FnSpec Tryz.prog 16 nx [nilP] [] nilP [] 0 := by
  refine FnSpec.of_code (cx := cx) (an := {}) (rs := [.tmp 2]) mo Tryz.func16 rfl rfl (by kernel_rfl) (by kernel_rfl) (by show 1 ≤ _; decide) (.inl rfl) (by simp [allWr, keys, Res.wr]) ?_
  repeat' (first | omega | assumption | (show AL.ahead _ _ _ = true; rfl) | refine brF (fun _ => ?_) (fun _ => ?_) | refine brT (fun _ => ?_) (fun _ => ?_) | refine brVF (fun _ => ?_) (fun _ => ?_) | refine brVT (fun _ => ?_) (fun _ => ?_) | (with_reducible refine And.intro ?_ ?_) | (refine callK_by (lnone_nil _) ?_) | (simp -dsimp -implicitDefEqProofs only [go_sem, ↓reduceIte, Nat.reduceEqDiff, Nat.reduceAdd, Nat.reduceMul, Nat.reduceLeDiff, Nat.reduceLT, Nat.reduceBEq, Nat.reducePow, Int.reduceToNat, Int.reduceLE, Int.reduceLT, Int.reduceNeg, reduceCtorEq, Int.reduceEq, Int.reduceAdd, Int.reduceSub, Int.reduceMul, Nat.reduceSub]))
  all_goals trace_state
theorem jkeyW_spec (nx : Nat) (n : Int) : FnSpec Tryz.prog 17 nx [n64 n] [] (n64 (w64 (100 + n))) [] 0 := by
  refine FnSpec.of_code (cx := cx) (an := {}) (rs := [.tmp 2]) mo Tryz.func17 rfl rfl (by kernel_rfl) (by kernel_rfl) (by show 1 ≤ _; decide) (.inl rfl) (by simp [allWr, keys, Res.wr]) ?_
  repeat' (first | omega | assumption | (show AL.ahead _ _ _ = true; rfl) | refine brF (fun _ => ?_) (fun _ => ?_) | refine brT (fun _ => ?_) (fun _ => ?_) | refine brVF (fun _ => ?_) (fun _ => ?_) | refine brVT (fun _ => ?_) (fun _ => ?_) | (with_reducible refine And.intro ?_ ?_) | (simp -dsimp -implicitDefEqProofs only [go_sem, ↓reduceIte, Nat.reduceEqDiff, Nat.reduceAdd, Nat.reduceMul, Nat.reduceLeDiff, Nat.reduceLT, Nat.reduceBEq, Nat.reducePow, Int.reduceToNat, Int.reduceLE, Int.reduceLT, Int.reduceNeg, reduceCtorEq, Int.reduceEq, Int.reduceAdd, Int.reduceSub, Int.reduceMul, Nat.reduceSub]))
  all_goals first | rfl | trace_state
end Go.Proofs.YthfoeaokfhbdaaaGreat

/-
  Ledgers: a transaction that comes.
-/
set_option linter.unusedSimpArgs false
set_option linter.unusedVariables false
set_option maxRecDepth 100000
set_option maxHeartbeats 4000000
namespace Go.Proofs.YthfoeaokfhbdaaaGreat
open Go Go.AL Go.Proofs.YthfoeaokfhbdaaaGreat.T
def amts (os : List Out_) : List Int := os.map (·.amount)
theorem amts_snoc (os : List Out_) (o : Out_) : amts (os ++ [o]) = amts os ++ [o.amount] := by simp [amts]
theorem amts_len (os : List Out_) : (amts os).length = os.length := by simp [amts]
theorem txB_P {t : Tx_} (h : txB t = true) : txP t := by unfold txB at h; exact @of_decide_eq_true _ (Classical.propDecidable _) h
theorem txB_way {t : Tx_} (h : txB t = true) : ∀ y ∈ t.ins, 0 ≤ y.way := by
  have hp := txB_P h
  intro y hy
  obtain ⟨i, hi, rfl⟩ := List.getElem_of_mem hy
  have := (hp.2.2.2.2.2.1 i hi hi).1
  simp only [inR] at this
  omega
/-- a ledger whose board is only read -/
abbrev ledI (n : LN) (x : LS) : Heap := [(n.l, some (.obj (ledA n x))), (n.v, some (.obj (.agg 1 [.map n.vm]))), (n.vm, some (.mp (coinsE x.coins))), (n.b, some (.robj (boardA n.tm n.hm))), (n.tm, some (.rmp (towsE x.towers))), (n.hm, some (.rmp (holdsE x.holds))), (n.d, some (.mp (donesE x.done))), (n.s, some (.mp (spentE x.spent))), (n.o, some (.tail x.order.length))]
/-- the names behind a transaction that came -/
def apN (nx : Nat) (n : LN) : LN := { n with b := nx + 112, tm := nx + 152, hm := nx + 192 }
theorem apN_ok {n : LN} {nx N nc : Nat} (hn : n.ok nx) (h : nx ≤ N) (h2 : N + 192 < nc) : (apN N n).ok nc := by
  obtain ⟨a1, a2, a3, a4, a5, a6, a7, a8, a9⟩ := hn.lt
  refine ⟨by simp only [apN]; omega, by simp only [apN]; omega, by simp only [apN]; omega, by simp only [apN]; omega, by simp only [apN]; omega, by simp only [apN]; omega, by simp only [apN]; omega, by simp only [apN]; omega, by simp only [apN]; omega, ?_⟩
  have xf := (hn.up h).xf
  have yf := hn.nf
  simp [apN, xf, yf]
attribute [local go_sem] nb_u8s u8s_length nb_sum List.length_replicate zero_sum sum_h nb_vals vals_len u8s_nil txA_good txA_csz txA_agg nb_tx tA_len tA_p1 tA_off1 iA_p0 iA_off0 nb_ref refA_good refA_agg refA_csz sum_csz sum_agg sumA_good nbK_ref nbK_sum nbK_int nbK_pair nbV_coin nbV_done nbV_spend nbV_tow nbV_hold kk_ref k1_ref kk_sum k1_sum ins_len nb_ins outs_len nb_outs spendA_good spendA_agg spendA_csz nb_spend o_some o_none Option.getD_some Option.getD_none Option.isSome_some Option.isSome_none sums_len nb_sums
theorem applyOk_spec (nx : Nat) (n : LN) (x : LS) (t : Tx_) (h : Int) (hn : n.ok nx) (ht : TxOk t) (hB : txB t = true) (h0 : 0 ≤ h) (h1 : h ≤ 1073741824) (hC : CoOk x.coins) (hord : x.order.length < 2 ^ 40)
    (hd : lookM (txS t) x.done = none) (have_ : Int) (hI : insF (keysF t t.signs) h x.coins 0 t.ins = (have_, 0)) (into from_ : Int) (ts : List (Int × Tw_)) (hs : List ((Int × Int) × Hold_)) (hE : EffSpec t h x into from_ 0 ts hs)
    (hav : Int) (hA : addF 0 [have_, from_] = (hav, 0)) (fee : Int) (hS : subF hav (into :: amts t.outs) = (fee, 0)) :
    FnSpec Tryz.prog 12 nx [.ref n.l 0 [], txA t, n64 h] (ledI n x) (n64 0) (ledH (apN (nx + 408) n) (applyS t h fee ts hs x)) 3000 := by
  have hap : ledH (apN (nx + 408) n) (applyS t h fee ts hs x) = [(n.l, some (.obj (ledA (apN (nx + 408) n) (applyS t h fee ts hs x)))), (n.v, some (.obj (.agg 1 [.map n.vm]))), (n.vm, some (.mp (coinsE (applyS t h fee ts hs x).coins))), (nx + 520, some (.obj (boardA (nx + 560) (nx + 600)))), (nx + 560, some (.mp (towsE ts))), (nx + 600, some (.mp (holdsE hs))), (n.d, some (.mp (donesE (applyS t h fee ts hs x).done))), (n.s, some (.mp (spentE (applyS t h fee ts hs x).spent))), (n.o, some (.tail (applyS t h fee ts hs x).order.length))] := rfl
  rw [hap]
  have xf := hn.xf
  have yf := hn.nf
  have hlt := hn.lt
  have b1 := hn.ne.2.1.1
  have htb := fun nc => txR_spec nc t ht.l
  rw [hB] at htb
  have hsm := fun nc => txSum_spec nc t ht.b ht.k
  have hcl := fun nc (q1 : n.b < nc) (q2 : n.tm < nc) (q3 : n.hm < nc) => bclone_spec nc n.b n.tm n.hm x.towers x.holds q1 q2 q3 hn.ne.2.2.2.1.1 hn.ne.2.2.2.1.2.1 hn.ne.2.2.2.2.1.1
  have hin := fun nc (q : nx ≤ nc) => ins_spec nc n x t h (hn.up q) ht.b ht.k ht.l.2.2.2.2.1 ht.l.2.2.1 (fun y hy => ⟨txB_way hB y hy, ht.p y hy⟩) (fun p hp => ⟨(hC p hp).1, fun w hw => Nat.lt_trans ((hC p hp).2 w hw) (by decide)⟩)
  rw [hI] at hin
  have hef := fun nc (q : nx + 700 ≤ nc) => hE nc n (nx + 520) (nx + 560) (nx + 600) (hn.up (by omega)) (by omega) (by omega) (by omega) ⟨by omega, by omega, by omega, by omega, by omega⟩
  have hlen := ht.l.2.2.2.1
  have hil := ht.l.2.2.1
  have hol := (txB_P hB).2.1
  refine FnSpec.of_code (cx := cx) (an := {tk := [(76, [([], 1)])]}) (rs := [.tmp 6]) mo Tryz.func12 rfl rfl (by kernel_rfl) (by kernel_rfl) (by show 3 ≤ _; decide) (.inl rfl) (by simp [allWr, keys, Res.wr]) ?_
  repeat' (first | omega | assumption | (show AL.ahead _ _ _ = true; rfl) | refine brF (fun _ => ?_) (fun _ => ?_) | refine brT (fun _ => ?_) (fun _ => ?_) | refine brVF (fun _ => ?_) (fun _ => ?_) | refine brVT (fun _ => ?_) (fun _ => ?_) | (with_reducible refine And.intro ?_ ?_) | (refine callK_by (lnone_spec _ n x (by omega)) ?_) | (refine callK_by (htb _) ?_) | (refine callK_by (hsm _) ?_) | (refine callK_by (hin _ (by omega)) ?_) | (refine callK_by (hcl _ (by omega) (by omega) (by omega)) ?_) | (refine callK_by (hef _ (by omega)) ?_) | (simp -dsimp -implicitDefEqProofs only [go_sem, ↓reduceIte, Nat.reduceEqDiff, Nat.reduceAdd, Nat.reduceMul, Nat.reduceLeDiff, Nat.reduceLT, Nat.reduceBEq, Nat.reducePow, Int.reduceToNat, Int.reduceLE, Int.reduceLT, Int.reduceNeg, reduceCtorEq, Int.reduceEq, Int.reduceAdd, Int.reduceSub, Int.reduceMul, Nat.reduceSub, xf, yf, ledA, hd, lookA_enc sumA_inj]))
  apply loop_keep [0, 2, 4, 7, 10, 12, 14, 78, 79] (fun p : { p : Nat // p ≤ t.outs.length } => [(15, .sl 1 (vals .i64 (into :: amts (t.outs.take p.1))) (nx + 831)), (80, n64 p.1)])
    (fun p => [(nx + 829, some (.tail (1 + p.1))), (nx + 520, some (.obj (boardA (nx + 560) (nx + 600)))), (nx + 560, some (.mp (towsE ts))), (nx + 600, some (.mp (holdsE hs))), (nx + 152, some (.obj (sumA (txS t)))), (n.l, some (.obj (ledA n x))), (n.v, some (.obj (.agg 1 [.map n.vm]))), (n.vm, some (.mp (coinsE x.coins))), (n.d, some (.mp (donesE x.done))), (n.s, some (.mp (spentE x.spent))), (n.o, some (.tail x.order.length))])
    (fun p => t.outs.length - p.1) ⟨0, Nat.zero_le _⟩
  · simp -dsimp -implicitDefEqProofs only [go_sem, ↓reduceIte, Nat.reduceEqDiff, Nat.reduceAdd, Nat.reduceMul, Nat.reduceLeDiff, Nat.reduceLT, Nat.reduceBEq, Nat.reducePow, Int.reduceToNat, Int.reduceLE, Int.reduceLT, Int.reduceNeg, reduceCtorEq, Int.reduceEq, Int.reduceAdd, Int.reduceSub, Int.reduceMul, Nat.reduceSub]; try rfl
  · simp -dsimp -implicitDefEqProofs only [go_sem, ↓reduceIte, Nat.reduceEqDiff, Nat.reduceAdd, Nat.reduceMul, Nat.reduceLeDiff, Nat.reduceLT, Nat.reduceBEq, Nat.reducePow, Int.reduceToNat, Int.reduceLE, Int.reduceLT, Int.reduceNeg, reduceCtorEq, Int.reduceEq, Int.reduceAdd, Int.reduceSub, Int.reduceMul, Nat.reduceSub]; try rfl
  · simp -dsimp -implicitDefEqProofs only [go_sem, ↓reduceIte, Nat.reduceEqDiff, Nat.reduceAdd, Nat.reduceMul, Nat.reduceLeDiff, Nat.reduceLT, Nat.reduceBEq, Nat.reducePow, Int.reduceToNat, Int.reduceLE, Int.reduceLT, Int.reduceNeg, reduceCtorEq, Int.reduceEq, Int.reduceAdd, Int.reduceSub, Int.reduceMul, Nat.reduceSub, xf, yf, ledA]; try rfl
  · intro s
    simp -dsimp -implicitDefEqProofs only [go_sem, ↓reduceIte, Nat.reduceEqDiff, Nat.reduceAdd, Nat.reduceMul, Nat.reduceLeDiff, Nat.reduceLT, Nat.reduceBEq, Nat.reducePow, Int.reduceToNat, Int.reduceLE, Int.reduceLT, Int.reduceNeg, reduceCtorEq, Int.reduceEq, Int.reduceAdd, Int.reduceSub, Int.reduceMul, Nat.reduceSub, ledA, boardA]
    try omega
  · rintro ⟨i, hi⟩
    have hi : i ≤ t.outs.length := hi
    simp -dsimp -implicitDefEqProofs only [go_sem, ↓reduceIte, Nat.reduceEqDiff, Nat.reduceAdd, Nat.reduceMul, Nat.reduceLeDiff, Nat.reduceLT, Nat.reduceBEq, Nat.reducePow, Int.reduceToNat, Int.reduceLE, Int.reduceLT, Int.reduceNeg, reduceCtorEq, Int.reduceEq, Int.reduceAdd, Int.reduceSub, Int.reduceMul, Nat.reduceSub]
    refine brT (fun hc => ?_) (fun hc => ?_)
    · have hi2 : i < t.outs.length := by omega
      have q1 := outs_get hi2
      have htk : t.outs.take (i + 1) = t.outs.take i ++ [t.outs[i]] := by rw [List.take_succ_eq_append_getElem hi2]
      have hva : vals .i64 (into :: amts (t.outs.take i)) ++ [n64 t.outs[i].amount] = vals .i64 (into :: amts (t.outs.take (i + 1))) := by rw [htk, amts_snoc]; simp [vals]
      have hln : (into :: amts (t.outs.take i)).length = 1 + i := by simp only [List.length_cons, amts_len, List.length_take]; omega
      have htn : 1 + i + 1 = 1 + (i + 1) := by omega
      generalize t.outs[i] = y at *
      have w1 : IntKind.i64.wrap ((i : Int) + 1) = ((i + 1 : Nat) : Int) := wrapE (by omega) (by omega)
      repeat' (first | omega | assumption | (show AL.ahead _ _ _ = true; rfl) | refine brF (fun _ => ?_) (fun _ => ?_) | refine brT (fun _ => ?_) (fun _ => ?_) | refine brVF (fun _ => ?_) (fun _ => ?_) | refine brVT (fun _ => ?_) (fun _ => ?_) | (with_reducible refine And.intro ?_ ?_) | (simp -dsimp -implicitDefEqProofs only [go_sem, ↓reduceIte, Nat.reduceEqDiff, Nat.reduceAdd, Nat.reduceMul, Nat.reduceLeDiff, Nat.reduceLT, Nat.reduceBEq, Nat.reducePow, Int.reduceToNat, Int.reduceLE, Int.reduceLT, Int.reduceNeg, reduceCtorEq, Int.reduceEq, Int.reduceAdd, Int.reduceSub, Int.reduceMul, Nat.reduceSub, q1, w1, outA, hva, hln, htn, xf, yf, List.append_eq, List.cons_append, List.nil_append]))
      all_goals first
        | exact ⟨⟨i + 1, hi2⟩, by show t.outs.length - (i + 1) < t.outs.length - i; omega, ⟨rfl, rfl⟩, rfl⟩
        | trace_state
    · have e : t.outs.take i = t.outs := List.take_of_length_le (by omega)
      have had := fun nc => add_spec nc [have_, from_] (by simp)
      simp only [vals, List.map_cons, List.map_nil] at had
      rw [hA] at had
      have hsb := fun nc (q : nx + 829 < nc) => sub_spec nc (nx + 831) hav (into :: amts t.outs) (by simp only [List.length_cons, amts_len]; omega) (by omega)
      rw [hS] at hsb
      obtain ⟨X, hX⟩ : ∃ X : Nat → LS, X = fun i => { x with coins := takeAll (t.ins.take i) x.coins, towers := ts, holds := hs, spent := spendAll (txS t) h (t.ins.take i) x.spent, fees := w64 (x.fees + fee) } := ⟨_, rfl⟩
      have hap2 : ∀ j, ledA (apN (nx + 408) n) (X j) = .agg 6 [.ref n.v 0 [], .ref (nx + 520) 0 [], .map n.d, .map n.s, .sl 32 (sumsA x.order) (n.o + 2), n64 (w64 (x.fees + fee))] := fun j => by rw [hX]; rfl
      have hx0 : X 0 = { x with towers := ts, holds := hs, fees := w64 (x.fees + fee) } := by rw [hX]; simp [takeAll, spendAll]
      repeat' (first | omega | assumption | (show AL.ahead _ _ _ = true; rfl) | refine brF (fun _ => ?_) (fun _ => ?_) | refine brT (fun _ => ?_) (fun _ => ?_) | refine brVF (fun _ => ?_) (fun _ => ?_) | refine brVT (fun _ => ?_) (fun _ => ?_) | (with_reducible refine And.intro ?_ ?_) | (refine callK_by (had _) ?_) | (refine callK_by (hsb _ (by omega)) ?_) | (simp -dsimp -implicitDefEqProofs only [go_sem, ↓reduceIte, Nat.reduceEqDiff, Nat.reduceAdd, Nat.reduceMul, Nat.reduceLeDiff, Nat.reduceLT, Nat.reduceBEq, Nat.reducePow, Int.reduceToNat, Int.reduceLE, Int.reduceLT, Int.reduceNeg, reduceCtorEq, Int.reduceEq, Int.reduceAdd, Int.reduceSub, Int.reduceMul, Nat.reduceSub, e, xf, yf, ledA]))
      apply loop_keep [0, 2, 4, 7, 123, 124] (fun p : { p : Nat // p ≤ t.ins.length } => [(125, n64 p.1)])
        (fun p => [(n.l, some (.obj (ledA (apN (nx + 408) n) (X p.1)))), (n.v, some (.obj (.agg 1 [.map n.vm]))), (n.vm, some (.mp (coinsE (takeAll (t.ins.take p.1) x.coins)))), (nx + 520, some (.obj (boardA (nx + 560) (nx + 600)))), (nx + 560, some (.mp (towsE ts))), (nx + 600, some (.mp (holdsE hs))), (n.d, some (.mp (donesE x.done))), (n.s, some (.mp (spentE (spendAll (txS t) h (t.ins.take p.1) x.spent)))), (n.o, some (.tail x.order.length)), (nx + 152, some (.obj (sumA (txS t))))])
        (fun p => t.ins.length - p.1) ⟨0, Nat.zero_le _⟩
      · simp -dsimp -implicitDefEqProofs only [go_sem, ↓reduceIte, Nat.reduceEqDiff, Nat.reduceAdd, Nat.reduceMul, Nat.reduceLeDiff, Nat.reduceLT, Nat.reduceBEq, Nat.reducePow, Int.reduceToNat, Int.reduceLE, Int.reduceLT, Int.reduceNeg, reduceCtorEq, Int.reduceEq, Int.reduceAdd, Int.reduceSub, Int.reduceMul, Nat.reduceSub]; try rfl
      · simp -dsimp -implicitDefEqProofs only [go_sem, ↓reduceIte, Nat.reduceEqDiff, Nat.reduceAdd, Nat.reduceMul, Nat.reduceLeDiff, Nat.reduceLT, Nat.reduceBEq, Nat.reducePow, Int.reduceToNat, Int.reduceLE, Int.reduceLT, Int.reduceNeg, reduceCtorEq, Int.reduceEq, Int.reduceAdd, Int.reduceSub, Int.reduceMul, Nat.reduceSub]; try rfl
      · simp -dsimp -implicitDefEqProofs only [go_sem, ↓reduceIte, Nat.reduceEqDiff, Nat.reduceAdd, Nat.reduceMul, Nat.reduceLeDiff, Nat.reduceLT, Nat.reduceBEq, Nat.reducePow, Int.reduceToNat, Int.reduceLE, Int.reduceLT, Int.reduceNeg, reduceCtorEq, Int.reduceEq, Int.reduceAdd, Int.reduceSub, Int.reduceMul, Nat.reduceSub, xf, yf, hap2, List.take_zero, takeAll, spendAll]; try rfl
      · intro s
        simp -dsimp -implicitDefEqProofs only [go_sem, ↓reduceIte, Nat.reduceEqDiff, Nat.reduceAdd, Nat.reduceMul, Nat.reduceLeDiff, Nat.reduceLT, Nat.reduceBEq, Nat.reducePow, Int.reduceToNat, Int.reduceLE, Int.reduceLT, Int.reduceNeg, reduceCtorEq, Int.reduceEq, Int.reduceAdd, Int.reduceSub, Int.reduceMul, Nat.reduceSub, hap2, boardA]
        try omega
      · rintro ⟨j, hj⟩
        have hj : j ≤ t.ins.length := hj
        simp -dsimp -implicitDefEqProofs only [go_sem, ↓reduceIte, Nat.reduceEqDiff, Nat.reduceAdd, Nat.reduceMul, Nat.reduceLeDiff, Nat.reduceLT, Nat.reduceBEq, Nat.reducePow, Int.reduceToNat, Int.reduceLE, Int.reduceLT, Int.reduceNeg, reduceCtorEq, Int.reduceEq, Int.reduceAdd, Int.reduceSub, Int.reduceMul, Nat.reduceSub]
        refine brT (fun hc2 => ?_) (fun hc2 => ?_)
        · have hj2 : j < t.ins.length := by omega
          have q1 := ins_get hj2
          have htk : t.ins.take (j + 1) = t.ins.take j ++ [t.ins[j]] := by rw [List.take_succ_eq_append_getElem hj2]
          have hta := takeAll_snoc t.ins[j] (t.ins.take j) x.coins
          have hsa := spendAll_snoc (txS t) h t.ins[j] (t.ins.take j) x.spent
          rw [← htk] at hta hsa
          generalize t.ins[j] = y at *
          have w1 : IntKind.i64.wrap ((j : Int) + 1) = ((j + 1 : Nat) : Int) := wrapE (by omega) (by omega)
          have hvt := fun nc (q1 : n.v < nc) (q2 : n.vm < nc) => vtake_spec nc n.v n.vm (takeAll (t.ins.take j) x.coins) y.ref q1 q2 b1
          have hset : setA (refA y.ref) (.agg 34 [sumA (txS t), n64 y.way, n64 h]) (spentE (spendAll (txS t) h (t.ins.take j) x.spent)) = spentE (spendAll (txS t) h (t.ins.take (j + 1)) x.spent) := by
            rw [hsa]; exact setA_enc (vA := spendA) refA_inj y.ref (⟨txS t, y.way, h⟩ : Spend_) _
          repeat' (first | omega | assumption | (show AL.ahead _ _ _ = true; rfl) | refine brF (fun _ => ?_) (fun _ => ?_) | refine brT (fun _ => ?_) (fun _ => ?_) | refine brVF (fun _ => ?_) (fun _ => ?_) | refine brVT (fun _ => ?_) (fun _ => ?_) | (with_reducible refine And.intro ?_ ?_) | (refine callK_by (hvt _ (by omega) (by omega)) ?_) | (simp -dsimp -implicitDefEqProofs only [go_sem, ↓reduceIte, Nat.reduceEqDiff, Nat.reduceAdd, Nat.reduceMul, Nat.reduceLeDiff, Nat.reduceLT, Nat.reduceBEq, Nat.reducePow, Int.reduceToNat, Int.reduceLE, Int.reduceLT, Int.reduceNeg, reduceCtorEq, Int.reduceEq, Int.reduceAdd, Int.reduceSub, Int.reduceMul, Nat.reduceSub, q1, w1, inA, hset, hap2, xf, yf]))
          all_goals first
            | exact ⟨⟨j + 1, hj2⟩, by show t.ins.length - (j + 1) < t.ins.length - j; omega, rfl, by rw [hta], rfl⟩
            | trace_state
        · have e2 : t.ins.take j = t.ins := List.take_of_length_le (by omega)
          obtain ⟨Y, hY⟩ : ∃ Y : LS, Y = { x with coins := takeAll t.ins x.coins, towers := ts, holds := hs, spent := spendAll (txS t) h t.ins x.spent, fees := w64 (x.fees + fee) } := ⟨_, rfl⟩
          have hXY : X j = Y := by rw [hX, hY]; simp only [e2]
          have hYc : Y.coins = takeAll t.ins x.coins := by rw [hY]
          have hYd : Y.done = x.done := by rw [hY]
          have hYo : Y.order = x.order := by rw [hY]
          have hYa : applyS t h fee ts hs x = comeS (txS t) t h Y := by rw [hY]; rfl
          have hYs : (comeS (txS t) t h Y).spent = spendAll (txS t) h t.ins x.spent := by rw [hY]; rfl
          have hcm : ∀ nc, nx + 700 ≤ nc → FnSpec Tryz.prog 63 nc [.ref n.l 0 [], sumA (txS t), txA t, n64 h] [(n.l, some (.obj (ledA (apN (nx + 408) n) Y))), (n.v, some (.robj (.agg 1 [.map n.vm]))), (n.vm, some (.mp (coinsE Y.coins))), (n.d, some (.mp (donesE Y.done))), (n.o, some (.tail Y.order.length))] (.tup [])
              [(n.l, some (.obj (ledA (apN (nx + 408) n) (comeS (txS t) t h Y)))), (n.vm, some (.mp (coinsE (comeS (txS t) t h Y).coins))), (n.d, some (.mp (donesE (comeS (txS t) t h Y).done))), (n.o, some (.tail (comeS (txS t) t h Y).order.length))] 0 :=
            fun nc q => come_spec nc (apN (nx + 408) n) Y (txS t) t h (apN_ok hn (by omega) (by omega)) hlen (fun o ho => ⟨(ht.l.2.2.2.2.2 o ho).1, (ht.l.2.2.2.2.2 o ho).2⟩) (by rw [hYo]; exact hord)
          rw [hYc, hYd, hYo] at hcm
          rw [hYa, hYs]
          generalize comeS (txS t) t h Y = Z at *
          repeat' (first | omega | assumption | (show AL.ahead _ _ _ = true; rfl) | refine brF (fun _ => ?_) (fun _ => ?_) | refine brT (fun _ => ?_) (fun _ => ?_) | refine brVF (fun _ => ?_) (fun _ => ?_) | refine brVT (fun _ => ?_) (fun _ => ?_) | (with_reducible refine And.intro ?_ ?_) | (refine callK_by (hcm _ (by omega)) ?_) | (simp -dsimp -implicitDefEqProofs only [go_sem, ↓reduceIte, Nat.reduceEqDiff, Nat.reduceAdd, Nat.reduceMul, Nat.reduceLeDiff, Nat.reduceLT, Nat.reduceBEq, Nat.reducePow, Int.reduceToNat, Int.reduceLE, Int.reduceLT, Int.reduceNeg, reduceCtorEq, Int.reduceEq, Int.reduceAdd, Int.reduceSub, Int.reduceMul, Nat.reduceSub, e2, hXY, xf, yf]))
          all_goals first | rfl | (simp only [apN]; omega) | (simp only [boardA, AV.nb, AV.nbs, and_true]; omega) | trace_state
/-- what came comes no more -/
theorem applyTwice_spec (nx : Nat) (n : LN) (x : LS) (t : Tx_) (h : Int) (hn : n.ok nx) (ht : TxOk t) (hB : txB t = true) (h0 : 0 ≤ h) (h1 : h ≤ 1073741824) (d : Done_) (hd : lookM (txS t) x.done = some d) :
    FnSpec Tryz.prog 12 nx [.ref n.l 0 [], txA t, n64 h] [(n.l, some (.robj (ledA n x))), (n.d, some (.rmp (donesE x.done)))] (n64 8) [] 0 := by
  have xf := hn.xf
  have yf := hn.nf
  have hlt := hn.lt
  have htb := fun nc => txR_spec nc t ht.l
  rw [hB] at htb
  have hsm := fun nc => txSum_spec nc t ht.b ht.k
  refine FnSpec.of_code (cx := cx) (an := {}) (rs := [.tmp 6]) mo Tryz.func12 rfl rfl (by kernel_rfl) (by kernel_rfl) (by show 3 ≤ _; decide) (.inl rfl) (by simp [allWr, keys, Res.wr]) ?_
  repeat' (first | omega | assumption | (show AL.ahead _ _ _ = true; rfl) | refine brF (fun _ => ?_) (fun _ => ?_) | refine brT (fun _ => ?_) (fun _ => ?_) | refine brVF (fun _ => ?_) (fun _ => ?_) | refine brVT (fun _ => ?_) (fun _ => ?_) | (with_reducible refine And.intro ?_ ?_) | (refine callK_by (lnone_spec _ n x (by omega)) ?_) | (refine callK_by (htb _) ?_) | (refine callK_by (hsm _) ?_) | (simp -dsimp -implicitDefEqProofs only [go_sem, ↓reduceIte, Nat.reduceEqDiff, Nat.reduceAdd, Nat.reduceMul, Nat.reduceLeDiff, Nat.reduceLT, Nat.reduceBEq, Nat.reducePow, Int.reduceToNat, Int.reduceLE, Int.reduceLT, Int.reduceNeg, reduceCtorEq, Int.reduceEq, Int.reduceAdd, Int.reduceSub, Int.reduceMul, Nat.reduceSub, xf, yf, ledA, hd, doneA, lookA_enc sumA_inj]))
  all_goals first | omega | trace_state
end Go.Proofs.YthfoeaokfhbdaaaGreat

/-
  The example: a first out, and what spends it.
-/
set_option linter.unusedSimpArgs false
set_option linter.unusedVariables false
set_option maxRecDepth 100000
set_option maxHeartbeats 2000000
namespace Go.Proofs.YthfoeaokfhbdaaaGreat
open Go Go.AL Go.Proofs.YthfoeaokfhbdaaaGreat.T
theorem badW_one {w : Way_} (h : wayP w) : badW [w] = false := by
  unfold badW idxW
  rw [if_pos (fun q hq => by simp at hq; subst hq; exact h)]
  decide
theorem wayP_to {k : Int} (h0 : 0 ≤ k) (h1 : k ≤ 255) : wayP ⟨[k], zeroS, 0, 0⟩ := by
  refine ⟨by simp, by simp, by simp, by simp, by simp, fun i hi => ?_⟩
  have : i = 0 := by simp at hi; omega
  subst this
  exact ⟨by simpa using h0, by simpa using h1, fun h => absurd h (Nat.lt_irrefl 0)⟩
theorem outB_to {k a : Int} (h0 : 0 ≤ k) (h1 : k ≤ 255) (h2 : 0 ≤ a) (h3 : a ≤ 1125899906842624) : outB (toO k a) = true := by
  unfold outB
  rw [show (toO k a).ways = [⟨[k], zeroS, 0, 0⟩] from rfl, badW_one (wayP_to h0 h1)]
  simp [toO, h2, h3]
noncomputable def x0 : LS := ⟨[(⟨id1, 0⟩, ⟨toO 1 5, 0⟩)], [], [], [(id1, ⟨txO [toO 1 5], 0⟩)], [], [id1], 0⟩
theorem putL_nil {r : Ref_} {o : Out_} {h : Int} (h1 : outB o = true) (h2 : 0 ≤ h) (h3 : h ≤ 1073741824) : putL r o h [] = [(r, ⟨o, h⟩)] := by
  rw [(putL_ok (l := []) h1 h2 h3 rfl).1]; rfl
theorem newS_1 : newS [toO 1 5] = x0 := by
  show comeS id1 (txO [toO 1 5]) 0 ⟨[], [], [], [], [], [], 0⟩ = x0
  simp only [comeS, txO, putAll, setM, List.nil_append]
  rw [putL_nil (outB_to (by decide) (by decide) (by decide) (by decide)) (by decide) (by decide)]
  rfl
theorem newE_1 : newE 0 [toO 1 5] = 0 := by
  have e1 : outB (toO 1 5) = true := outB_to (by decide) (by decide) (by decide) (by decide)
  have e2 : addF 0 [0, (toO 1 5).amount] = (5, 0) := by decide
  simp only [newE, e1, e2]
  decide
/-- what spends it -/
noncomputable def sp (os : List Out_) : Tx_ := signedT (tx1 os) 1
theorem sp_id (os : List Out_) : txS (sp os) = txS (tx1 os) := rfl
theorem sp_keys (os : List Out_) : keysF (sp os) (sp os).signs = [1] := by
  show keysF (sp os) [⟨1, txS (tx1 os)⟩] = [1]
  simp only [keysF]
  rw [if_pos (sp_id os).symm]
theorem sp_ins (os : List Out_) : insF (keysF (sp os) (sp os).signs) 1 x0.coins 0 (sp os).ins = (5, 0) := by
  rw [sp_keys]
  show insF [1] 1 [(⟨id1, 0⟩, ⟨toO 1 5, 0⟩)] 0 [⟨⟨id1, 0⟩, 0, []⟩] = (5, 0)
  have hl : lookM (⟨id1, 0⟩ : Ref_) [((⟨id1, 0⟩ : Ref_), (⟨toO 1 5, 0⟩ : Coin_))] = some ⟨toO 1 5, 0⟩ := by simp [lookM]
  have ho : opensB (⟨[1], zeroS, 0, 0⟩ : Way_) [1] [] 1 (w64 (1 - 0)) = true := opensB_t ⟨fun k hk => hk, .inl rfl, by decide, by decide⟩
  have e2 : addF 0 [0, (toO 1 5).amount] = (5, 0) := by decide
  simp only [insF, hl]
  rw [if_neg (by
    rintro (h | h)
    · simp [toO] at h
    · have : (([] : List Int).length : Int) = 0 := rfl
      rw [show (toO 1 5).ways.getD (0 : Int).toNat wayZ = ⟨[1], zeroS, 0, 0⟩ from rfl, ho] at h
      exact absurd h (by decide)), if_pos (by rw [e2]), e2]
theorem sp_b (os : List Out_) (h : (os.flatMap outL).length < 2 ^ 30) : (bodyL true (sp os)).length < 2 ^ 38 := by
  have h1 := numI_len ((1 : Nat) : Int)
  have h5 := numI_len (os.length : Int)
  have h2 := inL_le ⟨⟨id1, 0⟩, 0, []⟩
  have h4 := opL_le opZ
  simp only [opZ, List.length_nil] at h4 h2
  show (bodyL true (tx1 os)).length < 2 ^ 38
  simp only [bodyL, tx1, opZ, List.flatMap_cons, List.flatMap_nil, List.append_nil, List.length_append, List.length_cons, List.length_nil, Nat.zero_add]
  omega
theorem sp_ok (os : List Out_) (h : os = [toO 2 4] ∨ os = []) : TxOk (sp os) := by
  have hL : ∀ o ∈ os, o.ways.length < 2 ^ 40 ∧ ∀ w ∈ o.ways, w.keys.length < 2 ^ 32 := by
    rcases h with h | h <;> subst h
    · intro o ho
      simp at ho; subst ho
      exact ⟨by simp [toO], fun w hw => by simp [toO] at hw; subst hw; simp⟩
    · intro o ho; simp at ho
  have hlen : os.length ≤ 1 := by rcases h with h | h <;> subst h <;> simp
  have hb : (os.flatMap outL).length < 2 ^ 30 := by
    rcases h with h | h <;> subst h
    · have := outL_to 2 4; simp only [List.flatMap_cons, List.flatMap_nil, List.append_nil]; omega
    · simp
  refine ⟨⟨fun y hy => ?_, ?_, ?_, ?_, ?_, fun o ho => ⟨(hL o ho).1, fun w hw => Nat.lt_trans ((hL o ho).2 w hw) (by decide)⟩⟩, sp_b os hb, fun o ho => (hL o ho).2, fun y hy => ?_⟩
  · simp [sp, signedT, tx1] at hy; subst hy; simp
  · simp [sp, signedT, tx1, opZ]
  · simp [sp, signedT, tx1]
  · show os.length < _; omega
  · simp [sp, signedT, tx1]
  · simp [sp, signedT, tx1] at hy; subst hy; simp
theorem sp_B (os : List Out_) (h : os = [toO 2 4] ∨ os = []) : txB (sp os) = true := by
  have hany : os.any badO = false := by
    rcases h with h | h <;> subst h
    · simp [badO, outB_to]
    · rfl
  have hlen : os.length ≤ 1 := by rcases h with h | h <;> subst h <;> simp
  have hp : txP (sp os) := by
    refine ⟨by simp [sp, signedT, tx1], by show os.length ≤ 16; omega, by simp [sp, signedT, tx1], ?_, by simp [sp, signedT, tx1], fun i hi _ => ?_, fun i hi _ => ?_, hany⟩
    · show opB op0 = true
      unfold opB
      rw [if_pos (show op0.kind = 0 from rfl)]
      simp [op0, eqB_yes]
    · have e : i = 0 := by simp [sp, signedT, tx1] at hi; omega
      subst e
      exact ⟨by show (0 : Int) ≤ 0 ∧ (0 : Int) < 16 ∧ (0 : Int) ≤ 0 ∧ (0 : Int) < 16 ∧ 0 ≤ 64; decide, by simp [sp, signedT, tx1]⟩
    · have e : i = 0 := by simp [sp, signedT, tx1] at hi; omega
      subst e
      exact ⟨by show (0 : Int) ≤ 1; decide, by show (1 : Int) ≤ 255; decide, fun h0 => absurd h0 (Nat.lt_irrefl 0)⟩
  have := txB_yes hp
  injection this with this
  injection this
/-- the ledger behind it -/
noncomputable def x1 : LS := applyS (sp [toO 2 4]) 1 1 [] [] x0
theorem x1_done : lookM (txS (sp [toO 2 4])) x1.done = some ⟨sp [toO 2 4], 1⟩ := by
  show lookM (txS (sp [toO 2 4])) (setM (txS (sp [toO 2 4])) _ _) = _
  rw [lookM_set, if_pos rfl]
theorem x1_fees : x1.fees = 1 := by show w64 (0 + 1) = 1; decide
theorem x1_tow : x1.towers = [] := rfl
theorem x1_coins : x1.coins = [(⟨txS (sp [toO 2 4]), 0⟩, ⟨toO 2 4, 1⟩)] := by
  show putAll (txS (sp [toO 2 4])) 1 [toO 2 4] 0 (delM ⟨id1, 0⟩ [(⟨id1, 0⟩, ⟨toO 1 5, 0⟩)]) = _
  have hd : delM (⟨id1, 0⟩ : Ref_) [((⟨id1, 0⟩ : Ref_), (⟨toO 1 5, 0⟩ : Coin_))] = [] := by simp [delM]
  rw [hd]
  simp only [putAll]
  rw [putL_nil (outB_to (by decide) (by decide) (by decide) (by decide)) (by decide) (by decide)]
  rfl
theorem x0_co : CoOk x0.coins := by
  intro p hp
  simp [x0] at hp
  subst hp
  exact ⟨by simp [toO], fun w hw => by simp [toO] at hw; subst hw; simp⟩
theorem x0_done (os : List Out_) (h : txS (tx1 os) ≠ id1) : lookM (txS (sp os)) x0.done = none := by
  rw [sp_id]
  show lookM (txS (tx1 os)) [(id1, _)] = none
  simp [lookM, h]
end Go.Proofs.YthfoeaokfhbdaaaGreat

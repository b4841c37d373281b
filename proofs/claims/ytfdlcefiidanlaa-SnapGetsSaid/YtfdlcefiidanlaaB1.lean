/-
  snap: which worlds and acts may be put; numbers folded.
-/
import Derived.Test.YtfdlcefiidanlaaA6
import Derived.Test.YtfdlcefiidanlaaAL20
set_option linter.unusedSimpArgs false
set_option linter.unusedVariables false
set_option maxRecDepth 100000
set_option maxHeartbeats 4000000
namespace Go.Proofs.Ytfdlcefiidanlaa
open Go Go.AL Go.Proofs.Ytfdlcefiidanlaa.T

abbrev n64 (n : Int) : AV := .val (.int .i64 n)
structure Cfg where
  seed : Int
  client : Int
  peer : Int
  towers : Int
  leaves : Int
  bond : Int
  wait : Int
  window : Int
  late : Int
  sectors : Int
  reward : Int
  fee : Int
deriving DecidableEq
structure Act_ where
  kind : Int
  i : Int
  n : Int
  data : List UInt8
deriving DecidableEq
def cfgA (c : Cfg) : AV := .agg 12 [n64 c.seed, n64 c.client, n64 c.peer, n64 c.towers, n64 c.leaves, n64 c.bond, n64 c.wait, n64 c.window, n64 c.late, n64 c.sectors, .agg 2 [n64 c.reward, n64 c.fee]]
def actA (a : Act_) : AV := .agg 4 [n64 a.kind, n64 a.i, n64 a.n, .sl 1 (u8s a.data) 0]

def RightA (a : Act_) : Prop := 0 ≤ a.kind ∧ a.kind ≤ 255 ∧ 0 ≤ a.i ∧ a.i ≤ 1048576 ∧ -1125899906842624 ≤ a.n ∧ a.n ≤ 1125899906842624 ∧ a.data.length ≤ 65536
instance (a : Act_) : Decidable (RightA a) := by unfold RightA; infer_instance
def RightC (c : Cfg) : Prop := 0 ≤ c.client ∧ 0 ≤ c.peer ∧ c.client ≤ 1073741824 ∧ c.peer ≤ 1073741824 ∧ 1 ≤ IntKind.i64.wrap (c.client + c.peer) ∧ 0 ≤ c.towers ∧ c.towers ≤ 4 ∧ 1 ≤ c.leaves ∧ c.leaves ≤ 16 ∧
  1 ≤ c.bond ∧ c.bond ≤ 1073741824 ∧ 1 ≤ c.late ∧ c.late ≤ 8 ∧ IntKind.i64.wrap (2 * c.late) < c.window ∧ c.window < c.wait ∧ c.wait ≤ 64 ∧ 8 ≤ c.sectors ∧ c.sectors ≤ 16384 ∧ 0 ≤ c.reward ∧ c.reward ≤ 1000 ∧ 0 ≤ c.fee ∧ c.fee ≤ 1048576
instance (c : Cfg) : Decidable (RightC c) := by unfold RightC; infer_instance

theorem leafF {p : Prop} [Decidable p] (h : ¬ p) : AV.val (.bool false) = AV.val (.bool (decide p)) := by simp [h]
theorem leafT {p : Prop} [Decidable p] (h : p) : AV.val (.bool true) = AV.val (.bool (decide p)) := by simp [h]
theorem leafD {p q : Prop} [Decidable p] [Decidable q] (h : p ↔ q) : AV.val (.bool (decide p)) = AV.val (.bool (decide q)) := by simp [h]
--LOCAL: nb_vals, nb_u8s, vals_len, u8s_length, u8_cs, u8_gd, u8_ag, u8_nb
theorem sright_spec (nx : Nat) (a : Act_) : FnSpec Try.prog 21 nx [actA a] [] (.val (.bool (decide (RightA a)))) [] 0 := by
  refine FnSpec.of_code (cx := cx) (an := {}) (rs := [.tmp 2]) mo Try.func21 rfl rfl (by kernel_rfl) (by kernel_rfl) (by show 1 ≤ _; decide) (.inl rfl) (by simp [allWr, keys, Res.wr]) ?_
  simp -dsimp -implicitDefEqProofs only [B0, B1, B2, B3, B4, B5, B6, ↓ordOK_f, ↓ordOK_e, ↓ordCalls_f, ↓brB_tt, ↓brB_ff, ↓brB_tf, ↓brB_ft, ↓reduceIte, condWp, opSem, opSem0, tkOp, Out.tokV, retok1, constAV, binSem, unSem, intOp, strOp, loadSem, storeSem, fieldAddrSem, indexAddrSem, fieldSem, indexSem, lenSem, buildSem, buildSliceSem, appendSem, srcA, convSem, sliceSem, bndA, slTok, makeSliceSem, copySem, Res.obj?, cmpOK, cmpParts, tplace, Nat.reduceEqDiff, Nat.reduceAdd, Nat.reduceMul, Nat.reduceLeDiff, Nat.reduceLT, Nat.reduceBEq, Nat.reducePow, Int.reduceToNat, Int.reduceLE, Int.reduceLT, Int.reduceNeg, reduceCtorEq, cxP, ne_eq, forall_eq, forall_eq_or_imp, resOne, resA, implies_true, forall_const, eq_self, Int.reduceEq, Int.reduceAdd, Int.reduceSub, Int.reduceMul, Nat.reduceSub, Nat.le_add_right, t2, t3, t5, t34, t55, nb_vals, nb_u8s, vals_len, u8s_length, u8_cs, u8_gd, u8_ag, u8_nb, actA]
  repeat' (first | (refine brT (fun h => ?_) (fun h => ?_)) | (refine brF (fun h => ?_) (fun h => ?_)) | (simp -dsimp -implicitDefEqProofs only [B0, B1, B2, B3, B4, B5, B6, ↓ordOK_f, ↓ordOK_e, ↓ordCalls_f, ↓brB_tt, ↓brB_ff, ↓brB_tf, ↓brB_ft, ↓reduceIte, condWp, opSem, opSem0, tkOp, Out.tokV, retok1, constAV, binSem, unSem, intOp, strOp, loadSem, storeSem, fieldAddrSem, indexAddrSem, fieldSem, indexSem, lenSem, buildSem, buildSliceSem, appendSem, srcA, convSem, sliceSem, bndA, slTok, makeSliceSem, copySem, Res.obj?, cmpOK, cmpParts, tplace, Nat.reduceEqDiff, Nat.reduceAdd, Nat.reduceMul, Nat.reduceLeDiff, Nat.reduceLT, Nat.reduceBEq, Nat.reducePow, Int.reduceToNat, Int.reduceLE, Int.reduceLT, Int.reduceNeg, reduceCtorEq, cxP, ne_eq, forall_eq, forall_eq_or_imp, resOne, resA, implies_true, forall_const, eq_self, Int.reduceEq, Int.reduceAdd, Int.reduceSub, Int.reduceMul, Nat.reduceSub, Nat.le_add_right, t2, t3, t5, t34, t55, nb_vals, nb_u8s, vals_len, u8s_length, u8_cs, u8_gd, u8_ag, u8_nb, actA]))
  all_goals first | exact leafF (by unfold RightA; omega) | exact leafD (by unfold RightA; omega)
theorem lright_spec (nx : Nat) (a : Act_) : FnSpec Try.prog 20 nx [actA a] [] (.val (.bool (decide (RightA a)))) [] 0 := by
  refine FnSpec.of_code (cx := cx) (an := {}) (rs := [.tmp 2]) mo Try.func20 rfl rfl (by kernel_rfl) (by kernel_rfl) (by show 1 ≤ _; decide) (.inl rfl) (by simp [allWr, keys, Res.wr]) ?_
  simp -dsimp -implicitDefEqProofs only [B0, B1, B2, B3, B4, B5, B6, ↓ordOK_f, ↓ordOK_e, ↓ordCalls_f, ↓brB_tt, ↓brB_ff, ↓brB_tf, ↓brB_ft, ↓reduceIte, condWp, opSem, opSem0, tkOp, Out.tokV, retok1, constAV, binSem, unSem, intOp, strOp, loadSem, storeSem, fieldAddrSem, indexAddrSem, fieldSem, indexSem, lenSem, buildSem, buildSliceSem, appendSem, srcA, convSem, sliceSem, bndA, slTok, makeSliceSem, copySem, Res.obj?, cmpOK, cmpParts, tplace, Nat.reduceEqDiff, Nat.reduceAdd, Nat.reduceMul, Nat.reduceLeDiff, Nat.reduceLT, Nat.reduceBEq, Nat.reducePow, Int.reduceToNat, Int.reduceLE, Int.reduceLT, Int.reduceNeg, reduceCtorEq, cxP, ne_eq, forall_eq, forall_eq_or_imp, resOne, resA, implies_true, forall_const, eq_self, Int.reduceEq, Int.reduceAdd, Int.reduceSub, Int.reduceMul, Nat.reduceSub, Nat.le_add_right, t2, t3, t5, t34, t55, nb_vals, nb_u8s, vals_len, u8s_length, u8_cs, u8_gd, u8_ag, u8_nb, actA]
  repeat' (first | (refine brT (fun h => ?_) (fun h => ?_)) | (refine brF (fun h => ?_) (fun h => ?_)) | (simp -dsimp -implicitDefEqProofs only [B0, B1, B2, B3, B4, B5, B6, ↓ordOK_f, ↓ordOK_e, ↓ordCalls_f, ↓brB_tt, ↓brB_ff, ↓brB_tf, ↓brB_ft, ↓reduceIte, condWp, opSem, opSem0, tkOp, Out.tokV, retok1, constAV, binSem, unSem, intOp, strOp, loadSem, storeSem, fieldAddrSem, indexAddrSem, fieldSem, indexSem, lenSem, buildSem, buildSliceSem, appendSem, srcA, convSem, sliceSem, bndA, slTok, makeSliceSem, copySem, Res.obj?, cmpOK, cmpParts, tplace, Nat.reduceEqDiff, Nat.reduceAdd, Nat.reduceMul, Nat.reduceLeDiff, Nat.reduceLT, Nat.reduceBEq, Nat.reducePow, Int.reduceToNat, Int.reduceLE, Int.reduceLT, Int.reduceNeg, reduceCtorEq, cxP, ne_eq, forall_eq, forall_eq_or_imp, resOne, resA, implies_true, forall_const, eq_self, Int.reduceEq, Int.reduceAdd, Int.reduceSub, Int.reduceMul, Nat.reduceSub, Nat.le_add_right, t2, t3, t5, t34, t55, nb_vals, nb_u8s, vals_len, u8s_length, u8_cs, u8_gd, u8_ag, u8_nb, actA]))
  all_goals first | exact leafF (by unfold RightA; omega) | exact leafD (by unfold RightA; omega)
theorem la_cons {α : Type} (a : α) (l m : List α) : List.append (a :: l) m = a :: List.append l m := rfl
theorem la_nil {α : Type} (m : List α) : List.append [] m = m := rfl
theorem wright_spec (nx : Nat) (c : Cfg) : FnSpec Try.prog 19 nx [cfgA c] [] (.val (.bool (decide (RightC c)))) [] 0 := by
  refine FnSpec.of_code (cx := cx) (an := {}) (rs := [.tmp 2]) mo Try.func19 rfl rfl (by kernel_rfl) (by kernel_rfl) (by show 1 ≤ _; decide) (.inl rfl) (by simp [allWr, keys, Res.wr]) ?_
  simp -dsimp -implicitDefEqProofs only [B0, B1, B2, B3, B4, B5, B6, ↓ordOK_f, ↓ordOK_e, ↓ordCalls_f, ↓brB_tt, ↓brB_ff, ↓brB_tf, ↓brB_ft, ↓reduceIte, condWp, opSem, opSem0, tkOp, Out.tokV, retok1, constAV, binSem, unSem, intOp, strOp, loadSem, storeSem, fieldAddrSem, indexAddrSem, fieldSem, indexSem, lenSem, buildSem, buildSliceSem, appendSem, srcA, convSem, sliceSem, bndA, slTok, makeSliceSem, copySem, Res.obj?, cmpOK, cmpParts, tplace, Nat.reduceEqDiff, Nat.reduceAdd, Nat.reduceMul, Nat.reduceLeDiff, Nat.reduceLT, Nat.reduceBEq, Nat.reducePow, Int.reduceToNat, Int.reduceLE, Int.reduceLT, Int.reduceNeg, reduceCtorEq, cxP, ne_eq, forall_eq, forall_eq_or_imp, resOne, resA, implies_true, forall_const, eq_self, Int.reduceEq, Int.reduceAdd, Int.reduceSub, Int.reduceMul, Nat.reduceSub, Nat.le_add_right, t2, t3, t47, t49, nb_vals, nb_u8s, vals_len, u8s_length, u8_cs, u8_gd, u8_ag, u8_nb, cfgA, la_cons, la_nil]
  repeat' (first | (refine brT (fun h => ?_) (fun h => ?_)) | (refine brF (fun h => ?_) (fun h => ?_)) | (simp -dsimp -implicitDefEqProofs only [B0, B1, B2, B3, B4, B5, B6, ↓ordOK_f, ↓ordOK_e, ↓ordCalls_f, ↓brB_tt, ↓brB_ff, ↓brB_tf, ↓brB_ft, ↓reduceIte, condWp, opSem, opSem0, tkOp, Out.tokV, retok1, constAV, binSem, unSem, intOp, strOp, loadSem, storeSem, fieldAddrSem, indexAddrSem, fieldSem, indexSem, lenSem, buildSem, buildSliceSem, appendSem, srcA, convSem, sliceSem, bndA, slTok, makeSliceSem, copySem, Res.obj?, cmpOK, cmpParts, tplace, Nat.reduceEqDiff, Nat.reduceAdd, Nat.reduceMul, Nat.reduceLeDiff, Nat.reduceLT, Nat.reduceBEq, Nat.reducePow, Int.reduceToNat, Int.reduceLE, Int.reduceLT, Int.reduceNeg, reduceCtorEq, cxP, ne_eq, forall_eq, forall_eq_or_imp, resOne, resA, implies_true, forall_const, eq_self, Int.reduceEq, Int.reduceAdd, Int.reduceSub, Int.reduceMul, Nat.reduceSub, Nat.le_add_right, t2, t3, t47, t49, nb_vals, nb_u8s, vals_len, u8s_length, u8_cs, u8_gd, u8_ag, u8_nb, cfgA, la_cons, la_nil]))
  all_goals first | exact leafF (by unfold RightC; omega) | exact leafD (by unfold RightC; omega)
end Go.Proofs.Ytfdlcefiidanlaa

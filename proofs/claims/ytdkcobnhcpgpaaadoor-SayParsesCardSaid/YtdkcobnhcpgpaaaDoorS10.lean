/-
  say: acts cut, acts compared.
-/
import Derived.Test.YtdkcobnhcpgpaaaDoorS9
import Derived.Test.YtdkcobnhcpgpaaaDoorAL23
set_option linter.unusedSimpArgs false
set_option linter.unusedVariables false
set_option maxRecDepth 100000
set_option maxHeartbeats 4000000
namespace Go.Proofs.YtdkcobnhcpgpaaaDoor
open Go Go.AL Go.Proofs.YtdkcobnhcpgpaaaDoor.T

def cutA (a : Act_) : Act_ := { a with d := a.d.take 200 }
theorem u8s_take (l : List UInt8) (n : Nat) : (u8s l).take n = u8s (l.take n) := by simp [u8s, List.map_take]
theorem u8s_drop (l : List UInt8) (n : Nat) : (u8s l).drop n = u8s (l.drop n) := by simp [u8s, List.map_drop]

--LOCAL: txts_gc, nb_u8s, u8s_length, nb_txts, txts_length, mk_bstr, empty_bstr, bytesOf_u8s, bs_size, bs_app, bs_eq, bs_ext, u8_gc, isb6, actA, u8s_take, u8s_drop, List.drop_zero
theorem cut_spec (nx : Nat) (a : Act_) : FnSpec Tryd.prog 7 nx [actA a 0] [] (actA (cutA a) 0) [] 0 := by
  by_cases h : 200 < a.d.length
  · refine FnSpec.of_code (cx := cx) (an := {mt := [1]}) (rs := [.cell 2 24]) mo Tryd.func7 rfl rfl (by kernel_rfl) (by kernel_rfl) (by show 1 ≤ _; decide) (.inl rfl) (by simp [allWr, keys, Res.wr]) ?_
    repeat' (first | omega | assumption | refine brF (fun _ => ?_) (fun _ => ?_) | refine brT (fun _ => ?_) (fun _ => ?_) | refine brVF (fun _ => ?_) (fun _ => ?_) | refine brVT (fun _ => ?_) (fun _ => ?_) | (with_reducible refine And.intro ?_ ?_) | (simp -dsimp -implicitDefEqProofs only [B0, B1, B2, B3, B4, B5, B6, ↓ordOK_f, ↓ordOK_e, ↓ordCalls_f, ↓brB_tt, ↓brB_ff, ↓brB_tf, ↓brB_ft, ↓reduceIte, condWp, opSem, opSem0, tkOp, Out.tokV, retok1, constAV, binSem, unSem, intOp, strOp, loadSem, storeSem, fieldAddrSem, indexAddrSem, fieldSem, indexSem, lenSem, buildSem, buildSliceSem, appendSem, srcA, convSem, sliceSem, bndA, slTok, makeSliceSem, copySem, Res.obj?, cmpOK, cmpParts, tplace, Nat.reduceEqDiff, Nat.reduceAdd, Nat.reduceMul, Nat.reduceLeDiff, Nat.reduceLT, Nat.reduceBEq, Nat.reducePow, Int.reduceToNat, Int.reduceLE, Int.reduceLT, Int.reduceNeg, reduceCtorEq, cxP, ne_eq, forall_eq, forall_eq_or_imp, resOne, resA, implies_true, forall_const, eq_self, Int.reduceEq, Int.reduceAdd, Int.reduceSub, Int.reduceMul, Nat.reduceSub, Nat.le_add_right, Out.fg, fgA, t2, t3, t5, t22, t24, txts_gc, nb_u8s, u8s_length, nb_txts, txts_length, mk_bstr, empty_bstr, bytesOf_u8s, bs_size, bs_app, bs_eq, bs_ext, u8_gc, isb6, actA, u8s_take, u8s_drop, List.drop_zero]))
    rfl
  · have e : cutA a = a := by simp only [cutA, List.take_of_length_le (show a.d.length ≤ 200 by omega)]
    rw [e]
    refine FnSpec.of_code (cx := cx) (an := {mt := [1]}) (rs := [.cell 2 24]) mo Tryd.func7 rfl rfl (by kernel_rfl) (by kernel_rfl) (by show 1 ≤ _; decide) (.inl rfl) (by simp [allWr, keys, Res.wr]) ?_
    repeat' (first | omega | assumption | refine brF (fun _ => ?_) (fun _ => ?_) | refine brT (fun _ => ?_) (fun _ => ?_) | refine brVF (fun _ => ?_) (fun _ => ?_) | refine brVT (fun _ => ?_) (fun _ => ?_) | (with_reducible refine And.intro ?_ ?_) | (simp -dsimp -implicitDefEqProofs only [B0, B1, B2, B3, B4, B5, B6, ↓ordOK_f, ↓ordOK_e, ↓ordCalls_f, ↓brB_tt, ↓brB_ff, ↓brB_tf, ↓brB_ft, ↓reduceIte, condWp, opSem, opSem0, tkOp, Out.tokV, retok1, constAV, binSem, unSem, intOp, strOp, loadSem, storeSem, fieldAddrSem, indexAddrSem, fieldSem, indexSem, lenSem, buildSem, buildSliceSem, appendSem, srcA, convSem, sliceSem, bndA, slTok, makeSliceSem, copySem, Res.obj?, cmpOK, cmpParts, tplace, Nat.reduceEqDiff, Nat.reduceAdd, Nat.reduceMul, Nat.reduceLeDiff, Nat.reduceLT, Nat.reduceBEq, Nat.reducePow, Int.reduceToNat, Int.reduceLE, Int.reduceLT, Int.reduceNeg, reduceCtorEq, cxP, ne_eq, forall_eq, forall_eq_or_imp, resOne, resA, implies_true, forall_const, eq_self, Int.reduceEq, Int.reduceAdd, Int.reduceSub, Int.reduceMul, Nat.reduceSub, Nat.le_add_right, Out.fg, fgA, t2, t3, t5, t22, t24, txts_gc, nb_u8s, u8s_length, nb_txts, txts_length, mk_bstr, empty_bstr, bytesOf_u8s, bs_size, bs_app, bs_eq, bs_ext, u8_gc, isb6, actA, u8s_take, u8s_drop, List.drop_zero]))

theorem same_spec (nx u1 u2 : Nat) (a b : Act_) : FnSpec Tryd.prog 13 nx [actA a u1, actA b u2] [] (bA (decide (a = b))) [] 0 := by
  have e : (a = b) = (a.k = b.k ∧ a.i = b.i ∧ a.n = b.n ∧ a.d = b.d) := by cases a; cases b; simp
  refine FnSpec.of_code (cx := cx) (an := {}) (rs := [.tmp 4]) mo Tryd.func13 rfl rfl (by kernel_rfl) (by kernel_rfl) (by show 2 ≤ _; decide) (.inl rfl) (by simp [allWr, keys, Res.wr]) ?_
  repeat' (first | omega | assumption | refine brF (fun _ => ?_) (fun _ => ?_) | refine brT (fun _ => ?_) (fun _ => ?_) | refine brVF (fun _ => ?_) (fun _ => ?_) | refine brVT (fun _ => ?_) (fun _ => ?_) | (with_reducible refine And.intro ?_ ?_) | (simp -dsimp -implicitDefEqProofs only [B0, B1, B2, B3, B4, B5, B6, ↓ordOK_f, ↓ordOK_e, ↓ordCalls_f, ↓brB_tt, ↓brB_ff, ↓brB_tf, ↓brB_ft, ↓reduceIte, condWp, opSem, opSem0, tkOp, Out.tokV, retok1, constAV, binSem, unSem, intOp, strOp, loadSem, storeSem, fieldAddrSem, indexAddrSem, fieldSem, indexSem, lenSem, buildSem, buildSliceSem, appendSem, srcA, convSem, sliceSem, bndA, slTok, makeSliceSem, copySem, Res.obj?, cmpOK, cmpParts, tplace, Nat.reduceEqDiff, Nat.reduceAdd, Nat.reduceMul, Nat.reduceLeDiff, Nat.reduceLT, Nat.reduceBEq, Nat.reducePow, Int.reduceToNat, Int.reduceLE, Int.reduceLT, Int.reduceNeg, reduceCtorEq, cxP, ne_eq, forall_eq, forall_eq_or_imp, resOne, resA, implies_true, forall_const, eq_self, Int.reduceEq, Int.reduceAdd, Int.reduceSub, Int.reduceMul, Nat.reduceSub, Nat.le_add_right, Out.fg, fgA, t2, t3, t5, t9, t22, t24, txts_gc, nb_u8s, u8s_length, nb_txts, txts_length, mk_bstr, empty_bstr, bytesOf_u8s, bs_size, bs_app, bs_eq, bs_ext, u8_gc, isb6, actA, u8s_take, u8s_drop, List.drop_zero]))
  all_goals (simp only [bA, e]; congr 2; simp_all)
end Go.Proofs.YtdkcobnhcpgpaaaDoor

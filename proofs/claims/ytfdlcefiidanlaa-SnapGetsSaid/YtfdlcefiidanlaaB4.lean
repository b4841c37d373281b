/-
  snap.Get, for every input.
-/
import Derived.Test.YtfdlcefiidanlaaB2
import Derived.Test.YtfdlcefiidanlaaB3
set_option linter.unusedSimpArgs false
set_option linter.unusedVariables false
set_option maxRecDepth 100000
set_option maxHeartbeats 4000000
namespace Go.Proofs.Ytfdlcefiidanlaa
open Go Go.AL Go.Proofs.Ytfdlcefiidanlaa.T

def zeroC : Cfg := ⟨0, 0, 0, 0, 0, 0, 0, 0, 0, 0, 0, 0⟩
def headS (b : List UInt8) : Cfg × Int × ES :=
  let p1 := uptoS ⟨b, 0⟩ 1048576
  let p2 := numS p1.2
  let p3 := numS p2.2
  let p4 := numS p3.2
  let p5 := numS p4.2
  let p6 := numS p5.2
  let p7 := numS p6.2
  let p8 := numS p7.2
  let p9 := numS p8.2
  let p10 := numS p9.2
  let p11 := numS p10.2
  let p12 := numS p11.2
  let p13 := uptoS p12.2 1024
  (⟨p1.1, p2.1, p3.1, p4.1, p5.1, p6.1, p7.1, p8.1, p9.1, p10.1, p11.1, p12.1⟩, p13.1, p13.2)
def actS (s : ES) : Act_ × ES :=
  let p1 := uptoS s 255
  let p2 := uptoS p1.2 1048576
  let p3 := uptoS p2.2 2251799813685248
  let p4 := textS p3.2 65536
  (⟨p1.1, p2.1, unfoldI p3.1, p4.1⟩, p4.2)
def listS : Nat → ES → List Act_ → List Act_ × ES
  | 0, s, l => (l, s)
  | k + 1, s, l => if (actS s).2.e = 0 then listS k (actS s).2 (l ++ [(actS s).1]) else (l, (actS s).2)
/-- what Get tells -/
def getS (b : List UInt8) : Cfg × List Act_ × Int :=
  let h := headS b
  let q := listS h.2.1.toNat h.2.2 []
  if doneS q.2 = 0 then (if RightC h.1 then (h.1, q.1, 0) else (zeroC, [], 4)) else (zeroC, [], doneS q.2)
theorem uptoS_le (s : ES) (m : Int) (hm : 0 ≤ m) : (uptoS s m).1 ≤ m ∧ 0 ≤ (uptoS s m).1 := by
  simp only [uptoS]
  split <;> split <;> rename_i h1 h2
  · simp only [failS] at h2
    split at h2
    · simp at h2
    · contradiction
  · exact ⟨hm, by simp⟩
  · simp only; omega
  · exact ⟨hm, by simp⟩
theorem actS_len (s : ES) : (actS s).2.b.length ≤ s.b.length := by
  simp only [actS]
  exact Nat.le_trans (textS_len _ _) (Nat.le_trans (uptoS_len _ _) (Nat.le_trans (uptoS_len _ _) (uptoS_len _ _)))

--LOCAL: nb_vals, nb_u8s, vals_len, u8s_length, u8_cs, u8_gd, u8_ag, u8_nb, nb_eye, nb_acts
theorem acts_snoc (l : List Act_) (k i n : Int) (d : List UInt8) : actsA l ++ [AV.agg 4 [n64 k, n64 i, n64 n, .sl 1 (u8s d) 0]] = actsA (l ++ [⟨k, i, n, d⟩]) := by simp [actsA, actA]
theorem listS_len : ∀ (k : Nat) (s : ES) (l : List Act_), (listS k s l).1.length ≤ l.length + k
  | 0, s, l => Nat.le_refl _
  | k + 1, s, l => by
    simp only [listS]
    split
    · have := listS_len k (actS s).2 (l ++ [(actS s).1]); simp at this ⊢; omega
    · simp

theorem get_walk (nx : Nat) (b : List UInt8) (y : AV) (wr : Heap) (hb : b.length < 2 ^ 40) (hy : y.good = true)
    (hok : (getS b).2.2 = 0 → y = .sl 4 (actsA (getS b).2.1) (nx + 460) ∧ wr = [(nx + 458, some (.tail (getS b).2.1.length))]) (hbad : (getS b).2.2 ≠ 0 → y = .sl 0 [] 1 ∧ wr = []) :
    FnSpec Try.prog 24 nx [.sl 1 (u8s b) 0] [] (.tup [cfgA (getS b).1, y, n64 (getS b).2.2]) wr 459 := by
  have hgood : ∀ x ∈ [cfgA (getS b).1, y, n64 (getS b).2.2], x = .undef ∨ x.good = true := by
    intro x hx
    simp only [List.mem_cons, List.not_mem_nil, or_false] at hx
    rcases hx with rfl | rfl | rfl
    · exact .inr rfl
    · exact .inr hy
    · exact .inr rfl
  refine FnSpec.of_code (cx := cx) (an := {tk := [(7, [([], 4)])], cut := [0]}) (rs := [.cell 2 49, .tmp 3, .tmp 4]) mo Try.func24 rfl rfl (by kernel_rfl) (by kernel_rfl) (by show 1 ≤ _; decide) (.inr ⟨_, rfl, hgood⟩) (by simp [allWr, keys, Res.wr]) ?_
  simp -dsimp -implicitDefEqProofs only [B0, B1, B2, B3, B4, B5, B6, ↓ordOK_f, ↓ordOK_e, ↓ordCalls_f, ↓brB_tt, ↓brB_ff, ↓brB_tf, ↓brB_ft, ↓reduceIte, condWp, opSem, opSem0, tkOp, Out.tokV, retok1, constAV, binSem, unSem, intOp, strOp, loadSem, storeSem, fieldAddrSem, indexAddrSem, fieldSem, indexSem, lenSem, buildSem, buildSliceSem, appendSem, srcA, convSem, sliceSem, bndA, slTok, makeSliceSem, copySem, Res.obj?, cmpOK, cmpParts, tplace, Nat.reduceEqDiff, Nat.reduceAdd, Nat.reduceMul, Nat.reduceLeDiff, Nat.reduceLT, Nat.reduceBEq, Nat.reducePow, Int.reduceToNat, Int.reduceLE, Int.reduceLT, Int.reduceNeg, reduceCtorEq, cxP, ne_eq, forall_eq, forall_eq_or_imp, resOne, resA, implies_true, forall_const, eq_self, Int.reduceEq, Int.reduceAdd, Int.reduceSub, Int.reduceMul, Nat.reduceSub, Nat.le_add_right, t2, t3, t4, t5, t24, t34, t47, t49, t50, t55, t75, nb_vals, nb_u8s, vals_len, u8s_length, u8_cs, u8_gd, u8_ag, u8_nb, nb_eye, nb_acts]
  refine callK_by (look_spec _ b) ?_
  simp -dsimp -implicitDefEqProofs only [B0, B1, B2, B3, B4, B5, B6, ↓ordOK_f, ↓ordOK_e, ↓ordCalls_f, ↓brB_tt, ↓brB_ff, ↓brB_tf, ↓brB_ft, ↓reduceIte, condWp, opSem, opSem0, tkOp, Out.tokV, retok1, constAV, binSem, unSem, intOp, strOp, loadSem, storeSem, fieldAddrSem, indexAddrSem, fieldSem, indexSem, lenSem, buildSem, buildSliceSem, appendSem, srcA, convSem, sliceSem, bndA, slTok, makeSliceSem, copySem, Res.obj?, cmpOK, cmpParts, tplace, Nat.reduceEqDiff, Nat.reduceAdd, Nat.reduceMul, Nat.reduceLeDiff, Nat.reduceLT, Nat.reduceBEq, Nat.reducePow, Int.reduceToNat, Int.reduceLE, Int.reduceLT, Int.reduceNeg, reduceCtorEq, cxP, ne_eq, forall_eq, forall_eq_or_imp, resOne, resA, implies_true, forall_const, eq_self, Int.reduceEq, Int.reduceAdd, Int.reduceSub, Int.reduceMul, Nat.reduceSub, Nat.le_add_right, t2, t3, t4, t5, t24, t34, t47, t49, t50, t55, t75, nb_vals, nb_u8s, vals_len, u8s_length, u8_cs, u8_gd, u8_ag, u8_nb, nb_eye, nb_acts]
  refine callK_by (upto_spec _ (nx + 72) ⟨b, 0⟩ 1048576 (by omega) hb) ?_
  have g1 := uptoS_len ⟨b, 0⟩ 1048576
  generalize h1 : uptoS ⟨b, 0⟩ 1048576 = p1 at *
  obtain ⟨v1, s1⟩ := p1
  simp only at g1
  repeat' (first | (simp -dsimp -implicitDefEqProofs only [B0, B1, B2, B3, B4, B5, B6, ↓ordOK_f, ↓ordOK_e, ↓ordCalls_f, ↓brB_tt, ↓brB_ff, ↓brB_tf, ↓brB_ft, ↓reduceIte, condWp, opSem, opSem0, tkOp, Out.tokV, retok1, constAV, binSem, unSem, intOp, strOp, loadSem, storeSem, fieldAddrSem, indexAddrSem, fieldSem, indexSem, lenSem, buildSem, buildSliceSem, appendSem, srcA, convSem, sliceSem, bndA, slTok, makeSliceSem, copySem, Res.obj?, cmpOK, cmpParts, tplace, Nat.reduceEqDiff, Nat.reduceAdd, Nat.reduceMul, Nat.reduceLeDiff, Nat.reduceLT, Nat.reduceBEq, Nat.reducePow, Int.reduceToNat, Int.reduceLE, Int.reduceLT, Int.reduceNeg, reduceCtorEq, cxP, ne_eq, forall_eq, forall_eq_or_imp, resOne, resA, implies_true, forall_const, eq_self, Int.reduceEq, Int.reduceAdd, Int.reduceSub, Int.reduceMul, Nat.reduceSub, Nat.le_add_right, t2, t3, t4, t5, t24, t34, t47, t49, t50, t55, t75, nb_vals, nb_u8s, vals_len, u8s_length, u8_cs, u8_gd, u8_ag, u8_nb, nb_eye, nb_acts]) | omega | (with_reducible refine And.intro ?_ ?_) | rfl)
  refine callK_by (enum_spec _ (nx + 72) s1 (by omega) (by omega)) ?_
  have g2 := numS_len s1
  generalize h2 : numS s1 = p2 at *
  obtain ⟨v2, s2⟩ := p2
  simp only at g2
  repeat' (first | (simp -dsimp -implicitDefEqProofs only [B0, B1, B2, B3, B4, B5, B6, ↓ordOK_f, ↓ordOK_e, ↓ordCalls_f, ↓brB_tt, ↓brB_ff, ↓brB_tf, ↓brB_ft, ↓reduceIte, condWp, opSem, opSem0, tkOp, Out.tokV, retok1, constAV, binSem, unSem, intOp, strOp, loadSem, storeSem, fieldAddrSem, indexAddrSem, fieldSem, indexSem, lenSem, buildSem, buildSliceSem, appendSem, srcA, convSem, sliceSem, bndA, slTok, makeSliceSem, copySem, Res.obj?, cmpOK, cmpParts, tplace, Nat.reduceEqDiff, Nat.reduceAdd, Nat.reduceMul, Nat.reduceLeDiff, Nat.reduceLT, Nat.reduceBEq, Nat.reducePow, Int.reduceToNat, Int.reduceLE, Int.reduceLT, Int.reduceNeg, reduceCtorEq, cxP, ne_eq, forall_eq, forall_eq_or_imp, resOne, resA, implies_true, forall_const, eq_self, Int.reduceEq, Int.reduceAdd, Int.reduceSub, Int.reduceMul, Nat.reduceSub, Nat.le_add_right, t2, t3, t4, t5, t24, t34, t47, t49, t50, t55, t75, nb_vals, nb_u8s, vals_len, u8s_length, u8_cs, u8_gd, u8_ag, u8_nb, nb_eye, nb_acts]) | omega | (with_reducible refine And.intro ?_ ?_) | rfl)
  refine callK_by (enum_spec _ (nx + 72) s2 (by omega) (by omega)) ?_
  have g3 := numS_len s2
  generalize h3 : numS s2 = p3 at *
  obtain ⟨v3, s3⟩ := p3
  simp only at g3
  repeat' (first | (simp -dsimp -implicitDefEqProofs only [B0, B1, B2, B3, B4, B5, B6, ↓ordOK_f, ↓ordOK_e, ↓ordCalls_f, ↓brB_tt, ↓brB_ff, ↓brB_tf, ↓brB_ft, ↓reduceIte, condWp, opSem, opSem0, tkOp, Out.tokV, retok1, constAV, binSem, unSem, intOp, strOp, loadSem, storeSem, fieldAddrSem, indexAddrSem, fieldSem, indexSem, lenSem, buildSem, buildSliceSem, appendSem, srcA, convSem, sliceSem, bndA, slTok, makeSliceSem, copySem, Res.obj?, cmpOK, cmpParts, tplace, Nat.reduceEqDiff, Nat.reduceAdd, Nat.reduceMul, Nat.reduceLeDiff, Nat.reduceLT, Nat.reduceBEq, Nat.reducePow, Int.reduceToNat, Int.reduceLE, Int.reduceLT, Int.reduceNeg, reduceCtorEq, cxP, ne_eq, forall_eq, forall_eq_or_imp, resOne, resA, implies_true, forall_const, eq_self, Int.reduceEq, Int.reduceAdd, Int.reduceSub, Int.reduceMul, Nat.reduceSub, Nat.le_add_right, t2, t3, t4, t5, t24, t34, t47, t49, t50, t55, t75, nb_vals, nb_u8s, vals_len, u8s_length, u8_cs, u8_gd, u8_ag, u8_nb, nb_eye, nb_acts]) | omega | (with_reducible refine And.intro ?_ ?_) | rfl)
  refine callK_by (enum_spec _ (nx + 72) s3 (by omega) (by omega)) ?_
  have g4 := numS_len s3
  generalize h4 : numS s3 = p4 at *
  obtain ⟨v4, s4⟩ := p4
  simp only at g4
  repeat' (first | (simp -dsimp -implicitDefEqProofs only [B0, B1, B2, B3, B4, B5, B6, ↓ordOK_f, ↓ordOK_e, ↓ordCalls_f, ↓brB_tt, ↓brB_ff, ↓brB_tf, ↓brB_ft, ↓reduceIte, condWp, opSem, opSem0, tkOp, Out.tokV, retok1, constAV, binSem, unSem, intOp, strOp, loadSem, storeSem, fieldAddrSem, indexAddrSem, fieldSem, indexSem, lenSem, buildSem, buildSliceSem, appendSem, srcA, convSem, sliceSem, bndA, slTok, makeSliceSem, copySem, Res.obj?, cmpOK, cmpParts, tplace, Nat.reduceEqDiff, Nat.reduceAdd, Nat.reduceMul, Nat.reduceLeDiff, Nat.reduceLT, Nat.reduceBEq, Nat.reducePow, Int.reduceToNat, Int.reduceLE, Int.reduceLT, Int.reduceNeg, reduceCtorEq, cxP, ne_eq, forall_eq, forall_eq_or_imp, resOne, resA, implies_true, forall_const, eq_self, Int.reduceEq, Int.reduceAdd, Int.reduceSub, Int.reduceMul, Nat.reduceSub, Nat.le_add_right, t2, t3, t4, t5, t24, t34, t47, t49, t50, t55, t75, nb_vals, nb_u8s, vals_len, u8s_length, u8_cs, u8_gd, u8_ag, u8_nb, nb_eye, nb_acts]) | omega | (with_reducible refine And.intro ?_ ?_) | rfl)
  refine callK_by (enum_spec _ (nx + 72) s4 (by omega) (by omega)) ?_
  have g5 := numS_len s4
  generalize h5 : numS s4 = p5 at *
  obtain ⟨v5, s5⟩ := p5
  simp only at g5
  repeat' (first | (simp -dsimp -implicitDefEqProofs only [B0, B1, B2, B3, B4, B5, B6, ↓ordOK_f, ↓ordOK_e, ↓ordCalls_f, ↓brB_tt, ↓brB_ff, ↓brB_tf, ↓brB_ft, ↓reduceIte, condWp, opSem, opSem0, tkOp, Out.tokV, retok1, constAV, binSem, unSem, intOp, strOp, loadSem, storeSem, fieldAddrSem, indexAddrSem, fieldSem, indexSem, lenSem, buildSem, buildSliceSem, appendSem, srcA, convSem, sliceSem, bndA, slTok, makeSliceSem, copySem, Res.obj?, cmpOK, cmpParts, tplace, Nat.reduceEqDiff, Nat.reduceAdd, Nat.reduceMul, Nat.reduceLeDiff, Nat.reduceLT, Nat.reduceBEq, Nat.reducePow, Int.reduceToNat, Int.reduceLE, Int.reduceLT, Int.reduceNeg, reduceCtorEq, cxP, ne_eq, forall_eq, forall_eq_or_imp, resOne, resA, implies_true, forall_const, eq_self, Int.reduceEq, Int.reduceAdd, Int.reduceSub, Int.reduceMul, Nat.reduceSub, Nat.le_add_right, t2, t3, t4, t5, t24, t34, t47, t49, t50, t55, t75, nb_vals, nb_u8s, vals_len, u8s_length, u8_cs, u8_gd, u8_ag, u8_nb, nb_eye, nb_acts]) | omega | (with_reducible refine And.intro ?_ ?_) | rfl)
  refine callK_by (enum_spec _ (nx + 72) s5 (by omega) (by omega)) ?_
  have g6 := numS_len s5
  generalize h6 : numS s5 = p6 at *
  obtain ⟨v6, s6⟩ := p6
  simp only at g6
  repeat' (first | (simp -dsimp -implicitDefEqProofs only [B0, B1, B2, B3, B4, B5, B6, ↓ordOK_f, ↓ordOK_e, ↓ordCalls_f, ↓brB_tt, ↓brB_ff, ↓brB_tf, ↓brB_ft, ↓reduceIte, condWp, opSem, opSem0, tkOp, Out.tokV, retok1, constAV, binSem, unSem, intOp, strOp, loadSem, storeSem, fieldAddrSem, indexAddrSem, fieldSem, indexSem, lenSem, buildSem, buildSliceSem, appendSem, srcA, convSem, sliceSem, bndA, slTok, makeSliceSem, copySem, Res.obj?, cmpOK, cmpParts, tplace, Nat.reduceEqDiff, Nat.reduceAdd, Nat.reduceMul, Nat.reduceLeDiff, Nat.reduceLT, Nat.reduceBEq, Nat.reducePow, Int.reduceToNat, Int.reduceLE, Int.reduceLT, Int.reduceNeg, reduceCtorEq, cxP, ne_eq, forall_eq, forall_eq_or_imp, resOne, resA, implies_true, forall_const, eq_self, Int.reduceEq, Int.reduceAdd, Int.reduceSub, Int.reduceMul, Nat.reduceSub, Nat.le_add_right, t2, t3, t4, t5, t24, t34, t47, t49, t50, t55, t75, nb_vals, nb_u8s, vals_len, u8s_length, u8_cs, u8_gd, u8_ag, u8_nb, nb_eye, nb_acts]) | omega | (with_reducible refine And.intro ?_ ?_) | rfl)
  refine callK_by (enum_spec _ (nx + 72) s6 (by omega) (by omega)) ?_
  have g7 := numS_len s6
  generalize h7 : numS s6 = p7 at *
  obtain ⟨v7, s7⟩ := p7
  simp only at g7
  repeat' (first | (simp -dsimp -implicitDefEqProofs only [B0, B1, B2, B3, B4, B5, B6, ↓ordOK_f, ↓ordOK_e, ↓ordCalls_f, ↓brB_tt, ↓brB_ff, ↓brB_tf, ↓brB_ft, ↓reduceIte, condWp, opSem, opSem0, tkOp, Out.tokV, retok1, constAV, binSem, unSem, intOp, strOp, loadSem, storeSem, fieldAddrSem, indexAddrSem, fieldSem, indexSem, lenSem, buildSem, buildSliceSem, appendSem, srcA, convSem, sliceSem, bndA, slTok, makeSliceSem, copySem, Res.obj?, cmpOK, cmpParts, tplace, Nat.reduceEqDiff, Nat.reduceAdd, Nat.reduceMul, Nat.reduceLeDiff, Nat.reduceLT, Nat.reduceBEq, Nat.reducePow, Int.reduceToNat, Int.reduceLE, Int.reduceLT, Int.reduceNeg, reduceCtorEq, cxP, ne_eq, forall_eq, forall_eq_or_imp, resOne, resA, implies_true, forall_const, eq_self, Int.reduceEq, Int.reduceAdd, Int.reduceSub, Int.reduceMul, Nat.reduceSub, Nat.le_add_right, t2, t3, t4, t5, t24, t34, t47, t49, t50, t55, t75, nb_vals, nb_u8s, vals_len, u8s_length, u8_cs, u8_gd, u8_ag, u8_nb, nb_eye, nb_acts]) | omega | (with_reducible refine And.intro ?_ ?_) | rfl)
  refine callK_by (enum_spec _ (nx + 72) s7 (by omega) (by omega)) ?_
  have g8 := numS_len s7
  generalize h8 : numS s7 = p8 at *
  obtain ⟨v8, s8⟩ := p8
  simp only at g8
  repeat' (first | (simp -dsimp -implicitDefEqProofs only [B0, B1, B2, B3, B4, B5, B6, ↓ordOK_f, ↓ordOK_e, ↓ordCalls_f, ↓brB_tt, ↓brB_ff, ↓brB_tf, ↓brB_ft, ↓reduceIte, condWp, opSem, opSem0, tkOp, Out.tokV, retok1, constAV, binSem, unSem, intOp, strOp, loadSem, storeSem, fieldAddrSem, indexAddrSem, fieldSem, indexSem, lenSem, buildSem, buildSliceSem, appendSem, srcA, convSem, sliceSem, bndA, slTok, makeSliceSem, copySem, Res.obj?, cmpOK, cmpParts, tplace, Nat.reduceEqDiff, Nat.reduceAdd, Nat.reduceMul, Nat.reduceLeDiff, Nat.reduceLT, Nat.reduceBEq, Nat.reducePow, Int.reduceToNat, Int.reduceLE, Int.reduceLT, Int.reduceNeg, reduceCtorEq, cxP, ne_eq, forall_eq, forall_eq_or_imp, resOne, resA, implies_true, forall_const, eq_self, Int.reduceEq, Int.reduceAdd, Int.reduceSub, Int.reduceMul, Nat.reduceSub, Nat.le_add_right, t2, t3, t4, t5, t24, t34, t47, t49, t50, t55, t75, nb_vals, nb_u8s, vals_len, u8s_length, u8_cs, u8_gd, u8_ag, u8_nb, nb_eye, nb_acts]) | omega | (with_reducible refine And.intro ?_ ?_) | rfl)
  refine callK_by (enum_spec _ (nx + 72) s8 (by omega) (by omega)) ?_
  have g9 := numS_len s8
  generalize h9 : numS s8 = p9 at *
  obtain ⟨v9, s9⟩ := p9
  simp only at g9
  repeat' (first | (simp -dsimp -implicitDefEqProofs only [B0, B1, B2, B3, B4, B5, B6, ↓ordOK_f, ↓ordOK_e, ↓ordCalls_f, ↓brB_tt, ↓brB_ff, ↓brB_tf, ↓brB_ft, ↓reduceIte, condWp, opSem, opSem0, tkOp, Out.tokV, retok1, constAV, binSem, unSem, intOp, strOp, loadSem, storeSem, fieldAddrSem, indexAddrSem, fieldSem, indexSem, lenSem, buildSem, buildSliceSem, appendSem, srcA, convSem, sliceSem, bndA, slTok, makeSliceSem, copySem, Res.obj?, cmpOK, cmpParts, tplace, Nat.reduceEqDiff, Nat.reduceAdd, Nat.reduceMul, Nat.reduceLeDiff, Nat.reduceLT, Nat.reduceBEq, Nat.reducePow, Int.reduceToNat, Int.reduceLE, Int.reduceLT, Int.reduceNeg, reduceCtorEq, cxP, ne_eq, forall_eq, forall_eq_or_imp, resOne, resA, implies_true, forall_const, eq_self, Int.reduceEq, Int.reduceAdd, Int.reduceSub, Int.reduceMul, Nat.reduceSub, Nat.le_add_right, t2, t3, t4, t5, t24, t34, t47, t49, t50, t55, t75, nb_vals, nb_u8s, vals_len, u8s_length, u8_cs, u8_gd, u8_ag, u8_nb, nb_eye, nb_acts]) | omega | (with_reducible refine And.intro ?_ ?_) | rfl)
  refine callK_by (enum_spec _ (nx + 72) s9 (by omega) (by omega)) ?_
  have g10 := numS_len s9
  generalize h10 : numS s9 = p10 at *
  obtain ⟨v10, s10⟩ := p10
  simp only at g10
  repeat' (first | (simp -dsimp -implicitDefEqProofs only [B0, B1, B2, B3, B4, B5, B6, ↓ordOK_f, ↓ordOK_e, ↓ordCalls_f, ↓brB_tt, ↓brB_ff, ↓brB_tf, ↓brB_ft, ↓reduceIte, condWp, opSem, opSem0, tkOp, Out.tokV, retok1, constAV, binSem, unSem, intOp, strOp, loadSem, storeSem, fieldAddrSem, indexAddrSem, fieldSem, indexSem, lenSem, buildSem, buildSliceSem, appendSem, srcA, convSem, sliceSem, bndA, slTok, makeSliceSem, copySem, Res.obj?, cmpOK, cmpParts, tplace, Nat.reduceEqDiff, Nat.reduceAdd, Nat.reduceMul, Nat.reduceLeDiff, Nat.reduceLT, Nat.reduceBEq, Nat.reducePow, Int.reduceToNat, Int.reduceLE, Int.reduceLT, Int.reduceNeg, reduceCtorEq, cxP, ne_eq, forall_eq, forall_eq_or_imp, resOne, resA, implies_true, forall_const, eq_self, Int.reduceEq, Int.reduceAdd, Int.reduceSub, Int.reduceMul, Nat.reduceSub, Nat.le_add_right, t2, t3, t4, t5, t24, t34, t47, t49, t50, t55, t75, nb_vals, nb_u8s, vals_len, u8s_length, u8_cs, u8_gd, u8_ag, u8_nb, nb_eye, nb_acts]) | omega | (with_reducible refine And.intro ?_ ?_) | rfl)
  refine callK_by (enum_spec _ (nx + 72) s10 (by omega) (by omega)) ?_
  have g11 := numS_len s10
  generalize h11 : numS s10 = p11 at *
  obtain ⟨v11, s11⟩ := p11
  simp only at g11
  repeat' (first | (simp -dsimp -implicitDefEqProofs only [B0, B1, B2, B3, B4, B5, B6, ↓ordOK_f, ↓ordOK_e, ↓ordCalls_f, ↓brB_tt, ↓brB_ff, ↓brB_tf, ↓brB_ft, ↓reduceIte, condWp, opSem, opSem0, tkOp, Out.tokV, retok1, constAV, binSem, unSem, intOp, strOp, loadSem, storeSem, fieldAddrSem, indexAddrSem, fieldSem, indexSem, lenSem, buildSem, buildSliceSem, appendSem, srcA, convSem, sliceSem, bndA, slTok, makeSliceSem, copySem, Res.obj?, cmpOK, cmpParts, tplace, Nat.reduceEqDiff, Nat.reduceAdd, Nat.reduceMul, Nat.reduceLeDiff, Nat.reduceLT, Nat.reduceBEq, Nat.reducePow, Int.reduceToNat, Int.reduceLE, Int.reduceLT, Int.reduceNeg, reduceCtorEq, cxP, ne_eq, forall_eq, forall_eq_or_imp, resOne, resA, implies_true, forall_const, eq_self, Int.reduceEq, Int.reduceAdd, Int.reduceSub, Int.reduceMul, Nat.reduceSub, Nat.le_add_right, t2, t3, t4, t5, t24, t34, t47, t49, t50, t55, t75, nb_vals, nb_u8s, vals_len, u8s_length, u8_cs, u8_gd, u8_ag, u8_nb, nb_eye, nb_acts]) | omega | (with_reducible refine And.intro ?_ ?_) | rfl)
  refine callK_by (enum_spec _ (nx + 72) s11 (by omega) (by omega)) ?_
  have g12 := numS_len s11
  generalize h12 : numS s11 = p12 at *
  obtain ⟨v12, s12⟩ := p12
  simp only at g12
  repeat' (first | (simp -dsimp -implicitDefEqProofs only [B0, B1, B2, B3, B4, B5, B6, ↓ordOK_f, ↓ordOK_e, ↓ordCalls_f, ↓brB_tt, ↓brB_ff, ↓brB_tf, ↓brB_ft, ↓reduceIte, condWp, opSem, opSem0, tkOp, Out.tokV, retok1, constAV, binSem, unSem, intOp, strOp, loadSem, storeSem, fieldAddrSem, indexAddrSem, fieldSem, indexSem, lenSem, buildSem, buildSliceSem, appendSem, srcA, convSem, sliceSem, bndA, slTok, makeSliceSem, copySem, Res.obj?, cmpOK, cmpParts, tplace, Nat.reduceEqDiff, Nat.reduceAdd, Nat.reduceMul, Nat.reduceLeDiff, Nat.reduceLT, Nat.reduceBEq, Nat.reducePow, Int.reduceToNat, Int.reduceLE, Int.reduceLT, Int.reduceNeg, reduceCtorEq, cxP, ne_eq, forall_eq, forall_eq_or_imp, resOne, resA, implies_true, forall_const, eq_self, Int.reduceEq, Int.reduceAdd, Int.reduceSub, Int.reduceMul, Nat.reduceSub, Nat.le_add_right, t2, t3, t4, t5, t24, t34, t47, t49, t50, t55, t75, nb_vals, nb_u8s, vals_len, u8s_length, u8_cs, u8_gd, u8_ag, u8_nb, nb_eye, nb_acts]) | omega | (with_reducible refine And.intro ?_ ?_) | rfl)
  refine callK_by (upto_spec _ (nx + 72) s12 1024 (by omega) (by omega)) ?_
  have g13 := uptoS_len s12 1024
  have hle := uptoS_le s12 1024 (by omega)
  generalize h13 : uptoS s12 1024 = p13 at *
  obtain ⟨v13, s13⟩ := p13
  simp only at g13
  repeat' (first | (simp -dsimp -implicitDefEqProofs only [B0, B1, B2, B3, B4, B5, B6, ↓ordOK_f, ↓ordOK_e, ↓ordCalls_f, ↓brB_tt, ↓brB_ff, ↓brB_tf, ↓brB_ft, ↓reduceIte, condWp, opSem, opSem0, tkOp, Out.tokV, retok1, constAV, binSem, unSem, intOp, strOp, loadSem, storeSem, fieldAddrSem, indexAddrSem, fieldSem, indexSem, lenSem, buildSem, buildSliceSem, appendSem, srcA, convSem, sliceSem, bndA, slTok, makeSliceSem, copySem, Res.obj?, cmpOK, cmpParts, tplace, Nat.reduceEqDiff, Nat.reduceAdd, Nat.reduceMul, Nat.reduceLeDiff, Nat.reduceLT, Nat.reduceBEq, Nat.reducePow, Int.reduceToNat, Int.reduceLE, Int.reduceLT, Int.reduceNeg, reduceCtorEq, cxP, ne_eq, forall_eq, forall_eq_or_imp, resOne, resA, implies_true, forall_const, eq_self, Int.reduceEq, Int.reduceAdd, Int.reduceSub, Int.reduceMul, Nat.reduceSub, Nat.le_add_right, t2, t3, t4, t5, t24, t34, t47, t49, t50, t55, t75, nb_vals, nb_u8s, vals_len, u8s_length, u8_cs, u8_gd, u8_ag, u8_nb, nb_eye, nb_acts]) | omega | (with_reducible refine And.intro ?_ ?_) | rfl)
  have hhd : headS b = (⟨v1, v2, v3, v4, v5, v6, v7, v8, v9, v10, v11, v12⟩, v13, s13) := by simp only [headS, h1, h2, h3, h4, h5, h6, h7, h8, h9, h10, h11, h12, h13]
  have hbl : s13.b.length ≤ b.length := by omega
  clear h1 h2 h3 h4 h5 h6 h7 h8 h9 h10 h11 h12 h13 g1 g2 g3 g4 g5 g6 g7 g8 g9 g10 g11 g12 g13
  generalize hc0 : (⟨v1, v2, v3, v4, v5, v6, v7, v8, v9, v10, v11, v12⟩ : Cfg) = c0 at hhd
  have hgs : getS b = (if doneS (listS v13.toNat s13 []).2 = 0 then (if RightC c0 then (c0, (listS v13.toNat s13 []).1, 0) else (zeroC, [], 4)) else (zeroC, [], doneS (listS v13.toNat s13 []).2)) := by simp only [getS, hhd]
  have hql := listS_len v13.toNat s13 []
  generalize hq : listS v13.toNat s13 [] = q at hgs hql
  simp only [List.length_nil] at hql
  have hcA : ∀ x, x = c0 → cfgA x = cfgA c0 := fun x h => by rw [h]
  apply block_keep [2, 5, 6] [(7, .sl 4 (actsA q.1) (nx + 460))] [(nx, some (.obj (cfgA zeroC))), (nx + 72, some (.obj (eyeA q.2))), (nx + 73, some (.obj (cfgA c0))), (nx + 458, some (.tail q.1.length))]
  · simp -dsimp -implicitDefEqProofs only [B0, B1, B2, B3, B4, B5, B6, ↓ordOK_f, ↓ordOK_e, ↓ordCalls_f, ↓brB_tt, ↓brB_ff, ↓brB_tf, ↓brB_ft, ↓reduceIte, condWp, opSem, opSem0, tkOp, Out.tokV, retok1, constAV, binSem, unSem, intOp, strOp, loadSem, storeSem, fieldAddrSem, indexAddrSem, fieldSem, indexSem, lenSem, buildSem, buildSliceSem, appendSem, srcA, convSem, sliceSem, bndA, slTok, makeSliceSem, copySem, Res.obj?, cmpOK, cmpParts, tplace, Nat.reduceEqDiff, Nat.reduceAdd, Nat.reduceMul, Nat.reduceLeDiff, Nat.reduceLT, Nat.reduceBEq, Nat.reducePow, Int.reduceToNat, Int.reduceLE, Int.reduceLT, Int.reduceNeg, reduceCtorEq, cxP, ne_eq, forall_eq, forall_eq_or_imp, resOne, resA, implies_true, forall_const, eq_self, Int.reduceEq, Int.reduceAdd, Int.reduceSub, Int.reduceMul, Nat.reduceSub, Nat.le_add_right, nb_vals, nb_u8s, vals_len, u8s_length, u8_cs, u8_gd, u8_ag, u8_nb, nb_eye, nb_acts]; rfl
  · simp -dsimp -implicitDefEqProofs only [B0, B1, B2, B3, B4, B5, B6, ↓ordOK_f, ↓ordOK_e, ↓ordCalls_f, ↓brB_tt, ↓brB_ff, ↓brB_tf, ↓brB_ft, ↓reduceIte, condWp, opSem, opSem0, tkOp, Out.tokV, retok1, constAV, binSem, unSem, intOp, strOp, loadSem, storeSem, fieldAddrSem, indexAddrSem, fieldSem, indexSem, lenSem, buildSem, buildSliceSem, appendSem, srcA, convSem, sliceSem, bndA, slTok, makeSliceSem, copySem, Res.obj?, cmpOK, cmpParts, tplace, Nat.reduceEqDiff, Nat.reduceAdd, Nat.reduceMul, Nat.reduceLeDiff, Nat.reduceLT, Nat.reduceBEq, Nat.reducePow, Int.reduceToNat, Int.reduceLE, Int.reduceLT, Int.reduceNeg, reduceCtorEq, cxP, ne_eq, forall_eq, forall_eq_or_imp, resOne, resA, implies_true, forall_const, eq_self, Int.reduceEq, Int.reduceAdd, Int.reduceSub, Int.reduceMul, Nat.reduceSub, Nat.le_add_right, nb_vals, nb_u8s, vals_len, u8s_length, u8_cs, u8_gd, u8_ag, u8_nb, nb_eye, nb_acts, cfgA]
    omega
  · show codeWp _ _ _ _ _ _ _
    apply loop_keep [2, 5, 6, 49] (fun s : { s : Nat × ES × List Act_ // s.1 ≤ v13.toNat ∧ listS (v13.toNat - s.1) s.2.1 s.2.2 = q ∧ s.2.1.b.length ≤ b.length ∧ s.2.2.length ≤ s.1 } => [(7, .sl 4 (actsA s.1.2.2) (nx + 460)), (50, n64 s.1.1)])
      (fun s => [(nx, some (.obj (cfgA zeroC))), (nx + 72, some (.obj (eyeA s.1.2.1))), (nx + 73, some (.obj (cfgA c0))), (nx + 458, some (.tail s.1.2.2.length))]) (fun s => v13.toNat - s.1.1) ⟨(0, s13, []), Nat.zero_le _, by simpa using hq, hbl, by simp⟩
    · simp -dsimp -implicitDefEqProofs only [B0, B1, B2, B3, B4, B5, B6, ↓ordOK_f, ↓ordOK_e, ↓ordCalls_f, ↓brB_tt, ↓brB_ff, ↓brB_tf, ↓brB_ft, ↓reduceIte, condWp, opSem, opSem0, tkOp, Out.tokV, retok1, constAV, binSem, unSem, intOp, strOp, loadSem, storeSem, fieldAddrSem, indexAddrSem, fieldSem, indexSem, lenSem, buildSem, buildSliceSem, appendSem, srcA, convSem, sliceSem, bndA, slTok, makeSliceSem, copySem, Res.obj?, cmpOK, cmpParts, tplace, Nat.reduceEqDiff, Nat.reduceAdd, Nat.reduceMul, Nat.reduceLeDiff, Nat.reduceLT, Nat.reduceBEq, Nat.reducePow, Int.reduceToNat, Int.reduceLE, Int.reduceLT, Int.reduceNeg, reduceCtorEq, cxP, ne_eq, forall_eq, forall_eq_or_imp, resOne, resA, implies_true, forall_const, eq_self, Int.reduceEq, Int.reduceAdd, Int.reduceSub, Int.reduceMul, Nat.reduceSub, Nat.le_add_right, nb_vals, nb_u8s, vals_len, u8s_length, u8_cs, u8_gd, u8_ag, u8_nb, nb_eye, nb_acts]; rfl
    · simp -dsimp -implicitDefEqProofs only [B0, B1, B2, B3, B4, B5, B6, ↓ordOK_f, ↓ordOK_e, ↓ordCalls_f, ↓brB_tt, ↓brB_ff, ↓brB_tf, ↓brB_ft, ↓reduceIte, condWp, opSem, opSem0, tkOp, Out.tokV, retok1, constAV, binSem, unSem, intOp, strOp, loadSem, storeSem, fieldAddrSem, indexAddrSem, fieldSem, indexSem, lenSem, buildSem, buildSliceSem, appendSem, srcA, convSem, sliceSem, bndA, slTok, makeSliceSem, copySem, Res.obj?, cmpOK, cmpParts, tplace, Nat.reduceEqDiff, Nat.reduceAdd, Nat.reduceMul, Nat.reduceLeDiff, Nat.reduceLT, Nat.reduceBEq, Nat.reducePow, Int.reduceToNat, Int.reduceLE, Int.reduceLT, Int.reduceNeg, reduceCtorEq, cxP, ne_eq, forall_eq, forall_eq_or_imp, resOne, resA, implies_true, forall_const, eq_self, Int.reduceEq, Int.reduceAdd, Int.reduceSub, Int.reduceMul, Nat.reduceSub, Nat.le_add_right, nb_vals, nb_u8s, vals_len, u8s_length, u8_cs, u8_gd, u8_ag, u8_nb, nb_eye, nb_acts]
      rfl
    · simp -dsimp -implicitDefEqProofs only [B0, B1, B2, B3, B4, B5, B6, ↓ordOK_f, ↓ordOK_e, ↓ordCalls_f, ↓brB_tt, ↓brB_ff, ↓brB_tf, ↓brB_ft, ↓reduceIte, condWp, opSem, opSem0, tkOp, Out.tokV, retok1, constAV, binSem, unSem, intOp, strOp, loadSem, storeSem, fieldAddrSem, indexAddrSem, fieldSem, indexSem, lenSem, buildSem, buildSliceSem, appendSem, srcA, convSem, sliceSem, bndA, slTok, makeSliceSem, copySem, Res.obj?, cmpOK, cmpParts, tplace, Nat.reduceEqDiff, Nat.reduceAdd, Nat.reduceMul, Nat.reduceLeDiff, Nat.reduceLT, Nat.reduceBEq, Nat.reducePow, Int.reduceToNat, Int.reduceLE, Int.reduceLT, Int.reduceNeg, reduceCtorEq, cxP, ne_eq, forall_eq, forall_eq_or_imp, resOne, resA, implies_true, forall_const, eq_self, Int.reduceEq, Int.reduceAdd, Int.reduceSub, Int.reduceMul, Nat.reduceSub, Nat.le_add_right, nb_vals, nb_u8s, vals_len, u8s_length, u8_cs, u8_gd, u8_ag, u8_nb, nb_eye, nb_acts]
      rw [← hc0]
      exact ⟨rfl, rfl⟩
    · intro s
      simp -dsimp -implicitDefEqProofs only [B0, B1, B2, B3, B4, B5, B6, ↓ordOK_f, ↓ordOK_e, ↓ordCalls_f, ↓brB_tt, ↓brB_ff, ↓brB_tf, ↓brB_ft, ↓reduceIte, condWp, opSem, opSem0, tkOp, Out.tokV, retok1, constAV, binSem, unSem, intOp, strOp, loadSem, storeSem, fieldAddrSem, indexAddrSem, fieldSem, indexSem, lenSem, buildSem, buildSliceSem, appendSem, srcA, convSem, sliceSem, bndA, slTok, makeSliceSem, copySem, Res.obj?, cmpOK, cmpParts, tplace, Nat.reduceEqDiff, Nat.reduceAdd, Nat.reduceMul, Nat.reduceLeDiff, Nat.reduceLT, Nat.reduceBEq, Nat.reducePow, Int.reduceToNat, Int.reduceLE, Int.reduceLT, Int.reduceNeg, reduceCtorEq, cxP, ne_eq, forall_eq, forall_eq_or_imp, resOne, resA, implies_true, forall_const, eq_self, Int.reduceEq, Int.reduceAdd, Int.reduceSub, Int.reduceMul, Nat.reduceSub, Nat.le_add_right, nb_vals, nb_u8s, vals_len, u8s_length, u8_cs, u8_gd, u8_ag, u8_nb, nb_eye, nb_acts, cfgA]
      omega
    · as_aux_lemma =>
      rintro ⟨⟨i, s, l⟩, k1, k2, k3, k4⟩
      simp only at k1 k2 k3 k4
      simp -dsimp -implicitDefEqProofs only [B0, B1, B2, B3, B4, B5, B6, ↓ordOK_f, ↓ordOK_e, ↓ordCalls_f, ↓brB_tt, ↓brB_ff, ↓brB_tf, ↓brB_ft, ↓reduceIte, condWp, opSem, opSem0, tkOp, Out.tokV, retok1, constAV, binSem, unSem, intOp, strOp, loadSem, storeSem, fieldAddrSem, indexAddrSem, fieldSem, indexSem, lenSem, buildSem, buildSliceSem, appendSem, srcA, convSem, sliceSem, bndA, slTok, makeSliceSem, copySem, Res.obj?, cmpOK, cmpParts, tplace, Nat.reduceEqDiff, Nat.reduceAdd, Nat.reduceMul, Nat.reduceLeDiff, Nat.reduceLT, Nat.reduceBEq, Nat.reducePow, Int.reduceToNat, Int.reduceLE, Int.reduceLT, Int.reduceNeg, reduceCtorEq, cxP, ne_eq, forall_eq, forall_eq_or_imp, resOne, resA, implies_true, forall_const, eq_self, Int.reduceEq, Int.reduceAdd, Int.reduceSub, Int.reduceMul, Nat.reduceSub, Nat.le_add_right, t2, t3, t4, t5, t24, t34, t47, t49, t50, t55, t75, nb_vals, nb_u8s, vals_len, u8s_length, u8_cs, u8_gd, u8_ag, u8_nb, nb_eye, nb_acts]
      refine brT (fun h => ?_) (fun h => ?_)
      · as_aux_lemma =>
        have hi : i < v13.toNat := by omega
        have hw : IntKind.i64.wrap ((i : Int) + 1) = ((i + 1 : Nat) : Int) := wrapE (by omega) (by omega)
        obtain ⟨k, hk⟩ : ∃ k, v13.toNat - i = k + 1 := ⟨v13.toNat - i - 1, by omega⟩
        rw [hk] at k2
        simp only [listS] at k2
        have hal := actS_len s
        have hact : actS s = (⟨(uptoS s 255).1, (uptoS (uptoS s 255).2 1048576).1, unfoldI (uptoS (uptoS (uptoS s 255).2 1048576).2 2251799813685248).1, (textS (uptoS (uptoS (uptoS s 255).2 1048576).2 2251799813685248).2 65536).1⟩, (textS (uptoS (uptoS (uptoS s 255).2 1048576).2 2251799813685248).2 65536).2) := rfl
        simp -dsimp -implicitDefEqProofs only [B0, B1, B2, B3, B4, B5, B6, ↓ordOK_f, ↓ordOK_e, ↓ordCalls_f, ↓brB_tt, ↓brB_ff, ↓brB_tf, ↓brB_ft, ↓reduceIte, condWp, opSem, opSem0, tkOp, Out.tokV, retok1, constAV, binSem, unSem, intOp, strOp, loadSem, storeSem, fieldAddrSem, indexAddrSem, fieldSem, indexSem, lenSem, buildSem, buildSliceSem, appendSem, srcA, convSem, sliceSem, bndA, slTok, makeSliceSem, copySem, Res.obj?, cmpOK, cmpParts, tplace, Nat.reduceEqDiff, Nat.reduceAdd, Nat.reduceMul, Nat.reduceLeDiff, Nat.reduceLT, Nat.reduceBEq, Nat.reducePow, Int.reduceToNat, Int.reduceLE, Int.reduceLT, Int.reduceNeg, reduceCtorEq, cxP, ne_eq, forall_eq, forall_eq_or_imp, resOne, resA, implies_true, forall_const, eq_self, Int.reduceEq, Int.reduceAdd, Int.reduceSub, Int.reduceMul, Nat.reduceSub, Nat.le_add_right, t2, t3, t4, t5, t24, t34, t47, t49, t50, t55, t75, nb_vals, nb_u8s, vals_len, u8s_length, u8_cs, u8_gd, u8_ag, u8_nb, nb_eye, nb_acts]
        refine callK_by (upto_spec _ (nx + 72) s 255 (by omega) (by omega)) ?_
        have g1 := uptoS_len s 255
        generalize uptoS s 255 = p1 at *
        obtain ⟨a1, s1⟩ := p1
        simp only at g1 hact
        repeat' (first | (simp -dsimp -implicitDefEqProofs only [B0, B1, B2, B3, B4, B5, B6, ↓ordOK_f, ↓ordOK_e, ↓ordCalls_f, ↓brB_tt, ↓brB_ff, ↓brB_tf, ↓brB_ft, ↓reduceIte, condWp, opSem, opSem0, tkOp, Out.tokV, retok1, constAV, binSem, unSem, intOp, strOp, loadSem, storeSem, fieldAddrSem, indexAddrSem, fieldSem, indexSem, lenSem, buildSem, buildSliceSem, appendSem, srcA, convSem, sliceSem, bndA, slTok, makeSliceSem, copySem, Res.obj?, cmpOK, cmpParts, tplace, Nat.reduceEqDiff, Nat.reduceAdd, Nat.reduceMul, Nat.reduceLeDiff, Nat.reduceLT, Nat.reduceBEq, Nat.reducePow, Int.reduceToNat, Int.reduceLE, Int.reduceLT, Int.reduceNeg, reduceCtorEq, cxP, ne_eq, forall_eq, forall_eq_or_imp, resOne, resA, implies_true, forall_const, eq_self, Int.reduceEq, Int.reduceAdd, Int.reduceSub, Int.reduceMul, Nat.reduceSub, Nat.le_add_right, t2, t3, t4, t5, t24, t34, t47, t49, t50, t55, t75, nb_vals, nb_u8s, vals_len, u8s_length, u8_cs, u8_gd, u8_ag, u8_nb, nb_eye, nb_acts]) | omega | (with_reducible refine And.intro ?_ ?_) | rfl)
        refine callK_by (upto_spec _ (nx + 72) s1 1048576 (by omega) (by omega)) ?_
        have g2 := uptoS_len s1 1048576
        generalize uptoS s1 1048576 = p2 at *
        obtain ⟨a2, s2⟩ := p2
        simp only at g2 hact
        repeat' (first | (simp -dsimp -implicitDefEqProofs only [B0, B1, B2, B3, B4, B5, B6, ↓ordOK_f, ↓ordOK_e, ↓ordCalls_f, ↓brB_tt, ↓brB_ff, ↓brB_tf, ↓brB_ft, ↓reduceIte, condWp, opSem, opSem0, tkOp, Out.tokV, retok1, constAV, binSem, unSem, intOp, strOp, loadSem, storeSem, fieldAddrSem, indexAddrSem, fieldSem, indexSem, lenSem, buildSem, buildSliceSem, appendSem, srcA, convSem, sliceSem, bndA, slTok, makeSliceSem, copySem, Res.obj?, cmpOK, cmpParts, tplace, Nat.reduceEqDiff, Nat.reduceAdd, Nat.reduceMul, Nat.reduceLeDiff, Nat.reduceLT, Nat.reduceBEq, Nat.reducePow, Int.reduceToNat, Int.reduceLE, Int.reduceLT, Int.reduceNeg, reduceCtorEq, cxP, ne_eq, forall_eq, forall_eq_or_imp, resOne, resA, implies_true, forall_const, eq_self, Int.reduceEq, Int.reduceAdd, Int.reduceSub, Int.reduceMul, Nat.reduceSub, Nat.le_add_right, t2, t3, t4, t5, t24, t34, t47, t49, t50, t55, t75, nb_vals, nb_u8s, vals_len, u8s_length, u8_cs, u8_gd, u8_ag, u8_nb, nb_eye, nb_acts]) | omega | (with_reducible refine And.intro ?_ ?_) | rfl)
        refine callK_by (upto_spec _ (nx + 72) s2 2251799813685248 (by omega) (by omega)) ?_
        have g3 := uptoS_len s2 2251799813685248
        have u3 := uptoS_le s2 2251799813685248 (by omega)
        generalize uptoS s2 2251799813685248 = p3 at *
        obtain ⟨a3, s3⟩ := p3
        simp only at g3 hact u3
        repeat' (first | (simp -dsimp -implicitDefEqProofs only [B0, B1, B2, B3, B4, B5, B6, ↓ordOK_f, ↓ordOK_e, ↓ordCalls_f, ↓brB_tt, ↓brB_ff, ↓brB_tf, ↓brB_ft, ↓reduceIte, condWp, opSem, opSem0, tkOp, Out.tokV, retok1, constAV, binSem, unSem, intOp, strOp, loadSem, storeSem, fieldAddrSem, indexAddrSem, fieldSem, indexSem, lenSem, buildSem, buildSliceSem, appendSem, srcA, convSem, sliceSem, bndA, slTok, makeSliceSem, copySem, Res.obj?, cmpOK, cmpParts, tplace, Nat.reduceEqDiff, Nat.reduceAdd, Nat.reduceMul, Nat.reduceLeDiff, Nat.reduceLT, Nat.reduceBEq, Nat.reducePow, Int.reduceToNat, Int.reduceLE, Int.reduceLT, Int.reduceNeg, reduceCtorEq, cxP, ne_eq, forall_eq, forall_eq_or_imp, resOne, resA, implies_true, forall_const, eq_self, Int.reduceEq, Int.reduceAdd, Int.reduceSub, Int.reduceMul, Nat.reduceSub, Nat.le_add_right, t2, t3, t4, t5, t24, t34, t47, t49, t50, t55, t75, nb_vals, nb_u8s, vals_len, u8s_length, u8_cs, u8_gd, u8_ag, u8_nb, nb_eye, nb_acts]) | omega | (with_reducible refine And.intro ?_ ?_) | rfl)
        refine callK_by (unfold_spec _ a3 u3.2 (by omega)) ?_
        repeat' (first | (simp -dsimp -implicitDefEqProofs only [B0, B1, B2, B3, B4, B5, B6, ↓ordOK_f, ↓ordOK_e, ↓ordCalls_f, ↓brB_tt, ↓brB_ff, ↓brB_tf, ↓brB_ft, ↓reduceIte, condWp, opSem, opSem0, tkOp, Out.tokV, retok1, constAV, binSem, unSem, intOp, strOp, loadSem, storeSem, fieldAddrSem, indexAddrSem, fieldSem, indexSem, lenSem, buildSem, buildSliceSem, appendSem, srcA, convSem, sliceSem, bndA, slTok, makeSliceSem, copySem, Res.obj?, cmpOK, cmpParts, tplace, Nat.reduceEqDiff, Nat.reduceAdd, Nat.reduceMul, Nat.reduceLeDiff, Nat.reduceLT, Nat.reduceBEq, Nat.reducePow, Int.reduceToNat, Int.reduceLE, Int.reduceLT, Int.reduceNeg, reduceCtorEq, cxP, ne_eq, forall_eq, forall_eq_or_imp, resOne, resA, implies_true, forall_const, eq_self, Int.reduceEq, Int.reduceAdd, Int.reduceSub, Int.reduceMul, Nat.reduceSub, Nat.le_add_right, t2, t3, t4, t5, t24, t34, t47, t49, t50, t55, t75, nb_vals, nb_u8s, vals_len, u8s_length, u8_cs, u8_gd, u8_ag, u8_nb, nb_eye, nb_acts]) | omega | (with_reducible refine And.intro ?_ ?_) | rfl)
        refine callK_by (etext_spec _ (nx + 72) s3 65536 (by omega) (by omega)) ?_
        have g4 := textS_len s3 65536
        generalize textS s3 65536 = p4 at *
        obtain ⟨a4, s4⟩ := p4
        simp only at g4 hact
        repeat' (first | (simp -dsimp -implicitDefEqProofs only [B0, B1, B2, B3, B4, B5, B6, ↓ordOK_f, ↓ordOK_e, ↓ordCalls_f, ↓brB_tt, ↓brB_ff, ↓brB_tf, ↓brB_ft, ↓reduceIte, condWp, opSem, opSem0, tkOp, Out.tokV, retok1, constAV, binSem, unSem, intOp, strOp, loadSem, storeSem, fieldAddrSem, indexAddrSem, fieldSem, indexSem, lenSem, buildSem, buildSliceSem, appendSem, srcA, convSem, sliceSem, bndA, slTok, makeSliceSem, copySem, Res.obj?, cmpOK, cmpParts, tplace, Nat.reduceEqDiff, Nat.reduceAdd, Nat.reduceMul, Nat.reduceLeDiff, Nat.reduceLT, Nat.reduceBEq, Nat.reducePow, Int.reduceToNat, Int.reduceLE, Int.reduceLT, Int.reduceNeg, reduceCtorEq, cxP, ne_eq, forall_eq, forall_eq_or_imp, resOne, resA, implies_true, forall_const, eq_self, Int.reduceEq, Int.reduceAdd, Int.reduceSub, Int.reduceMul, Nat.reduceSub, Nat.le_add_right, t2, t3, t4, t5, t24, t34, t47, t49, t50, t55, t75, nb_vals, nb_u8s, vals_len, u8s_length, u8_cs, u8_gd, u8_ag, u8_nb, nb_eye, nb_acts]) | omega | (with_reducible refine And.intro ?_ ?_) | rfl)
        refine callK_by (err_spec _ (nx + 72) s4) ?_
        rw [hact] at k2
        simp only at k2
        repeat' (first | (simp -dsimp -implicitDefEqProofs only [B0, B1, B2, B3, B4, B5, B6, ↓ordOK_f, ↓ordOK_e, ↓ordCalls_f, ↓brB_tt, ↓brB_ff, ↓brB_tf, ↓brB_ft, ↓reduceIte, condWp, opSem, opSem0, tkOp, Out.tokV, retok1, constAV, binSem, unSem, intOp, strOp, loadSem, storeSem, fieldAddrSem, indexAddrSem, fieldSem, indexSem, lenSem, buildSem, buildSliceSem, appendSem, srcA, convSem, sliceSem, bndA, slTok, makeSliceSem, copySem, Res.obj?, cmpOK, cmpParts, tplace, Nat.reduceEqDiff, Nat.reduceAdd, Nat.reduceMul, Nat.reduceLeDiff, Nat.reduceLT, Nat.reduceBEq, Nat.reducePow, Int.reduceToNat, Int.reduceLE, Int.reduceLT, Int.reduceNeg, reduceCtorEq, cxP, ne_eq, forall_eq, forall_eq_or_imp, resOne, resA, implies_true, forall_const, eq_self, Int.reduceEq, Int.reduceAdd, Int.reduceSub, Int.reduceMul, Nat.reduceSub, Nat.le_add_right, t2, t3, t4, t5, t24, t34, t47, t49, t50, t55, t75, nb_vals, nb_u8s, vals_len, u8s_length, u8_cs, u8_gd, u8_ag, u8_nb, nb_eye, nb_acts]) | omega | (with_reducible refine And.intro ?_ ?_) | rfl)
        refine brF (fun h4 => ?_) (fun h4 => ?_)
        · as_aux_lemma =>
          rw [if_neg h4] at k2
          subst k2
          simp -dsimp -implicitDefEqProofs only [B0, B1, B2, B3, B4, B5, B6, ↓ordOK_f, ↓ordOK_e, ↓ordCalls_f, ↓brB_tt, ↓brB_ff, ↓brB_tf, ↓brB_ft, ↓reduceIte, condWp, opSem, opSem0, tkOp, Out.tokV, retok1, constAV, binSem, unSem, intOp, strOp, loadSem, storeSem, fieldAddrSem, indexAddrSem, fieldSem, indexSem, lenSem, buildSem, buildSliceSem, appendSem, srcA, convSem, sliceSem, bndA, slTok, makeSliceSem, copySem, Res.obj?, cmpOK, cmpParts, tplace, Nat.reduceEqDiff, Nat.reduceAdd, Nat.reduceMul, Nat.reduceLeDiff, Nat.reduceLT, Nat.reduceBEq, Nat.reducePow, Int.reduceToNat, Int.reduceLE, Int.reduceLT, Int.reduceNeg, reduceCtorEq, cxP, ne_eq, forall_eq, forall_eq_or_imp, resOne, resA, implies_true, forall_const, eq_self, Int.reduceEq, Int.reduceAdd, Int.reduceSub, Int.reduceMul, Nat.reduceSub, Nat.le_add_right, t2, t3, t4, t5, t24, t34, t47, t49, t50, t55, t75, nb_vals, nb_u8s, vals_len, u8s_length, u8_cs, u8_gd, u8_ag, u8_nb, nb_eye, nb_acts]
        · as_aux_lemma =>
          rw [if_pos h4] at k2
          repeat' (first | (simp -dsimp -implicitDefEqProofs only [B0, B1, B2, B3, B4, B5, B6, ↓ordOK_f, ↓ordOK_e, ↓ordCalls_f, ↓brB_tt, ↓brB_ff, ↓brB_tf, ↓brB_ft, ↓reduceIte, condWp, opSem, opSem0, tkOp, Out.tokV, retok1, constAV, binSem, unSem, intOp, strOp, loadSem, storeSem, fieldAddrSem, indexAddrSem, fieldSem, indexSem, lenSem, buildSem, buildSliceSem, appendSem, srcA, convSem, sliceSem, bndA, slTok, makeSliceSem, copySem, Res.obj?, cmpOK, cmpParts, tplace, Nat.reduceEqDiff, Nat.reduceAdd, Nat.reduceMul, Nat.reduceLeDiff, Nat.reduceLT, Nat.reduceBEq, Nat.reducePow, Int.reduceToNat, Int.reduceLE, Int.reduceLT, Int.reduceNeg, reduceCtorEq, cxP, ne_eq, forall_eq, forall_eq_or_imp, resOne, resA, implies_true, forall_const, eq_self, Int.reduceEq, Int.reduceAdd, Int.reduceSub, Int.reduceMul, Nat.reduceSub, Nat.le_add_right, t2, t3, t4, t5, t24, t34, t47, t49, t50, t55, t75, nb_vals, nb_u8s, vals_len, u8s_length, u8_cs, u8_gd, u8_ag, u8_nb, nb_eye, nb_acts, acts_snoc, acts_len, hw]) | omega | (with_reducible refine And.intro ?_ ?_) | rfl)
          have e1 : v13.toNat - (i + 1) = k := by omega
          have e2 : listS (v13.toNat - (i + 1)) s4 (l ++ [⟨a1, a2, unfoldI a3, a4⟩]) = q := by rw [e1]; exact k2
          have e3 : (l ++ [(⟨a1, a2, unfoldI a3, a4⟩ : Act_)]).length = l.length + 1 := by simp
          refine ⟨⟨(i + 1, s4, l ++ [⟨a1, a2, unfoldI a3, a4⟩]), hi, e2, by simp only; omega, by simp only; omega⟩, by show v13.toNat - (i + 1) < v13.toNat - i; omega, ⟨rfl, rfl⟩, rfl, ?_⟩
          simp
      · as_aux_lemma =>
        have hi : v13.toNat - i = 0 := by omega
        rw [hi] at k2
        simp only [listS] at k2
        subst k2
        simp -dsimp -implicitDefEqProofs only [B0, B1, B2, B3, B4, B5, B6, ↓ordOK_f, ↓ordOK_e, ↓ordCalls_f, ↓brB_tt, ↓brB_ff, ↓brB_tf, ↓brB_ft, ↓reduceIte, condWp, opSem, opSem0, tkOp, Out.tokV, retok1, constAV, binSem, unSem, intOp, strOp, loadSem, storeSem, fieldAddrSem, indexAddrSem, fieldSem, indexSem, lenSem, buildSem, buildSliceSem, appendSem, srcA, convSem, sliceSem, bndA, slTok, makeSliceSem, copySem, Res.obj?, cmpOK, cmpParts, tplace, Nat.reduceEqDiff, Nat.reduceAdd, Nat.reduceMul, Nat.reduceLeDiff, Nat.reduceLT, Nat.reduceBEq, Nat.reducePow, Int.reduceToNat, Int.reduceLE, Int.reduceLT, Int.reduceNeg, reduceCtorEq, cxP, ne_eq, forall_eq, forall_eq_or_imp, resOne, resA, implies_true, forall_const, eq_self, Int.reduceEq, Int.reduceAdd, Int.reduceSub, Int.reduceMul, Nat.reduceSub, Nat.le_add_right, t2, t3, t4, t5, t24, t34, t47, t49, t50, t55, t75, nb_vals, nb_u8s, vals_len, u8s_length, u8_cs, u8_gd, u8_ag, u8_nb, nb_eye, nb_acts]
  simp -dsimp -implicitDefEqProofs only [B0, B1, B2, B3, B4, B5, B6, ↓ordOK_f, ↓ordOK_e, ↓ordCalls_f, ↓brB_tt, ↓brB_ff, ↓brB_tf, ↓brB_ft, ↓reduceIte, condWp, opSem, opSem0, tkOp, Out.tokV, retok1, constAV, binSem, unSem, intOp, strOp, loadSem, storeSem, fieldAddrSem, indexAddrSem, fieldSem, indexSem, lenSem, buildSem, buildSliceSem, appendSem, srcA, convSem, sliceSem, bndA, slTok, makeSliceSem, copySem, Res.obj?, cmpOK, cmpParts, tplace, Nat.reduceEqDiff, Nat.reduceAdd, Nat.reduceMul, Nat.reduceLeDiff, Nat.reduceLT, Nat.reduceBEq, Nat.reducePow, Int.reduceToNat, Int.reduceLE, Int.reduceLT, Int.reduceNeg, reduceCtorEq, cxP, ne_eq, forall_eq, forall_eq_or_imp, resOne, resA, implies_true, forall_const, eq_self, Int.reduceEq, Int.reduceAdd, Int.reduceSub, Int.reduceMul, Nat.reduceSub, Nat.le_add_right, t2, t3, t4, t5, t24, t34, t47, t49, t50, t55, t75, nb_vals, nb_u8s, vals_len, u8s_length, u8_cs, u8_gd, u8_ag, u8_nb, nb_eye, nb_acts]
  refine callK_by (done_spec _ (nx + 72) q.2 (by omega)) ?_
  simp -dsimp -implicitDefEqProofs only [B0, B1, B2, B3, B4, B5, B6, ↓ordOK_f, ↓ordOK_e, ↓ordCalls_f, ↓brB_tt, ↓brB_ff, ↓brB_tf, ↓brB_ft, ↓reduceIte, condWp, opSem, opSem0, tkOp, Out.tokV, retok1, constAV, binSem, unSem, intOp, strOp, loadSem, storeSem, fieldAddrSem, indexAddrSem, fieldSem, indexSem, lenSem, buildSem, buildSliceSem, appendSem, srcA, convSem, sliceSem, bndA, slTok, makeSliceSem, copySem, Res.obj?, cmpOK, cmpParts, tplace, Nat.reduceEqDiff, Nat.reduceAdd, Nat.reduceMul, Nat.reduceLeDiff, Nat.reduceLT, Nat.reduceBEq, Nat.reducePow, Int.reduceToNat, Int.reduceLE, Int.reduceLT, Int.reduceNeg, reduceCtorEq, cxP, ne_eq, forall_eq, forall_eq_or_imp, resOne, resA, implies_true, forall_const, eq_self, Int.reduceEq, Int.reduceAdd, Int.reduceSub, Int.reduceMul, Nat.reduceSub, Nat.le_add_right, t2, t3, t4, t5, t24, t34, t47, t49, t50, t55, t75, nb_vals, nb_u8s, vals_len, u8s_length, u8_cs, u8_gd, u8_ag, u8_nb, nb_eye, nb_acts]
  refine brF (fun h => ?_) (fun h => ?_)
  · as_aux_lemma =>
    rw [if_neg h] at hgs
    rw [hgs] at hok hbad
    obtain ⟨rfl, rfl⟩ := hbad h
    rw [hgs]
    simp -dsimp -implicitDefEqProofs only [B0, B1, B2, B3, B4, B5, B6, ↓ordOK_f, ↓ordOK_e, ↓ordCalls_f, ↓brB_tt, ↓brB_ff, ↓brB_tf, ↓brB_ft, ↓reduceIte, condWp, opSem, opSem0, tkOp, Out.tokV, retok1, constAV, binSem, unSem, intOp, strOp, loadSem, storeSem, fieldAddrSem, indexAddrSem, fieldSem, indexSem, lenSem, buildSem, buildSliceSem, appendSem, srcA, convSem, sliceSem, bndA, slTok, makeSliceSem, copySem, Res.obj?, cmpOK, cmpParts, tplace, Nat.reduceEqDiff, Nat.reduceAdd, Nat.reduceMul, Nat.reduceLeDiff, Nat.reduceLT, Nat.reduceBEq, Nat.reducePow, Int.reduceToNat, Int.reduceLE, Int.reduceLT, Int.reduceNeg, reduceCtorEq, cxP, ne_eq, forall_eq, forall_eq_or_imp, resOne, resA, implies_true, forall_const, eq_self, Int.reduceEq, Int.reduceAdd, Int.reduceSub, Int.reduceMul, Nat.reduceSub, Nat.le_add_right, t2, t3, t4, t5, t24, t34, t47, t49, t50, t55, t75, nb_vals, nb_u8s, vals_len, u8s_length, u8_cs, u8_gd, u8_ag, u8_nb, nb_eye, nb_acts, cfgA, zeroC]
  · as_aux_lemma =>
    rw [if_pos h] at hgs
    simp -dsimp -implicitDefEqProofs only [B0, B1, B2, B3, B4, B5, B6, ↓ordOK_f, ↓ordOK_e, ↓ordCalls_f, ↓brB_tt, ↓brB_ff, ↓brB_tf, ↓brB_ft, ↓reduceIte, condWp, opSem, opSem0, tkOp, Out.tokV, retok1, constAV, binSem, unSem, intOp, strOp, loadSem, storeSem, fieldAddrSem, indexAddrSem, fieldSem, indexSem, lenSem, buildSem, buildSliceSem, appendSem, srcA, convSem, sliceSem, bndA, slTok, makeSliceSem, copySem, Res.obj?, cmpOK, cmpParts, tplace, Nat.reduceEqDiff, Nat.reduceAdd, Nat.reduceMul, Nat.reduceLeDiff, Nat.reduceLT, Nat.reduceBEq, Nat.reducePow, Int.reduceToNat, Int.reduceLE, Int.reduceLT, Int.reduceNeg, reduceCtorEq, cxP, ne_eq, forall_eq, forall_eq_or_imp, resOne, resA, implies_true, forall_const, eq_self, Int.reduceEq, Int.reduceAdd, Int.reduceSub, Int.reduceMul, Nat.reduceSub, Nat.le_add_right, t2, t3, t4, t5, t24, t34, t47, t49, t50, t55, t75, nb_vals, nb_u8s, vals_len, u8s_length, u8_cs, u8_gd, u8_ag, u8_nb, nb_eye, nb_acts]
    refine ⟨⟨rfl, rfl⟩, callK_by (wright_spec _ c0) ?_⟩
    simp -dsimp -implicitDefEqProofs only [B0, B1, B2, B3, B4, B5, B6, ↓ordOK_f, ↓ordOK_e, ↓ordCalls_f, ↓brB_tt, ↓brB_ff, ↓brB_tf, ↓brB_ft, ↓reduceIte, condWp, opSem, opSem0, tkOp, Out.tokV, retok1, constAV, binSem, unSem, intOp, strOp, loadSem, storeSem, fieldAddrSem, indexAddrSem, fieldSem, indexSem, lenSem, buildSem, buildSliceSem, appendSem, srcA, convSem, sliceSem, bndA, slTok, makeSliceSem, copySem, Res.obj?, cmpOK, cmpParts, tplace, Nat.reduceEqDiff, Nat.reduceAdd, Nat.reduceMul, Nat.reduceLeDiff, Nat.reduceLT, Nat.reduceBEq, Nat.reducePow, Int.reduceToNat, Int.reduceLE, Int.reduceLT, Int.reduceNeg, reduceCtorEq, cxP, ne_eq, forall_eq, forall_eq_or_imp, resOne, resA, implies_true, forall_const, eq_self, Int.reduceEq, Int.reduceAdd, Int.reduceSub, Int.reduceMul, Nat.reduceSub, Nat.le_add_right, t2, t3, t4, t5, t24, t34, t47, t49, t50, t55, t75, nb_vals, nb_u8s, vals_len, u8s_length, u8_cs, u8_gd, u8_ag, u8_nb, nb_eye, nb_acts]
    refine brF (fun h2 => ?_) (fun h2 => ?_)
    · as_aux_lemma =>
      rw [if_neg h2] at hgs
      rw [hgs] at hok hbad
      obtain ⟨rfl, rfl⟩ := hbad (by simp)
      rw [hgs]
      simp -dsimp -implicitDefEqProofs only [B0, B1, B2, B3, B4, B5, B6, ↓ordOK_f, ↓ordOK_e, ↓ordCalls_f, ↓brB_tt, ↓brB_ff, ↓brB_tf, ↓brB_ft, ↓reduceIte, condWp, opSem, opSem0, tkOp, Out.tokV, retok1, constAV, binSem, unSem, intOp, strOp, loadSem, storeSem, fieldAddrSem, indexAddrSem, fieldSem, indexSem, lenSem, buildSem, buildSliceSem, appendSem, srcA, convSem, sliceSem, bndA, slTok, makeSliceSem, copySem, Res.obj?, cmpOK, cmpParts, tplace, Nat.reduceEqDiff, Nat.reduceAdd, Nat.reduceMul, Nat.reduceLeDiff, Nat.reduceLT, Nat.reduceBEq, Nat.reducePow, Int.reduceToNat, Int.reduceLE, Int.reduceLT, Int.reduceNeg, reduceCtorEq, cxP, ne_eq, forall_eq, forall_eq_or_imp, resOne, resA, implies_true, forall_const, eq_self, Int.reduceEq, Int.reduceAdd, Int.reduceSub, Int.reduceMul, Nat.reduceSub, Nat.le_add_right, t2, t3, t4, t5, t24, t34, t47, t49, t50, t55, t75, nb_vals, nb_u8s, vals_len, u8s_length, u8_cs, u8_gd, u8_ag, u8_nb, nb_eye, nb_acts, cfgA, zeroC]
    · as_aux_lemma =>
      rw [if_pos h2] at hgs
      rw [hgs] at hok hbad
      obtain ⟨rfl, rfl⟩ := hok rfl
      rw [hgs]
      simp -dsimp -implicitDefEqProofs only [B0, B1, B2, B3, B4, B5, B6, ↓ordOK_f, ↓ordOK_e, ↓ordCalls_f, ↓brB_tt, ↓brB_ff, ↓brB_tf, ↓brB_ft, ↓reduceIte, condWp, opSem, opSem0, tkOp, Out.tokV, retok1, constAV, binSem, unSem, intOp, strOp, loadSem, storeSem, fieldAddrSem, indexAddrSem, fieldSem, indexSem, lenSem, buildSem, buildSliceSem, appendSem, srcA, convSem, sliceSem, bndA, slTok, makeSliceSem, copySem, Res.obj?, cmpOK, cmpParts, tplace, Nat.reduceEqDiff, Nat.reduceAdd, Nat.reduceMul, Nat.reduceLeDiff, Nat.reduceLT, Nat.reduceBEq, Nat.reducePow, Int.reduceToNat, Int.reduceLE, Int.reduceLT, Int.reduceNeg, reduceCtorEq, cxP, ne_eq, forall_eq, forall_eq_or_imp, resOne, resA, implies_true, forall_const, eq_self, Int.reduceEq, Int.reduceAdd, Int.reduceSub, Int.reduceMul, Nat.reduceSub, Nat.le_add_right, t2, t3, t4, t5, t24, t34, t47, t49, t50, t55, t75, nb_vals, nb_u8s, vals_len, u8s_length, u8_cs, u8_gd, u8_ag, u8_nb, nb_eye, nb_acts, cfgA, zeroC]
      omega

theorem getS_bad (b : List UInt8) (h : (getS b).2.2 ≠ 0) : (getS b).2.1 = [] := by
  simp only [getS] at h ⊢
  split
  · rename_i h1
    rw [if_pos h1] at h
    split
    · rename_i h2; rw [if_pos h2] at h; exact absurd rfl h
    · rfl
  · rfl
theorem get_spec (nx : Nat) (b : List UInt8) (hb : b.length < 2 ^ 40) : FnSpec Try.prog 24 nx [.sl 1 (u8s b) 0] [] (.tup [cfgA (getS b).1, .sl 4 (actsA (getS b).2.1) 0, n64 (getS b).2.2]) [] 0 := by
  by_cases h : (getS b).2.2 = 0
  · refine (get_walk nx b (.sl 4 (actsA (getS b).2.1) (nx + 460)) [(nx + 458, some (.tail (getS b).2.1.length))] hb rfl (fun _ => ⟨rfl, rfl⟩) (fun h' => absurd h h')).forget0 ⟨rfl, ?_⟩ (by simp [AV.nb, AV.nbs, cfgA, nb_acts]) (by simp [keys])
    intro i x y hx hy
    match i with
    | 0 => simp at hx hy; subst hx hy; exact .inl rfl
    | 1 => simp at hx hy; subst hx hy; exact .inr ⟨rfl, rfl, .inr ⟨.inl rfl, .inl rfl⟩⟩
    | 2 => simp at hx hy; subst hx hy; exact .inl rfl
    | k + 3 => simp at hx
  · have e := getS_bad b h
    refine (get_walk nx b (.sl 0 [] 1) [] hb rfl (fun h' => absurd h' h) (fun _ => ⟨rfl, rfl⟩)).forget0 ⟨rfl, ?_⟩ (by simp [AV.nb, AV.nbs, cfgA, nb_acts]) (by simp [keys])
    intro i x y hx hy
    match i with
    | 0 => simp at hx hy; subst hx hy; exact .inl rfl
    | 1 => simp at hx hy; subst hx hy; exact .inr ⟨rfl, by rw [e]; exact ⟨rfl, .inr ⟨.inr rfl, .inl rfl⟩⟩⟩
    | 2 => simp at hx hy; subst hx hy; exact .inl rfl
    | k + 3 => simp at hx
end Go.Proofs.Ytfdlcefiidanlaa

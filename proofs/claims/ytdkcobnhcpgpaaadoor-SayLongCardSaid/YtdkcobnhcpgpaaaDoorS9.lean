/-
  say.Line, and the law's line.
-/
import Derived.Test.YtdkcobnhcpgpaaaDoorS5
import Derived.Test.YtdkcobnhcpgpaaaDoorS8
set_option linter.unusedSimpArgs false
set_option linter.unusedVariables false
set_option maxRecDepth 100000
set_option maxHeartbeats 4000000
namespace Go.Proofs.YtdkcobnhcpgpaaaDoor
open Go Go.AL Go.Proofs.YtdkcobnhcpgpaaaDoor.T

/-- the line of an act -/
def lineT (a : Act_) : List UInt8 :=
  if RightP a then wordOf a.k ++ (if hasIL a.k then 32 :: decT a.i else []) ++ (if hasNL a.k then 32 :: decT a.n else []) ++ (if hasDL a.k then 32 :: hexT a.d else []) else []
theorem txt_lit (a : List UInt8) : [AV.val (Value.string (bstr a))] = txts [a] := rfl
theorem txts_app (a b : List (List UInt8)) : txts a ++ txts b = txts (a ++ b) := by simp [txts]
theorem i64_id {n : Int} (h1 : -(2 ^ 62) < n) (h2 : n < 2 ^ 62) : IntKind.i64.wrap n = n := by rw [IntKind.wrap_i64]; omega
theorem decT_len {n : Int} (h1 : -(2 ^ 60) < n) (h2 : n < 2 ^ 60) : (decT n).length ≤ 20 := by
  have := dec_len 18 n.natAbs (by omega)
  unfold decT; split <;> simp <;> omega
theorem hexT_len (l : List UInt8) : (hexT l).length ≤ 2 * l.length + 1 := by
  unfold hexT; split
  · simp
  · rw [Tryd.hexOf_length]; omega
theorem wordOf_len (k : Int) : (wordOf k).length ≤ 7 := by
  unfold wordOf; split
  · rename_i h
    have key : ∀ j : Fin 18, (namesL.getD j.val []).length ≤ 7 := by decide
    exact key ⟨k.toNat, by omega⟩
  · simp

--LOCAL: and_0_1, and_0_2, and_0_4, and_1_1, and_1_2, and_1_4, and_2_1, and_2_2, and_2_4, and_3_1, and_3_2, and_3_4, and_4_1, and_4_2, and_4_4, txts_gc, nb_u8s, u8s_length, nb_txts, txts_length, mk_bstr, empty_bstr, bytesOf_u8s, bs_size, bs_app, bs_eq, actA, txt_lit, txts_app, names_len, rightB
theorem line_spec (nx tok : Nat) (a : Act_) (hl : a.d.length < 2 ^ 40) (ht : tok < 2 ∨ tok - 2 < nx) : FnSpec Tryd.prog 8 nx [actA a tok] [] (txt (lineT a)) [] 0 := by
  by_cases hr : RightP a
  · have hr' := hr
    obtain ⟨k1, k2, -, -, -, b1, b2, b3, b4, b5⟩ := hr'
    have hg := txts_get (l := namesL) (i := a.k.toNat) (by rw [names_len]; omega)
    have hw : namesL.getD a.k.toNat [] = wordOf a.k := by rw [wordOf, if_pos ⟨k1, k2⟩]
    rw [hw] at hg
    have hwl := wordOf_len a.k
    have hi := i64_id (n := a.i) (by omega) (by omega)
    have d1 := decT_len (n := a.i) (by omega) (by omega)
    have d2 := decT_len (n := a.n) (by omega) (by omega)
    have d3 := hexT_len a.d
    rw [lineT, if_pos hr]
    refine FnSpec.of_code (cx := cx) (an := {}) (rs := [.tmp 2]) mo Tryd.func8 rfl rfl (by kernel_rfl) (by kernel_rfl) (by show 1 ≤ _; decide) (.inl rfl) (by simp [allWr, keys, Res.wr]) ?_
    repeat' (first | omega | assumption | refine brF (fun _ => ?_) (fun _ => ?_) | refine brT (fun _ => ?_) (fun _ => ?_) | refine brVF (fun _ => ?_) (fun _ => ?_) | refine brVT (fun _ => ?_) (fun _ => ?_) | (with_reducible refine And.intro ?_ ?_) | (refine callK_by (right_spec _ tok a (by omega)) ?_) | (simp -dsimp -implicitDefEqProofs only [B0, B1, B2, B3, B4, B5, B6, ↓ordOK_f, ↓ordOK_e, ↓ordCalls_f, ↓brB_tt, ↓brB_ff, ↓brB_tf, ↓brB_ft, ↓reduceIte, condWp, opSem, opSem0, tkOp, Out.tokV, retok1, constAV, binSem, unSem, intOp, strOp, loadSem, storeSem, fieldAddrSem, indexAddrSem, fieldSem, indexSem, lenSem, buildSem, buildSliceSem, appendSem, srcA, convSem, sliceSem, bndA, slTok, makeSliceSem, copySem, Res.obj?, cmpOK, cmpParts, tplace, Nat.reduceEqDiff, Nat.reduceAdd, Nat.reduceMul, Nat.reduceLeDiff, Nat.reduceLT, Nat.reduceBEq, Nat.reducePow, Int.reduceToNat, Int.reduceLE, Int.reduceLT, Int.reduceNeg, reduceCtorEq, cxP, ne_eq, forall_eq, forall_eq_or_imp, resOne, resA, implies_true, forall_const, eq_self, Int.reduceEq, Int.reduceAdd, Int.reduceSub, Int.reduceMul, Nat.reduceSub, Nat.le_add_right, Out.fg, fgA, t2, t3, t4, t5, t9, t22, t24, t41, and_0_1, and_0_2, and_0_4, and_1_1, and_1_2, and_1_4, and_2_1, and_2_2, and_2_4, and_3_1, and_3_2, and_3_4, and_4_1, and_4_2, and_4_4, txts_gc, nb_u8s, u8s_length, nb_txts, txts_length, mk_bstr, empty_bstr, bytesOf_u8s, bs_size, bs_app, bs_eq, actA, txt_lit, txts_app, names_len, rightB, hr]))
    rcases hasK_cases a.k with ⟨h0, h1, h2, h3⟩ | ⟨h0, h1, h2, h3⟩ | ⟨h0, h1, h2, h3⟩ | ⟨h0, h1, h2, h3⟩ | ⟨h0, h1, h2, h3⟩
    all_goals (repeat' (first | omega | assumption | refine brF (fun _ => ?_) (fun _ => ?_) | refine brT (fun _ => ?_) (fun _ => ?_) | refine brVF (fun _ => ?_) (fun _ => ?_) | refine brVT (fun _ => ?_) (fun _ => ?_) | (with_reducible refine And.intro ?_ ?_) | (refine callK_by (has_spec _ _) ?_) | (refine callK_by (names_spec _) ?_) | (refine callK_by (digits_spec _ _ (by omega) (by omega)) ?_) | (refine callK_by (hex_spec _ tok _ (by omega)) ?_) | (refine callK_by (join_spec _ _ _ _ _ (by simp) (by simp [Lib.join, List.intercalate]; omega)) ?_) | (simp -dsimp -implicitDefEqProofs only [B0, B1, B2, B3, B4, B5, B6, ↓ordOK_f, ↓ordOK_e, ↓ordCalls_f, ↓brB_tt, ↓brB_ff, ↓brB_tf, ↓brB_ft, ↓reduceIte, condWp, opSem, opSem0, tkOp, Out.tokV, retok1, constAV, binSem, unSem, intOp, strOp, loadSem, storeSem, fieldAddrSem, indexAddrSem, fieldSem, indexSem, lenSem, buildSem, buildSliceSem, appendSem, srcA, convSem, sliceSem, bndA, slTok, makeSliceSem, copySem, Res.obj?, cmpOK, cmpParts, tplace, Nat.reduceEqDiff, Nat.reduceAdd, Nat.reduceMul, Nat.reduceLeDiff, Nat.reduceLT, Nat.reduceBEq, Nat.reducePow, Int.reduceToNat, Int.reduceLE, Int.reduceLT, Int.reduceNeg, reduceCtorEq, cxP, ne_eq, forall_eq, forall_eq_or_imp, resOne, resA, implies_true, forall_const, eq_self, Int.reduceEq, Int.reduceAdd, Int.reduceSub, Int.reduceMul, Nat.reduceSub, Nat.le_add_right, Out.fg, fgA, t2, t3, t4, t5, t9, t22, t24, t41, and_0_1, and_0_2, and_0_4, and_1_1, and_1_2, and_1_4, and_2_1, and_2_2, and_2_4, and_3_1, and_3_2, and_3_4, and_4_1, and_4_2, and_4_4, txts_gc, nb_u8s, u8s_length, nb_txts, txts_length, mk_bstr, empty_bstr, bytesOf_u8s, bs_size, bs_app, bs_eq, actA, txt_lit, txts_app, names_len, rightB, hr, h0, hg, hi])))
    all_goals (simp only [h1, h2, h3, if_true, Bool.false_eq_true, if_false, List.append_nil]; refine congrArg txt ?_; simp [Lib.join, List.intercalate])
  · rw [lineT, if_neg hr]
    refine FnSpec.of_code (cx := cx) (an := {}) (rs := [.tmp 2]) mo Tryd.func8 rfl rfl (by kernel_rfl) (by kernel_rfl) (by show 1 ≤ _; decide) (.inl rfl) (by simp [allWr, keys, Res.wr]) ?_
    repeat' (first | omega | assumption | refine brF (fun _ => ?_) (fun _ => ?_) | refine brT (fun _ => ?_) (fun _ => ?_) | refine brVF (fun _ => ?_) (fun _ => ?_) | refine brVT (fun _ => ?_) (fun _ => ?_) | (with_reducible refine And.intro ?_ ?_) | (refine callK_by (right_spec _ tok a (by omega)) ?_) | (simp -dsimp -implicitDefEqProofs only [B0, B1, B2, B3, B4, B5, B6, ↓ordOK_f, ↓ordOK_e, ↓ordCalls_f, ↓brB_tt, ↓brB_ff, ↓brB_tf, ↓brB_ft, ↓reduceIte, condWp, opSem, opSem0, tkOp, Out.tokV, retok1, constAV, binSem, unSem, intOp, strOp, loadSem, storeSem, fieldAddrSem, indexAddrSem, fieldSem, indexSem, lenSem, buildSem, buildSliceSem, appendSem, srcA, convSem, sliceSem, bndA, slTok, makeSliceSem, copySem, Res.obj?, cmpOK, cmpParts, tplace, Nat.reduceEqDiff, Nat.reduceAdd, Nat.reduceMul, Nat.reduceLeDiff, Nat.reduceLT, Nat.reduceBEq, Nat.reducePow, Int.reduceToNat, Int.reduceLE, Int.reduceLT, Int.reduceNeg, reduceCtorEq, cxP, ne_eq, forall_eq, forall_eq_or_imp, resOne, resA, implies_true, forall_const, eq_self, Int.reduceEq, Int.reduceAdd, Int.reduceSub, Int.reduceMul, Nat.reduceSub, Nat.le_add_right, Out.fg, fgA, t2, t3, t4, t5, t9, t22, t24, t41, and_0_1, and_0_2, and_0_4, and_1_1, and_1_2, and_1_4, and_2_1, and_2_2, and_2_4, and_3_1, and_3_2, and_3_4, and_4_1, and_4_2, and_4_4, txts_gc, nb_u8s, u8s_length, nb_txts, txts_length, mk_bstr, empty_bstr, bytesOf_u8s, bs_size, bs_app, bs_eq, actA, txt_lit, txts_app, names_len, rightB, hr]))
    rfl

theorem lineL_spec (nx tok : Nat) (a : Act_) (hl : a.d.length < 2 ^ 40) (ht : tok < 2 ∨ tok - 2 < nx) : FnSpec Tryd.prog 12 nx [actA a tok] [] (txt (lineT a)) [] 0 := by
  by_cases hr : RightP a
  · have hr' := hr
    obtain ⟨k1, k2, -, -, -, b1, b2, b3, b4, b5⟩ := hr'
    have hwl := wordOf_len a.k
    have hi := i64_id (n := a.i) (by omega) (by omega)
    have d1 := decT_len (n := a.i) (by omega) (by omega)
    have d2 := decT_len (n := a.n) (by omega) (by omega)
    have d3 := hexT_len a.d
    rw [lineT, if_pos hr]
    refine FnSpec.of_code (cx := cx) (an := {}) (rs := [.tmp 2]) mo Tryd.func12 rfl rfl (by kernel_rfl) (by kernel_rfl) (by show 1 ≤ _; decide) (.inl rfl) (by simp [allWr, keys, Res.wr]) ?_
    repeat' (first | omega | assumption | refine brF (fun _ => ?_) (fun _ => ?_) | refine brT (fun _ => ?_) (fun _ => ?_) | refine brVF (fun _ => ?_) (fun _ => ?_) | refine brVT (fun _ => ?_) (fun _ => ?_) | (with_reducible refine And.intro ?_ ?_) | (refine callK_by (rightL_spec _ tok a (by omega)) ?_) | (simp -dsimp -implicitDefEqProofs only [B0, B1, B2, B3, B4, B5, B6, ↓ordOK_f, ↓ordOK_e, ↓ordCalls_f, ↓brB_tt, ↓brB_ff, ↓brB_tf, ↓brB_ft, ↓reduceIte, condWp, opSem, opSem0, tkOp, Out.tokV, retok1, constAV, binSem, unSem, intOp, strOp, loadSem, storeSem, fieldAddrSem, indexAddrSem, fieldSem, indexSem, lenSem, buildSem, buildSliceSem, appendSem, srcA, convSem, sliceSem, bndA, slTok, makeSliceSem, copySem, Res.obj?, cmpOK, cmpParts, tplace, Nat.reduceEqDiff, Nat.reduceAdd, Nat.reduceMul, Nat.reduceLeDiff, Nat.reduceLT, Nat.reduceBEq, Nat.reducePow, Int.reduceToNat, Int.reduceLE, Int.reduceLT, Int.reduceNeg, reduceCtorEq, cxP, ne_eq, forall_eq, forall_eq_or_imp, resOne, resA, implies_true, forall_const, eq_self, Int.reduceEq, Int.reduceAdd, Int.reduceSub, Int.reduceMul, Nat.reduceSub, Nat.le_add_right, Out.fg, fgA, t2, t3, t4, t5, t9, t22, t24, and_0_1, and_0_2, and_0_4, and_1_1, and_1_2, and_1_4, and_2_1, and_2_2, and_2_4, and_3_1, and_3_2, and_3_4, and_4_1, and_4_2, and_4_4, txts_gc, nb_u8s, u8s_length, nb_txts, txts_length, mk_bstr, empty_bstr, bytesOf_u8s, bs_size, bs_app, bs_eq, actA, txt_lit, txts_app, names_len, rightB, hr]))
    rcases hasK_cases a.k with ⟨h0, h1, h2, h3⟩ | ⟨h0, h1, h2, h3⟩ | ⟨h0, h1, h2, h3⟩ | ⟨h0, h1, h2, h3⟩ | ⟨h0, h1, h2, h3⟩
    all_goals (repeat' (first | omega | assumption | refine brF (fun _ => ?_) (fun _ => ?_) | refine brT (fun _ => ?_) (fun _ => ?_) | refine brVF (fun _ => ?_) (fun _ => ?_) | refine brVT (fun _ => ?_) (fun _ => ?_) | (with_reducible refine And.intro ?_ ?_) | (refine callK_by (word_spec _ _) ?_) | (refine callK_by (hasI_spec _ _) ?_) | (refine callK_by (hasN_spec _ _) ?_) | (refine callK_by (hasD_spec _ _) ?_) | (refine callK_by (digitsL_spec _ _ (by omega) (by omega)) ?_) | (refine callK_by (hexL_spec _ tok _ (by omega) (by omega)) ?_) | (simp -dsimp -implicitDefEqProofs only [B0, B1, B2, B3, B4, B5, B6, ↓ordOK_f, ↓ordOK_e, ↓ordCalls_f, ↓brB_tt, ↓brB_ff, ↓brB_tf, ↓brB_ft, ↓reduceIte, condWp, opSem, opSem0, tkOp, Out.tokV, retok1, constAV, binSem, unSem, intOp, strOp, loadSem, storeSem, fieldAddrSem, indexAddrSem, fieldSem, indexSem, lenSem, buildSem, buildSliceSem, appendSem, srcA, convSem, sliceSem, bndA, slTok, makeSliceSem, copySem, Res.obj?, cmpOK, cmpParts, tplace, Nat.reduceEqDiff, Nat.reduceAdd, Nat.reduceMul, Nat.reduceLeDiff, Nat.reduceLT, Nat.reduceBEq, Nat.reducePow, Int.reduceToNat, Int.reduceLE, Int.reduceLT, Int.reduceNeg, reduceCtorEq, cxP, ne_eq, forall_eq, forall_eq_or_imp, resOne, resA, implies_true, forall_const, eq_self, Int.reduceEq, Int.reduceAdd, Int.reduceSub, Int.reduceMul, Nat.reduceSub, Nat.le_add_right, Out.fg, fgA, t2, t3, t4, t5, t9, t22, t24, and_0_1, and_0_2, and_0_4, and_1_1, and_1_2, and_1_4, and_2_1, and_2_2, and_2_4, and_3_1, and_3_2, and_3_4, and_4_1, and_4_2, and_4_4, txts_gc, nb_u8s, u8s_length, nb_txts, txts_length, mk_bstr, empty_bstr, bytesOf_u8s, bs_size, bs_app, bs_eq, actA, txt_lit, txts_app, names_len, rightB, hr, h1, h2, h3, hi])))
    all_goals first
      | (simp only [List.length_append, List.length_cons, List.length_nil]; omega)
      | (simp only [h1, h2, h3, if_true, Bool.false_eq_true, if_false, List.append_nil]; refine congrArg txt ?_; simp)
  · rw [lineT, if_neg hr]
    refine FnSpec.of_code (cx := cx) (an := {}) (rs := [.tmp 2]) mo Tryd.func12 rfl rfl (by kernel_rfl) (by kernel_rfl) (by show 1 ≤ _; decide) (.inl rfl) (by simp [allWr, keys, Res.wr]) ?_
    repeat' (first | omega | assumption | refine brF (fun _ => ?_) (fun _ => ?_) | refine brT (fun _ => ?_) (fun _ => ?_) | refine brVF (fun _ => ?_) (fun _ => ?_) | refine brVT (fun _ => ?_) (fun _ => ?_) | (with_reducible refine And.intro ?_ ?_) | (refine callK_by (rightL_spec _ tok a (by omega)) ?_) | (simp -dsimp -implicitDefEqProofs only [B0, B1, B2, B3, B4, B5, B6, ↓ordOK_f, ↓ordOK_e, ↓ordCalls_f, ↓brB_tt, ↓brB_ff, ↓brB_tf, ↓brB_ft, ↓reduceIte, condWp, opSem, opSem0, tkOp, Out.tokV, retok1, constAV, binSem, unSem, intOp, strOp, loadSem, storeSem, fieldAddrSem, indexAddrSem, fieldSem, indexSem, lenSem, buildSem, buildSliceSem, appendSem, srcA, convSem, sliceSem, bndA, slTok, makeSliceSem, copySem, Res.obj?, cmpOK, cmpParts, tplace, Nat.reduceEqDiff, Nat.reduceAdd, Nat.reduceMul, Nat.reduceLeDiff, Nat.reduceLT, Nat.reduceBEq, Nat.reducePow, Int.reduceToNat, Int.reduceLE, Int.reduceLT, Int.reduceNeg, reduceCtorEq, cxP, ne_eq, forall_eq, forall_eq_or_imp, resOne, resA, implies_true, forall_const, eq_self, Int.reduceEq, Int.reduceAdd, Int.reduceSub, Int.reduceMul, Nat.reduceSub, Nat.le_add_right, Out.fg, fgA, t2, t3, t4, t5, t9, t22, t24, and_0_1, and_0_2, and_0_4, and_1_1, and_1_2, and_1_4, and_2_1, and_2_2, and_2_4, and_3_1, and_3_2, and_3_4, and_4_1, and_4_2, and_4_4, txts_gc, nb_u8s, u8s_length, nb_txts, txts_length, mk_bstr, empty_bstr, bytesOf_u8s, bs_size, bs_app, bs_eq, actA, txt_lit, txts_app, names_len, rightB, hr]))
    rfl
end Go.Proofs.YtdkcobnhcpgpaaaDoor

/-
  say: the law's own hex.
-/
import Derived.Test.YtdkcobnhcpgpaaaDoorS7
set_option linter.unusedSimpArgs false
set_option linter.unusedVariables false
set_option maxRecDepth 100000
set_option maxHeartbeats 4000000
namespace Go.Proofs.YtdkcobnhcpgpaaaDoor
open Go Go.AL Go.Proofs.YtdkcobnhcpgpaaaDoor.T

theorem sl16 {d : Nat} (h : d < 16) : List.drop d (48 :: List.take d ([49, 50, 51, 52, 53, 54, 55, 56, 57, 97, 98, 99, 100, 101, 102] : List UInt8)) = [Tryd.hexDigit d] := by
  have key : ∀ d : Fin 16, List.drop d.val (48 :: List.take d.val ([49, 50, 51, 52, 53, 54, 55, 56, 57, 97, 98, 99, 100, 101, 102] : List UInt8)) = [Tryd.hexDigit d.val] := by decide
  exact key ⟨d, h⟩
theorem wrapB {x : Int} {n : Nat} (h : x = (n : Int)) (hn : n < 256) : IntKind.u8.wrap x = (n : Int) := by
  rw [h]; simp [IntKind.wrap, IntKind.bits, IntKind.signed]; omega
theorem u8s_get {l : List UInt8} {i : Nat} (h : i < l.length) : (u8s l).getD i .undef = .val (.int .u8 ((l.getD i 0).toNat : Int)) := by
  simp only [u8s, List.getD_eq_getElem?_getD, List.getElem?_map, List.getElem?_eq_getElem h]; rfl
theorem hexOf_nil (l : List UInt8) : (Tryd.hexOf l = []) = (l = []) := by
  cases l <;> simp [Tryd.hexOf]

--LOCAL: txts_gc, nb_u8s, u8s_length, nb_txts, txts_length, mk_bstr, empty_bstr, bytesOf_u8s, bs_size, bs_app, bs_eq, bs_ext, u8_gc, isb6, u8_cons, u8_lit, List.length_cons, List.append_nil, u8s_app
theorem hexL_spec (nx tok : Nat) (l : List UInt8) (hl : l.length < 2 ^ 60) (ht : tok < 2 ∨ tok - 2 < nx) : FnSpec Tryd.prog 29 nx [.sl 1 (u8s l) tok] [] (txt (hexT l)) [] 0 := by
  refine FnSpec.of_code (cx := cx) (an := {}) (rs := [.tmp 2]) mo Tryd.func29 rfl rfl (by kernel_rfl) (by kernel_rfl) (by show 1 ≤ _; decide) (.inl rfl) (by simp [allWr, keys, Res.wr]) ?_
  simp -dsimp -implicitDefEqProofs only [B0, B1, B2, B3, B4, B5, B6, ↓ordOK_f, ↓ordOK_e, ↓ordCalls_f, ↓brB_tt, ↓brB_ff, ↓brB_tf, ↓brB_ft, ↓reduceIte, condWp, opSem, opSem0, tkOp, Out.tokV, retok1, constAV, binSem, unSem, intOp, strOp, loadSem, storeSem, fieldAddrSem, indexAddrSem, fieldSem, indexSem, lenSem, buildSem, buildSliceSem, appendSem, srcA, convSem, sliceSem, bndA, slTok, makeSliceSem, copySem, Res.obj?, cmpOK, cmpParts, tplace, Nat.reduceEqDiff, Nat.reduceAdd, Nat.reduceMul, Nat.reduceLeDiff, Nat.reduceLT, Nat.reduceBEq, Nat.reducePow, Int.reduceToNat, Int.reduceLE, Int.reduceLT, Int.reduceNeg, reduceCtorEq, cxP, ne_eq, forall_eq, forall_eq_or_imp, resOne, resA, implies_true, forall_const, eq_self, Int.reduceEq, Int.reduceAdd, Int.reduceSub, Int.reduceMul, Nat.reduceSub, Nat.le_add_right, Out.fg, fgA, t3, t5, t9, t22, txts_gc, nb_u8s, u8s_length, nb_txts, txts_length, mk_bstr, empty_bstr, bytesOf_u8s, bs_size, bs_app, bs_eq, bs_ext, u8_gc, isb6, u8_cons, u8_lit, List.length_cons, List.append_nil, u8s_app]
  apply loop_keep [0] (fun i : { i : Nat // i ≤ l.length } => [(3, txt (Tryd.hexOf (l.take i.1))), (4, iA i.1)]) (fun _ => []) (fun i => l.length - i.1) ⟨0, Nat.zero_le _⟩
  · simp -dsimp -implicitDefEqProofs only [B0, B1, B2, B3, B4, B5, B6, ↓ordOK_f, ↓ordOK_e, ↓ordCalls_f, ↓brB_tt, ↓brB_ff, ↓brB_tf, ↓brB_ft, ↓reduceIte, condWp, opSem, opSem0, tkOp, Out.tokV, retok1, constAV, binSem, unSem, intOp, strOp, loadSem, storeSem, fieldAddrSem, indexAddrSem, fieldSem, indexSem, lenSem, buildSem, buildSliceSem, appendSem, srcA, convSem, sliceSem, bndA, slTok, makeSliceSem, copySem, Res.obj?, cmpOK, cmpParts, tplace, Nat.reduceEqDiff, Nat.reduceAdd, Nat.reduceMul, Nat.reduceLeDiff, Nat.reduceLT, Nat.reduceBEq, Nat.reducePow, Int.reduceToNat, Int.reduceLE, Int.reduceLT, Int.reduceNeg, reduceCtorEq, cxP, ne_eq, forall_eq, forall_eq_or_imp, resOne, resA, implies_true, forall_const, eq_self, Int.reduceEq, Int.reduceAdd, Int.reduceSub, Int.reduceMul, Nat.reduceSub, Nat.le_add_right, Out.fg, fgA, txts_gc, nb_u8s, u8s_length, nb_txts, txts_length, mk_bstr, empty_bstr, bytesOf_u8s, bs_size, bs_app, bs_eq, bs_ext, u8_gc, isb6, u8_cons, u8_lit, List.length_cons, List.append_nil, u8s_app]; rfl
  · simp -dsimp -implicitDefEqProofs only [B0, B1, B2, B3, B4, B5, B6, ↓ordOK_f, ↓ordOK_e, ↓ordCalls_f, ↓brB_tt, ↓brB_ff, ↓brB_tf, ↓brB_ft, ↓reduceIte, condWp, opSem, opSem0, tkOp, Out.tokV, retok1, constAV, binSem, unSem, intOp, strOp, loadSem, storeSem, fieldAddrSem, indexAddrSem, fieldSem, indexSem, lenSem, buildSem, buildSliceSem, appendSem, srcA, convSem, sliceSem, bndA, slTok, makeSliceSem, copySem, Res.obj?, cmpOK, cmpParts, tplace, Nat.reduceEqDiff, Nat.reduceAdd, Nat.reduceMul, Nat.reduceLeDiff, Nat.reduceLT, Nat.reduceBEq, Nat.reducePow, Int.reduceToNat, Int.reduceLE, Int.reduceLT, Int.reduceNeg, reduceCtorEq, cxP, ne_eq, forall_eq, forall_eq_or_imp, resOne, resA, implies_true, forall_const, eq_self, Int.reduceEq, Int.reduceAdd, Int.reduceSub, Int.reduceMul, Nat.reduceSub, Nat.le_add_right, Out.fg, fgA, txts_gc, nb_u8s, u8s_length, nb_txts, txts_length, mk_bstr, empty_bstr, bytesOf_u8s, bs_size, bs_app, bs_eq, bs_ext, u8_gc, isb6, u8_cons, u8_lit, List.length_cons, List.append_nil, u8s_app]; rfl
  · simp -dsimp -implicitDefEqProofs only [B0, B1, B2, B3, B4, B5, B6, ↓ordOK_f, ↓ordOK_e, ↓ordCalls_f, ↓brB_tt, ↓brB_ff, ↓brB_tf, ↓brB_ft, ↓reduceIte, condWp, opSem, opSem0, tkOp, Out.tokV, retok1, constAV, binSem, unSem, intOp, strOp, loadSem, storeSem, fieldAddrSem, indexAddrSem, fieldSem, indexSem, lenSem, buildSem, buildSliceSem, appendSem, srcA, convSem, sliceSem, bndA, slTok, makeSliceSem, copySem, Res.obj?, cmpOK, cmpParts, tplace, Nat.reduceEqDiff, Nat.reduceAdd, Nat.reduceMul, Nat.reduceLeDiff, Nat.reduceLT, Nat.reduceBEq, Nat.reducePow, Int.reduceToNat, Int.reduceLE, Int.reduceLT, Int.reduceNeg, reduceCtorEq, cxP, ne_eq, forall_eq, forall_eq_or_imp, resOne, resA, implies_true, forall_const, eq_self, Int.reduceEq, Int.reduceAdd, Int.reduceSub, Int.reduceMul, Nat.reduceSub, Nat.le_add_right, Out.fg, fgA, txts_gc, nb_u8s, u8s_length, nb_txts, txts_length, mk_bstr, empty_bstr, bytesOf_u8s, bs_size, bs_app, bs_eq, bs_ext, u8_gc, isb6, u8_cons, u8_lit, List.length_cons, List.append_nil, u8s_app]
  · intro s
    simp -dsimp -implicitDefEqProofs only [B0, B1, B2, B3, B4, B5, B6, ↓ordOK_f, ↓ordOK_e, ↓ordCalls_f, ↓brB_tt, ↓brB_ff, ↓brB_tf, ↓brB_ft, ↓reduceIte, condWp, opSem, opSem0, tkOp, Out.tokV, retok1, constAV, binSem, unSem, intOp, strOp, loadSem, storeSem, fieldAddrSem, indexAddrSem, fieldSem, indexSem, lenSem, buildSem, buildSliceSem, appendSem, srcA, convSem, sliceSem, bndA, slTok, makeSliceSem, copySem, Res.obj?, cmpOK, cmpParts, tplace, Nat.reduceEqDiff, Nat.reduceAdd, Nat.reduceMul, Nat.reduceLeDiff, Nat.reduceLT, Nat.reduceBEq, Nat.reducePow, Int.reduceToNat, Int.reduceLE, Int.reduceLT, Int.reduceNeg, reduceCtorEq, cxP, ne_eq, forall_eq, forall_eq_or_imp, resOne, resA, implies_true, forall_const, eq_self, Int.reduceEq, Int.reduceAdd, Int.reduceSub, Int.reduceMul, Nat.reduceSub, Nat.le_add_right, Out.fg, fgA, txts_gc, nb_u8s, u8s_length, nb_txts, txts_length, mk_bstr, empty_bstr, bytesOf_u8s, bs_size, bs_app, bs_eq, bs_ext, u8_gc, isb6, u8_cons, u8_lit, List.length_cons, List.append_nil, u8s_app]
    omega
  · rintro ⟨i, hi⟩
    have hL : (Tryd.hexOf (l.take i)).length = 2 * i := by rw [Tryd.hexOf_length, List.length_take]; omega
    simp -dsimp -implicitDefEqProofs only [B0, B1, B2, B3, B4, B5, B6, ↓ordOK_f, ↓ordOK_e, ↓ordCalls_f, ↓brB_tt, ↓brB_ff, ↓brB_tf, ↓brB_ft, ↓reduceIte, condWp, opSem, opSem0, tkOp, Out.tokV, retok1, constAV, binSem, unSem, intOp, strOp, loadSem, storeSem, fieldAddrSem, indexAddrSem, fieldSem, indexSem, lenSem, buildSem, buildSliceSem, appendSem, srcA, convSem, sliceSem, bndA, slTok, makeSliceSem, copySem, Res.obj?, cmpOK, cmpParts, tplace, Nat.reduceEqDiff, Nat.reduceAdd, Nat.reduceMul, Nat.reduceLeDiff, Nat.reduceLT, Nat.reduceBEq, Nat.reducePow, Int.reduceToNat, Int.reduceLE, Int.reduceLT, Int.reduceNeg, reduceCtorEq, cxP, ne_eq, forall_eq, forall_eq_or_imp, resOne, resA, implies_true, forall_const, eq_self, Int.reduceEq, Int.reduceAdd, Int.reduceSub, Int.reduceMul, Nat.reduceSub, Nat.le_add_right, Out.fg, fgA, t3, t5, t9, t22, txts_gc, nb_u8s, u8s_length, nb_txts, txts_length, mk_bstr, empty_bstr, bytesOf_u8s, bs_size, bs_app, bs_eq, bs_ext, u8_gc, isb6, u8_cons, u8_lit, List.length_cons, List.append_nil, u8s_app]
    refine brT (fun h => ?_) (fun h => ?_)
    · have hi2 : i < l.length := by omega
      have hst := Tryd.hex_step l i hi2
      have hg := u8s_get hi2
      obtain ⟨x, hx⟩ : ∃ x, x = (l.getD i 0).toNat := ⟨_, rfl⟩
      have hx2 : x < 256 := by rw [hx]; exact UInt8.toNat_lt _
      rw [← hx] at hst hg
      have q1 : IntKind.u8.wrap ((x : Int).tdiv 16) = ((x / 16 : Nat) : Int) := wrapB rfl (by omega)
      have q2 : (x : Int).tmod 16 = ((x % 16 : Nat) : Int) := rfl
      have q3 : IntKind.u8.wrap (((x / 16 : Nat) : Int) + 1) = ((x / 16 + 1 : Nat) : Int) := wrapB (by omega) (by omega)
      have q4 : IntKind.u8.wrap (((x % 16 : Nat) : Int) + 1) = ((x % 16 + 1 : Nat) : Int) := wrapB (by omega) (by omega)
      have q5 := sl16 (d := x / 16) (by omega)
      have q6 := sl16 (d := x % 16) (by omega)
      have q7 : IntKind.i64.wrap ((i : Int) + 1) = ((i + 1 : Nat) : Int) := wrapI (by omega) (by omega)
      repeat' (first | omega | assumption | refine brF (fun _ => ?_) (fun _ => ?_) | refine brT (fun _ => ?_) (fun _ => ?_) | refine brVF (fun _ => ?_) (fun _ => ?_) | refine brVT (fun _ => ?_) (fun _ => ?_) | (with_reducible refine And.intro ?_ ?_) | (simp -dsimp -implicitDefEqProofs only [B0, B1, B2, B3, B4, B5, B6, ↓ordOK_f, ↓ordOK_e, ↓ordCalls_f, ↓brB_tt, ↓brB_ff, ↓brB_tf, ↓brB_ft, ↓reduceIte, condWp, opSem, opSem0, tkOp, Out.tokV, retok1, constAV, binSem, unSem, intOp, strOp, loadSem, storeSem, fieldAddrSem, indexAddrSem, fieldSem, indexSem, lenSem, buildSem, buildSliceSem, appendSem, srcA, convSem, sliceSem, bndA, slTok, makeSliceSem, copySem, Res.obj?, cmpOK, cmpParts, tplace, Nat.reduceEqDiff, Nat.reduceAdd, Nat.reduceMul, Nat.reduceLeDiff, Nat.reduceLT, Nat.reduceBEq, Nat.reducePow, Int.reduceToNat, Int.reduceLE, Int.reduceLT, Int.reduceNeg, reduceCtorEq, cxP, ne_eq, forall_eq, forall_eq_or_imp, resOne, resA, implies_true, forall_const, eq_self, Int.reduceEq, Int.reduceAdd, Int.reduceSub, Int.reduceMul, Nat.reduceSub, Nat.le_add_right, Out.fg, fgA, t3, t5, t9, t22, txts_gc, nb_u8s, u8s_length, nb_txts, txts_length, mk_bstr, empty_bstr, bytesOf_u8s, bs_size, bs_app, bs_eq, bs_ext, u8_gc, isb6, u8_cons, u8_lit, List.length_cons, List.append_nil, u8s_app, hg, q1, q2, q3, q4, q5, q6, q7]))
      refine ⟨⟨i + 1, hi2⟩, by show l.length - (i + 1) < l.length - i; omega, ?_, rfl⟩
      show _ = txt (Tryd.hexOf (l.take (i + 1)))
      rw [hst, List.append_assoc]; rfl
    · have e : i = l.length := by omega
      subst e
      have hn := hexOf_nil l
      have ht := List.take_length (l := l)
      repeat' (first | omega | assumption | refine brF (fun _ => ?_) (fun _ => ?_) | refine brT (fun _ => ?_) (fun _ => ?_) | refine brVF (fun _ => ?_) (fun _ => ?_) | refine brVT (fun _ => ?_) (fun _ => ?_) | (with_reducible refine And.intro ?_ ?_) | (simp -dsimp -implicitDefEqProofs only [B0, B1, B2, B3, B4, B5, B6, ↓ordOK_f, ↓ordOK_e, ↓ordCalls_f, ↓brB_tt, ↓brB_ff, ↓brB_tf, ↓brB_ft, ↓reduceIte, condWp, opSem, opSem0, tkOp, Out.tokV, retok1, constAV, binSem, unSem, intOp, strOp, loadSem, storeSem, fieldAddrSem, indexAddrSem, fieldSem, indexSem, lenSem, buildSem, buildSliceSem, appendSem, srcA, convSem, sliceSem, bndA, slTok, makeSliceSem, copySem, Res.obj?, cmpOK, cmpParts, tplace, Nat.reduceEqDiff, Nat.reduceAdd, Nat.reduceMul, Nat.reduceLeDiff, Nat.reduceLT, Nat.reduceBEq, Nat.reducePow, Int.reduceToNat, Int.reduceLE, Int.reduceLT, Int.reduceNeg, reduceCtorEq, cxP, ne_eq, forall_eq, forall_eq_or_imp, resOne, resA, implies_true, forall_const, eq_self, Int.reduceEq, Int.reduceAdd, Int.reduceSub, Int.reduceMul, Nat.reduceSub, Nat.le_add_right, Out.fg, fgA, t3, t5, t9, t22, txts_gc, nb_u8s, u8s_length, nb_txts, txts_length, mk_bstr, empty_bstr, bytesOf_u8s, bs_size, bs_app, bs_eq, bs_ext, u8_gc, isb6, u8_cons, u8_lit, List.length_cons, List.append_nil, u8s_app, ht, hn]))
      · rename_i h0
        rw [hexT, if_pos h0]
      · rename_i h0
        rw [hexT, if_neg h0]
end Go.Proofs.YtdkcobnhcpgpaaaDoor

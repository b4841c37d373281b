/-
  say: the law's own digits and hex.
-/
import Derived.Test.YtdkcobnhcpgpaaaDoorS6
set_option linter.unusedSimpArgs false
set_option linter.unusedVariables false
set_option maxRecDepth 100000
set_option maxHeartbeats 4000000
namespace Go.Proofs.YtdkcobnhcpgpaaaDoor
open Go Go.AL Go.Proofs.YtdkcobnhcpgpaaaDoor.T

theorem sl10 {d : Nat} (h : d < 10) : List.drop d (List.take (d + 1) ([48, 49, 50, 51, 52, 53, 54, 55, 56, 57] : List UInt8)) = [UInt8.ofNat (48 + d)] := by
  have key : ∀ d : Fin 10, List.drop d.val (List.take (d.val + 1) ([48, 49, 50, 51, 52, 53, 54, 55, 56, 57] : List UInt8)) = [UInt8.ofNat (48 + d.val)] := by decide
  exact key ⟨d, h⟩
theorem sl10' {d : Nat} (h : d < 10) : List.drop d (48 :: List.take d ([49, 50, 51, 52, 53, 54, 55, 56, 57] : List UInt8)) = [UInt8.ofNat (48 + d)] := sl10 h
theorem wrapI {x : Int} {n : Nat} (h : x = (n : Int)) (hn : n < 2 ^ 63) : IntKind.i64.wrap x = (n : Int) := by rw [IntKind.wrap_i64]; omega

def DigI (v0 : Nat) (n : Nat) (s : List UInt8) : Prop := (s = [] ∧ n = v0) ∨ (s ≠ [] ∧ n = 0 ∧ s = dec v0) ∨ (s ≠ [] ∧ n ≠ 0 ∧ dec v0 = dec n ++ s)
theorem DigI.step {v0 n : Nat} {s : List UInt8} (h : DigI v0 n s) (hc : n ≠ 0 ∨ s = []) : DigI v0 (n / 10) (UInt8.ofNat (48 + n % 10) :: s) := by
  have h1 : dec v0 = dec n ++ s := by
    rcases h with ⟨rfl, rfl⟩ | ⟨a, b, _⟩ | ⟨_, _, c⟩
    · simp
    · rcases hc with hc | hc
      · exact absurd b hc
      · exact absurd hc a
    · exact c
  by_cases hn : n / 10 = 0
  · refine .inr (.inl ⟨by simp, hn, ?_⟩)
    rw [h1, dec_small (by omega), show n % 10 = n by omega]; rfl
  · refine .inr (.inr ⟨by simp, hn, ?_⟩)
    rw [h1, dec_big (by omega), List.append_assoc]; rfl
theorem DigI.done {v0 n : Nat} {s : List UInt8} (h : DigI v0 n s) (h1 : n = 0) (h2 : s ≠ []) : s = dec v0 := by
  rcases h with ⟨a, _⟩ | ⟨_, _, c⟩ | ⟨_, b, _⟩
  · exact absurd a h2
  · exact c
  · exact absurd h1 b
theorem DigI.len {v0 n : Nat} {s : List UInt8} (h : DigI v0 n s) (hv : v0 < 2 ^ 62) (hc : n ≠ 0 ∨ s = []) : s.length ≤ 18 := by
  have e1 := dec_len 18 v0 (by omega)
  have e2 := List.length_pos_iff.2 (dec_ne n)
  rcases h with ⟨rfl, rfl⟩ | ⟨a, b, _⟩ | ⟨_, _, c⟩
  · simp
  · rcases hc with hc | hc
    · exact absurd b hc
    · exact absurd hc a
  · rw [c, List.length_append] at e1; omega

--LOCAL: txts_gc, nb_u8s, u8s_length, nb_txts, txts_length, mk_bstr, empty_bstr, bytesOf_u8s, bs_size, bs_app, bs_eq, bs_ext, u8_gc, isb6, u8_cons, u8_lit, List.length_cons, List.append_nil, u8s_app
theorem digitsL_nat (nx : Nat) (v0 : Nat) (hv : v0 < 2 ^ 62) : FnSpec Tryd.prog 28 nx [iA v0] [] (txt (dec v0)) [] 0 := by
  have h0 : ¬ ((v0 : Int) < 0) := by omega
  refine FnSpec.of_code (cx := cx) (an := {}) (rs := [.tmp 2]) mo Tryd.func28 rfl rfl (by kernel_rfl) (by kernel_rfl) (by show 1 ≤ _; decide) (.inl rfl) (by simp [allWr, keys, Res.wr]) ?_
  simp -dsimp -implicitDefEqProofs only [B0, B1, B2, B3, B4, B5, B6, ↓ordOK_f, ↓ordOK_e, ↓ordCalls_f, ↓brB_tt, ↓brB_ff, ↓brB_tf, ↓brB_ft, ↓reduceIte, condWp, opSem, opSem0, tkOp, Out.tokV, retok1, constAV, binSem, unSem, intOp, strOp, loadSem, storeSem, fieldAddrSem, indexAddrSem, fieldSem, indexSem, lenSem, buildSem, buildSliceSem, appendSem, srcA, convSem, sliceSem, bndA, slTok, makeSliceSem, copySem, Res.obj?, cmpOK, cmpParts, tplace, Nat.reduceEqDiff, Nat.reduceAdd, Nat.reduceMul, Nat.reduceLeDiff, Nat.reduceLT, Nat.reduceBEq, Nat.reducePow, Int.reduceToNat, Int.reduceLE, Int.reduceLT, Int.reduceNeg, reduceCtorEq, cxP, ne_eq, forall_eq, forall_eq_or_imp, resOne, resA, implies_true, forall_const, eq_self, Int.reduceEq, Int.reduceAdd, Int.reduceSub, Int.reduceMul, Nat.reduceSub, Nat.le_add_right, Out.fg, fgA, t2, t3, t9, txts_gc, nb_u8s, u8s_length, nb_txts, txts_length, mk_bstr, empty_bstr, bytesOf_u8s, bs_size, bs_app, bs_eq, bs_ext, u8_gc, isb6, u8_cons, u8_lit, List.length_cons, List.append_nil, u8s_app, h0]
  apply loop_keep [] (fun s : { s : Nat × List UInt8 // DigI v0 s.1 s.2 ∧ s.1 ≤ v0 ∧ s.2.length ≤ 20 } => [(0, iA s.1.1), (3, txt s.1.2), (4, iA s.1.2.length)]) (fun _ => []) (fun s => 20 - s.1.2.length) ⟨(v0, []), .inl ⟨rfl, rfl⟩, by simp⟩
  · simp -dsimp -implicitDefEqProofs only [B0, B1, B2, B3, B4, B5, B6, ↓ordOK_f, ↓ordOK_e, ↓ordCalls_f, ↓brB_tt, ↓brB_ff, ↓brB_tf, ↓brB_ft, ↓reduceIte, condWp, opSem, opSem0, tkOp, Out.tokV, retok1, constAV, binSem, unSem, intOp, strOp, loadSem, storeSem, fieldAddrSem, indexAddrSem, fieldSem, indexSem, lenSem, buildSem, buildSliceSem, appendSem, srcA, convSem, sliceSem, bndA, slTok, makeSliceSem, copySem, Res.obj?, cmpOK, cmpParts, tplace, Nat.reduceEqDiff, Nat.reduceAdd, Nat.reduceMul, Nat.reduceLeDiff, Nat.reduceLT, Nat.reduceBEq, Nat.reducePow, Int.reduceToNat, Int.reduceLE, Int.reduceLT, Int.reduceNeg, reduceCtorEq, cxP, ne_eq, forall_eq, forall_eq_or_imp, resOne, resA, implies_true, forall_const, eq_self, Int.reduceEq, Int.reduceAdd, Int.reduceSub, Int.reduceMul, Nat.reduceSub, Nat.le_add_right, Out.fg, fgA, txts_gc, nb_u8s, u8s_length, nb_txts, txts_length, mk_bstr, empty_bstr, bytesOf_u8s, bs_size, bs_app, bs_eq, bs_ext, u8_gc, isb6, u8_cons, u8_lit, List.length_cons, List.append_nil, u8s_app]; rfl
  · simp -dsimp -implicitDefEqProofs only [B0, B1, B2, B3, B4, B5, B6, ↓ordOK_f, ↓ordOK_e, ↓ordCalls_f, ↓brB_tt, ↓brB_ff, ↓brB_tf, ↓brB_ft, ↓reduceIte, condWp, opSem, opSem0, tkOp, Out.tokV, retok1, constAV, binSem, unSem, intOp, strOp, loadSem, storeSem, fieldAddrSem, indexAddrSem, fieldSem, indexSem, lenSem, buildSem, buildSliceSem, appendSem, srcA, convSem, sliceSem, bndA, slTok, makeSliceSem, copySem, Res.obj?, cmpOK, cmpParts, tplace, Nat.reduceEqDiff, Nat.reduceAdd, Nat.reduceMul, Nat.reduceLeDiff, Nat.reduceLT, Nat.reduceBEq, Nat.reducePow, Int.reduceToNat, Int.reduceLE, Int.reduceLT, Int.reduceNeg, reduceCtorEq, cxP, ne_eq, forall_eq, forall_eq_or_imp, resOne, resA, implies_true, forall_const, eq_self, Int.reduceEq, Int.reduceAdd, Int.reduceSub, Int.reduceMul, Nat.reduceSub, Nat.le_add_right, Out.fg, fgA, txts_gc, nb_u8s, u8s_length, nb_txts, txts_length, mk_bstr, empty_bstr, bytesOf_u8s, bs_size, bs_app, bs_eq, bs_ext, u8_gc, isb6, u8_cons, u8_lit, List.length_cons, List.append_nil, u8s_app]
  · simp -dsimp -implicitDefEqProofs only [B0, B1, B2, B3, B4, B5, B6, ↓ordOK_f, ↓ordOK_e, ↓ordCalls_f, ↓brB_tt, ↓brB_ff, ↓brB_tf, ↓brB_ft, ↓reduceIte, condWp, opSem, opSem0, tkOp, Out.tokV, retok1, constAV, binSem, unSem, intOp, strOp, loadSem, storeSem, fieldAddrSem, indexAddrSem, fieldSem, indexSem, lenSem, buildSem, buildSliceSem, appendSem, srcA, convSem, sliceSem, bndA, slTok, makeSliceSem, copySem, Res.obj?, cmpOK, cmpParts, tplace, Nat.reduceEqDiff, Nat.reduceAdd, Nat.reduceMul, Nat.reduceLeDiff, Nat.reduceLT, Nat.reduceBEq, Nat.reducePow, Int.reduceToNat, Int.reduceLE, Int.reduceLT, Int.reduceNeg, reduceCtorEq, cxP, ne_eq, forall_eq, forall_eq_or_imp, resOne, resA, implies_true, forall_const, eq_self, Int.reduceEq, Int.reduceAdd, Int.reduceSub, Int.reduceMul, Nat.reduceSub, Nat.le_add_right, Out.fg, fgA, txts_gc, nb_u8s, u8s_length, nb_txts, txts_length, mk_bstr, empty_bstr, bytesOf_u8s, bs_size, bs_app, bs_eq, bs_ext, u8_gc, isb6, u8_cons, u8_lit, List.length_cons, List.append_nil, u8s_app]
  · intro s
    simp -dsimp -implicitDefEqProofs only [B0, B1, B2, B3, B4, B5, B6, ↓ordOK_f, ↓ordOK_e, ↓ordCalls_f, ↓brB_tt, ↓brB_ff, ↓brB_tf, ↓brB_ft, ↓reduceIte, condWp, opSem, opSem0, tkOp, Out.tokV, retok1, constAV, binSem, unSem, intOp, strOp, loadSem, storeSem, fieldAddrSem, indexAddrSem, fieldSem, indexSem, lenSem, buildSem, buildSliceSem, appendSem, srcA, convSem, sliceSem, bndA, slTok, makeSliceSem, copySem, Res.obj?, cmpOK, cmpParts, tplace, Nat.reduceEqDiff, Nat.reduceAdd, Nat.reduceMul, Nat.reduceLeDiff, Nat.reduceLT, Nat.reduceBEq, Nat.reducePow, Int.reduceToNat, Int.reduceLE, Int.reduceLT, Int.reduceNeg, reduceCtorEq, cxP, ne_eq, forall_eq, forall_eq_or_imp, resOne, resA, implies_true, forall_const, eq_self, Int.reduceEq, Int.reduceAdd, Int.reduceSub, Int.reduceMul, Nat.reduceSub, Nat.le_add_right, Out.fg, fgA, txts_gc, nb_u8s, u8s_length, nb_txts, txts_length, mk_bstr, empty_bstr, bytesOf_u8s, bs_size, bs_app, bs_eq, bs_ext, u8_gc, isb6, u8_cons, u8_lit, List.length_cons, List.append_nil, u8s_app]
  · rintro ⟨⟨n, s⟩, hs1, hs2, hs3⟩
    have hs1 : DigI v0 n s := hs1
    have hs2 : n ≤ v0 := hs2
    have hs3 : s.length ≤ 20 := hs3
    have hm : (n : Int).tmod 10 = ((n % 10 : Nat) : Int) := rfl
    have hm1 : IntKind.i64.wrap (((n % 10 : Nat) : Int) + 1) = ((n % 10 + 1 : Nat) : Int) := wrapI (by omega) (by omega)
    have hq : IntKind.i64.wrap ((n : Int).tdiv 10) = ((n / 10 : Nat) : Int) := wrapI rfl (by omega)
    have hsl := sl10' (d := n % 10) (by omega)
    have hi : IntKind.i64.wrap ((s.length : Int) + 1) = ((s.length + 1 : Nat) : Int) := wrapI (by omega) (by omega)
    have hgo : n ≠ 0 ∨ s = [] → ∃ t : { s : Nat × List UInt8 // DigI v0 s.1 s.2 ∧ s.1 ≤ v0 ∧ s.2.length ≤ 20 }, t.1 = (n / 10, UInt8.ofNat (48 + n % 10) :: s) ∧ s.length ≤ 18 := fun hc =>
      ⟨⟨(n / 10, UInt8.ofNat (48 + n % 10) :: s), hs1.step hc, by show n / 10 ≤ v0; omega, by have := hs1.len hv hc; simp only [List.length_cons]; omega⟩, rfl, hs1.len hv hc⟩
    have hfin : 20 ≤ s.length → s = dec v0 := fun h => by
      by_cases hc : n ≠ 0 ∨ s = []
      · have := hs1.len hv hc; omega
      · exact hs1.done (by omega) (fun e => hc (.inr e))
    repeat' (first | omega | assumption | refine brF (fun _ => ?_) (fun _ => ?_) | refine brT (fun _ => ?_) (fun _ => ?_) | refine brVF (fun _ => ?_) (fun _ => ?_) | refine brVT (fun _ => ?_) (fun _ => ?_) | (with_reducible refine And.intro ?_ ?_) | (simp -dsimp -implicitDefEqProofs only [B0, B1, B2, B3, B4, B5, B6, ↓ordOK_f, ↓ordOK_e, ↓ordCalls_f, ↓brB_tt, ↓brB_ff, ↓brB_tf, ↓brB_ft, ↓reduceIte, condWp, opSem, opSem0, tkOp, Out.tokV, retok1, constAV, binSem, unSem, intOp, strOp, loadSem, storeSem, fieldAddrSem, indexAddrSem, fieldSem, indexSem, lenSem, buildSem, buildSliceSem, appendSem, srcA, convSem, sliceSem, bndA, slTok, makeSliceSem, copySem, Res.obj?, cmpOK, cmpParts, tplace, Nat.reduceEqDiff, Nat.reduceAdd, Nat.reduceMul, Nat.reduceLeDiff, Nat.reduceLT, Nat.reduceBEq, Nat.reducePow, Int.reduceToNat, Int.reduceLE, Int.reduceLT, Int.reduceNeg, reduceCtorEq, cxP, ne_eq, forall_eq, forall_eq_or_imp, resOne, resA, implies_true, forall_const, eq_self, Int.reduceEq, Int.reduceAdd, Int.reduceSub, Int.reduceMul, Nat.reduceSub, Nat.le_add_right, Out.fg, fgA, t2, t3, t9, txts_gc, nb_u8s, u8s_length, nb_txts, txts_length, mk_bstr, empty_bstr, bytesOf_u8s, bs_size, bs_app, bs_eq, bs_ext, u8_gc, isb6, u8_cons, u8_lit, List.length_cons, List.append_nil, u8s_app, hm, hm1, hq, hsl, hi]))
    all_goals first
      | (simp only [List.length_cons, List.length_nil]; omega)
      | (obtain ⟨t, e, hl⟩ := hgo (by first | exact .inr (by assumption) | exact .inl (by omega)); refine ⟨t, ?_, ?_, ?_, ?_⟩ <;> rw [e] <;> first | rfl | (simp only [List.length_cons]; omega) | (simp only [List.length_cons]; done))
      | (rw [hs1.done (by omega) (by assumption)]; done)
      | (rw [hfin (by omega)]; done)

theorem digitsL_spec (nx : Nat) (n : Int) (h1 : -(2 ^ 60) < n) (h2 : n < 2 ^ 60) : FnSpec Tryd.prog 28 nx [iA n] [] (txt (decT n)) [] 0 := by
  by_cases hn : n < 0
  · have hw : IntKind.i64.wrap (0 - n) = ((n.natAbs : Nat) : Int) := wrapI (by omega) (by omega)
    have hl := dec_len 18 n.natAbs (by omega)
    have h9 : ¬ n < -9000000000000000000 := by omega
    rw [decT, if_pos hn]
    refine FnSpec.of_code (cx := cx) (an := {}) (rs := [.tmp 2]) mo Tryd.func28 rfl rfl (by kernel_rfl) (by kernel_rfl) (by show 1 ≤ _; decide) (.inl rfl) (by simp [allWr, keys, Res.wr]) ?_
    repeat' (first | omega | assumption | refine brF (fun _ => ?_) (fun _ => ?_) | refine brT (fun _ => ?_) (fun _ => ?_) | refine brVF (fun _ => ?_) (fun _ => ?_) | refine brVT (fun _ => ?_) (fun _ => ?_) | (with_reducible refine And.intro ?_ ?_) | (refine callK_by (digitsL_nat _ n.natAbs (by omega)) ?_) | (simp -dsimp -implicitDefEqProofs only [B0, B1, B2, B3, B4, B5, B6, ↓ordOK_f, ↓ordOK_e, ↓ordCalls_f, ↓brB_tt, ↓brB_ff, ↓brB_tf, ↓brB_ft, ↓reduceIte, condWp, opSem, opSem0, tkOp, Out.tokV, retok1, constAV, binSem, unSem, intOp, strOp, loadSem, storeSem, fieldAddrSem, indexAddrSem, fieldSem, indexSem, lenSem, buildSem, buildSliceSem, appendSem, srcA, convSem, sliceSem, bndA, slTok, makeSliceSem, copySem, Res.obj?, cmpOK, cmpParts, tplace, Nat.reduceEqDiff, Nat.reduceAdd, Nat.reduceMul, Nat.reduceLeDiff, Nat.reduceLT, Nat.reduceBEq, Nat.reducePow, Int.reduceToNat, Int.reduceLE, Int.reduceLT, Int.reduceNeg, reduceCtorEq, cxP, ne_eq, forall_eq, forall_eq_or_imp, resOne, resA, implies_true, forall_const, eq_self, Int.reduceEq, Int.reduceAdd, Int.reduceSub, Int.reduceMul, Nat.reduceSub, Nat.le_add_right, Out.fg, fgA, t2, t3, t9, txts_gc, nb_u8s, u8s_length, nb_txts, txts_length, mk_bstr, empty_bstr, bytesOf_u8s, bs_size, bs_app, bs_eq, bs_ext, u8_gc, isb6, u8_cons, u8_lit, List.length_cons, List.append_nil, u8s_app, hn, h9, hw]))
    all_goals (simp only [List.length_cons, List.length_nil]; omega)
  · have e : n = ((n.natAbs : Nat) : Int) := by omega
    rw [decT, if_neg hn]
    have := digitsL_nat nx n.natAbs (by omega)
    rw [← e] at this
    exact this
end Go.Proofs.YtdkcobnhcpgpaaaDoor

/-
  say: which acts may be said.
-/
import Derived.Test.YtdkcobnhcpgpaaaDoorS4
set_option linter.unusedSimpArgs false
set_option linter.unusedVariables false
set_option maxRecDepth 100000
set_option maxHeartbeats 4000000
namespace Go.Proofs.YtdkcobnhcpgpaaaDoor
open Go Go.AL Go.Proofs.YtdkcobnhcpgpaaaDoor.T

structure Act_ where
  k : Int
  i : Int
  n : Int
  d : List UInt8
  deriving DecidableEq
def actA (a : Act_) (tok : Nat) : AV := .agg 4 [iA a.k, iA a.i, iA a.n, .sl 1 (u8s a.d) tok]
def Act_.zero : Act_ := ⟨0, 0, 0, []⟩

def BndP (a : Act_) : Prop := 0 ≤ a.i ∧ a.i ≤ 1048576 ∧ -1125899906842624 ≤ a.n ∧ a.n ≤ 1125899906842624 ∧ a.d.length ≤ 65536
def RightP (a : Act_) : Prop := 1 ≤ a.k ∧ a.k ≤ 17 ∧ (hasIL a.k = true ∨ a.i = 0) ∧ (hasNL a.k = true ∨ a.n = 0) ∧ (hasDL a.k = true ∨ a.d.length = 0) ∧ BndP a
instance (a : Act_) : Decidable (BndP a) := by unfold BndP; infer_instance
instance (a : Act_) : Decidable (RightP a) := by unfold RightP; infer_instance
def rightB (a : Act_) : Bool := decide (RightP a)

theorem hasK_cases (k : Int) : (hasK k = 1 ∧ hasIL k = true ∧ hasNL k = false ∧ hasDL k = false) ∨ (hasK k = 2 ∧ hasIL k = false ∧ hasNL k = true ∧ hasDL k = false) ∨ (hasK k = 4 ∧ hasIL k = false ∧ hasNL k = false ∧ hasDL k = true) ∨
    (hasK k = 3 ∧ hasIL k = true ∧ hasNL k = true ∧ hasDL k = false) ∨ (hasK k = 0 ∧ hasIL k = false ∧ hasNL k = false ∧ hasDL k = false) := by
  simp only [hasIL, hasNL, hasDL, hasK, Bool.or_eq_true, Bool.or_eq_false_iff, Bool.and_eq_true, Bool.and_eq_false_iff, decide_eq_true_eq, decide_eq_false_iff_not]
  (repeat' split) <;> omega

theorem and_0_1 : IntKind.i64.wrap ((BitVec.ofInt IntKind.i64.bits 0 &&& BitVec.ofInt IntKind.i64.bits 1).toNat : Int) = 0 := by decide
theorem and_0_2 : IntKind.i64.wrap ((BitVec.ofInt IntKind.i64.bits 0 &&& BitVec.ofInt IntKind.i64.bits 2).toNat : Int) = 0 := by decide
theorem and_0_4 : IntKind.i64.wrap ((BitVec.ofInt IntKind.i64.bits 0 &&& BitVec.ofInt IntKind.i64.bits 4).toNat : Int) = 0 := by decide
theorem and_1_1 : IntKind.i64.wrap ((BitVec.ofInt IntKind.i64.bits 1 &&& BitVec.ofInt IntKind.i64.bits 1).toNat : Int) = 1 := by decide
theorem and_1_2 : IntKind.i64.wrap ((BitVec.ofInt IntKind.i64.bits 1 &&& BitVec.ofInt IntKind.i64.bits 2).toNat : Int) = 0 := by decide
theorem and_1_4 : IntKind.i64.wrap ((BitVec.ofInt IntKind.i64.bits 1 &&& BitVec.ofInt IntKind.i64.bits 4).toNat : Int) = 0 := by decide
theorem and_2_1 : IntKind.i64.wrap ((BitVec.ofInt IntKind.i64.bits 2 &&& BitVec.ofInt IntKind.i64.bits 1).toNat : Int) = 0 := by decide
theorem and_2_2 : IntKind.i64.wrap ((BitVec.ofInt IntKind.i64.bits 2 &&& BitVec.ofInt IntKind.i64.bits 2).toNat : Int) = 2 := by decide
theorem and_2_4 : IntKind.i64.wrap ((BitVec.ofInt IntKind.i64.bits 2 &&& BitVec.ofInt IntKind.i64.bits 4).toNat : Int) = 0 := by decide
theorem and_3_1 : IntKind.i64.wrap ((BitVec.ofInt IntKind.i64.bits 3 &&& BitVec.ofInt IntKind.i64.bits 1).toNat : Int) = 1 := by decide
theorem and_3_2 : IntKind.i64.wrap ((BitVec.ofInt IntKind.i64.bits 3 &&& BitVec.ofInt IntKind.i64.bits 2).toNat : Int) = 2 := by decide
theorem and_3_4 : IntKind.i64.wrap ((BitVec.ofInt IntKind.i64.bits 3 &&& BitVec.ofInt IntKind.i64.bits 4).toNat : Int) = 0 := by decide
theorem and_4_1 : IntKind.i64.wrap ((BitVec.ofInt IntKind.i64.bits 4 &&& BitVec.ofInt IntKind.i64.bits 1).toNat : Int) = 0 := by decide
theorem and_4_2 : IntKind.i64.wrap ((BitVec.ofInt IntKind.i64.bits 4 &&& BitVec.ofInt IntKind.i64.bits 2).toNat : Int) = 0 := by decide
theorem and_4_4 : IntKind.i64.wrap ((BitVec.ofInt IntKind.i64.bits 4 &&& BitVec.ofInt IntKind.i64.bits 4).toNat : Int) = 4 := by decide

--LOCAL: and_0_1, and_0_2, and_0_4, and_1_1, and_1_2, and_1_4, and_2_1, and_2_2, and_2_4, and_3_1, and_3_2, and_3_4, and_4_1, and_4_2, and_4_4, txts_gc, nb_u8s, u8s_length, nb_txts, txts_length, names_len, lit_names, mk_bstr, empty_bstr, actA, isb, bytesOf_u8s
theorem isb (bs : List UInt8) : (∀ a, a ∈ u8s bs → isByte a) = True := by simp only [eq_iff_iff, iff_true]; exact isByte_u8s bs
theorem wordOf_nil (k : Int) : (bstr (wordOf k) = bstr []) = ¬ (1 ≤ k ∧ k ≤ 17) := by
  rw [bs_eq, eq_iff_iff, wordOf]
  split
  · rename_i h
    have key : ∀ j : Fin 18, j.val ≠ 0 → namesL.getD j.val [] ≠ [] := by decide
    have := key ⟨k.toNat, by omega⟩ (by show k.toNat ≠ 0; omega)
    simp [h]
    exact this
  · rename_i h; simp [h]

theorem right_spec (nx tok : Nat) (a : Act_) (hl : a.d.length < 2 ^ 62) : FnSpec Tryd.prog 10 nx [actA a tok] [] (bA (rightB a)) [] 0 := by
  refine FnSpec.of_code (cx := cx) (an := {}) (rs := [.tmp 2]) mo Tryd.func10 rfl rfl (by kernel_rfl) (by kernel_rfl) (by show 1 ≤ _; decide) (.inl rfl) (by simp [allWr, keys, Res.wr]) ?_
  simp -dsimp -implicitDefEqProofs only [B0, B1, B2, B3, B4, B5, B6, ↓ordOK_f, ↓ordOK_e, ↓ordCalls_f, ↓brB_tt, ↓brB_ff, ↓brB_tf, ↓brB_ft, ↓reduceIte, condWp, opSem, opSem0, tkOp, Out.tokV, retok1, constAV, binSem, unSem, intOp, strOp, loadSem, storeSem, fieldAddrSem, indexAddrSem, fieldSem, indexSem, lenSem, buildSem, buildSliceSem, appendSem, srcA, convSem, sliceSem, bndA, slTok, makeSliceSem, copySem, Res.obj?, cmpOK, cmpParts, tplace, Nat.reduceEqDiff, Nat.reduceAdd, Nat.reduceMul, Nat.reduceLeDiff, Nat.reduceLT, Nat.reduceBEq, Nat.reducePow, Int.reduceToNat, Int.reduceLE, Int.reduceLT, Int.reduceNeg, reduceCtorEq, cxP, ne_eq, forall_eq, forall_eq_or_imp, resOne, resA, implies_true, forall_const, eq_self, Int.reduceEq, Int.reduceAdd, Int.reduceSub, Int.reduceMul, Nat.reduceSub, Nat.le_add_right, Out.fg, fgA, t2, t3, t5, t22, t24, and_0_1, and_0_2, and_0_4, and_1_1, and_1_2, and_1_4, and_2_1, and_2_2, and_2_4, and_3_1, and_3_2, and_3_4, and_4_1, and_4_2, and_4_4, txts_gc, nb_u8s, u8s_length, nb_txts, txts_length, names_len, lit_names, mk_bstr, empty_bstr, actA, isb, bytesOf_u8s]
  refine callK_by (has_spec _ _) ?_
  rcases hasK_cases a.k with ⟨h0, h1, h2, h3⟩ | ⟨h0, h1, h2, h3⟩ | ⟨h0, h1, h2, h3⟩ | ⟨h0, h1, h2, h3⟩ | ⟨h0, h1, h2, h3⟩
  all_goals (repeat' (first | omega | assumption | refine brF (fun _ => ?_) (fun _ => ?_) | refine brT (fun _ => ?_) (fun _ => ?_) | refine brVF (fun _ => ?_) (fun _ => ?_) | refine brVT (fun _ => ?_) (fun _ => ?_) | (with_reducible refine And.intro ?_ ?_) | (simp -dsimp -implicitDefEqProofs only [B0, B1, B2, B3, B4, B5, B6, ↓ordOK_f, ↓ordOK_e, ↓ordCalls_f, ↓brB_tt, ↓brB_ff, ↓brB_tf, ↓brB_ft, ↓reduceIte, condWp, opSem, opSem0, tkOp, Out.tokV, retok1, constAV, binSem, unSem, intOp, strOp, loadSem, storeSem, fieldAddrSem, indexAddrSem, fieldSem, indexSem, lenSem, buildSem, buildSliceSem, appendSem, srcA, convSem, sliceSem, bndA, slTok, makeSliceSem, copySem, Res.obj?, cmpOK, cmpParts, tplace, Nat.reduceEqDiff, Nat.reduceAdd, Nat.reduceMul, Nat.reduceLeDiff, Nat.reduceLT, Nat.reduceBEq, Nat.reducePow, Int.reduceToNat, Int.reduceLE, Int.reduceLT, Int.reduceNeg, reduceCtorEq, cxP, ne_eq, forall_eq, forall_eq_or_imp, resOne, resA, implies_true, forall_const, eq_self, Int.reduceEq, Int.reduceAdd, Int.reduceSub, Int.reduceMul, Nat.reduceSub, Nat.le_add_right, Out.fg, fgA, t2, t3, t5, t22, t24, and_0_1, and_0_2, and_0_4, and_1_1, and_1_2, and_1_4, and_2_1, and_2_2, and_2_4, and_3_1, and_3_2, and_3_4, and_4_1, and_4_2, and_4_4, txts_gc, nb_u8s, u8s_length, nb_txts, txts_length, names_len, lit_names, mk_bstr, empty_bstr, actA, isb, bytesOf_u8s, h0])))
  all_goals (simp only [rightB, bA]; congr 2; rw [Bool.eq_iff_iff]; simp only [RightP, BndP, h1, h2, h3, decide_eq_true_eq, Bool.false_eq_true, false_or, true_or, true_and, false_iff]; omega)

theorem rightL_spec (nx tok : Nat) (a : Act_) (hl : a.d.length < 2 ^ 62) : FnSpec Tryd.prog 11 nx [actA a tok] [] (bA (rightB a)) [] 0 := by
  refine FnSpec.of_code (cx := cx) (an := {}) (rs := [.tmp 2]) mo Tryd.func11 rfl rfl (by kernel_rfl) (by kernel_rfl) (by show 1 ≤ _; decide) (.inl rfl) (by simp [allWr, keys, Res.wr]) ?_
  simp -dsimp -implicitDefEqProofs only [B0, B1, B2, B3, B4, B5, B6, ↓ordOK_f, ↓ordOK_e, ↓ordCalls_f, ↓brB_tt, ↓brB_ff, ↓brB_tf, ↓brB_ft, ↓reduceIte, condWp, opSem, opSem0, tkOp, Out.tokV, retok1, constAV, binSem, unSem, intOp, strOp, loadSem, storeSem, fieldAddrSem, indexAddrSem, fieldSem, indexSem, lenSem, buildSem, buildSliceSem, appendSem, srcA, convSem, sliceSem, bndA, slTok, makeSliceSem, copySem, Res.obj?, cmpOK, cmpParts, tplace, Nat.reduceEqDiff, Nat.reduceAdd, Nat.reduceMul, Nat.reduceLeDiff, Nat.reduceLT, Nat.reduceBEq, Nat.reducePow, Int.reduceToNat, Int.reduceLE, Int.reduceLT, Int.reduceNeg, reduceCtorEq, cxP, ne_eq, forall_eq, forall_eq_or_imp, resOne, resA, implies_true, forall_const, eq_self, Int.reduceEq, Int.reduceAdd, Int.reduceSub, Int.reduceMul, Nat.reduceSub, Nat.le_add_right, Out.fg, fgA, t2, t3, t4, t5, t9, t22, t24, and_0_1, and_0_2, and_0_4, and_1_1, and_1_2, and_1_4, and_2_1, and_2_2, and_2_4, and_3_1, and_3_2, and_3_4, and_4_1, and_4_2, and_4_4, txts_gc, nb_u8s, u8s_length, nb_txts, txts_length, names_len, lit_names, mk_bstr, empty_bstr, actA, isb, bytesOf_u8s]
  refine callK_by (word_spec _ _) ?_
  rcases hasK_cases a.k with ⟨h0, h1, h2, h3⟩ | ⟨h0, h1, h2, h3⟩ | ⟨h0, h1, h2, h3⟩ | ⟨h0, h1, h2, h3⟩ | ⟨h0, h1, h2, h3⟩
  all_goals (repeat' (first | omega | assumption | refine brF (fun _ => ?_) (fun _ => ?_) | refine brT (fun _ => ?_) (fun _ => ?_) | refine brVF (fun _ => ?_) (fun _ => ?_) | refine brVT (fun _ => ?_) (fun _ => ?_) | (with_reducible refine And.intro ?_ ?_) | (refine callK_by (hasI_spec _ _) ?_) | (refine callK_by (hasN_spec _ _) ?_) | (refine callK_by (hasD_spec _ _) ?_) | (simp -dsimp -implicitDefEqProofs only [B0, B1, B2, B3, B4, B5, B6, ↓ordOK_f, ↓ordOK_e, ↓ordCalls_f, ↓brB_tt, ↓brB_ff, ↓brB_tf, ↓brB_ft, ↓reduceIte, condWp, opSem, opSem0, tkOp, Out.tokV, retok1, constAV, binSem, unSem, intOp, strOp, loadSem, storeSem, fieldAddrSem, indexAddrSem, fieldSem, indexSem, lenSem, buildSem, buildSliceSem, appendSem, srcA, convSem, sliceSem, bndA, slTok, makeSliceSem, copySem, Res.obj?, cmpOK, cmpParts, tplace, Nat.reduceEqDiff, Nat.reduceAdd, Nat.reduceMul, Nat.reduceLeDiff, Nat.reduceLT, Nat.reduceBEq, Nat.reducePow, Int.reduceToNat, Int.reduceLE, Int.reduceLT, Int.reduceNeg, reduceCtorEq, cxP, ne_eq, forall_eq, forall_eq_or_imp, resOne, resA, implies_true, forall_const, eq_self, Int.reduceEq, Int.reduceAdd, Int.reduceSub, Int.reduceMul, Nat.reduceSub, Nat.le_add_right, Out.fg, fgA, t2, t3, t4, t5, t9, t22, t24, and_0_1, and_0_2, and_0_4, and_1_1, and_1_2, and_1_4, and_2_1, and_2_2, and_2_4, and_3_1, and_3_2, and_3_4, and_4_1, and_4_2, and_4_4, txts_gc, nb_u8s, u8s_length, nb_txts, txts_length, names_len, lit_names, mk_bstr, empty_bstr, actA, isb, bytesOf_u8s, wordOf_nil, h1, h2, h3])))
  all_goals (simp only [rightB, bA]; congr 2; rw [Bool.eq_iff_iff]; simp only [RightP, BndP, h1, h2, h3, decide_eq_true_eq, Bool.false_eq_true, false_or, true_or, true_and, false_iff]; omega)
end Go.Proofs.YtdkcobnhcpgpaaaDoor

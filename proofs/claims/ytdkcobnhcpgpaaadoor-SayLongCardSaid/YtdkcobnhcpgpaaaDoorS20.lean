/-
  say: the law SayLong.
-/
import Derived.Test.YtdkcobnhcpgpaaaDoorS19
set_option linter.unusedSimpArgs false
set_option linter.unusedVariables false
set_option maxRecDepth 100000
set_option maxHeartbeats 4000000
namespace Go.Proofs.YtdkcobnhcpgpaaaDoor
open Go Go.AL Go.Proofs.YtdkcobnhcpgpaaaDoor.T

/-- lines, each with its break -/
def joinN (ls : List (List UInt8)) : List UInt8 := ls.flatMap (· ++ [10])
theorem joinN_cons (x : List UInt8) (ls : List (List UInt8)) : joinN (x :: ls) = x ++ 10 :: joinN ls := by simp [joinN]
theorem joinN_snoc (ls : List (List UInt8)) (x : List UInt8) : joinN (ls ++ [x]) = joinN ls ++ x ++ [10] := by simp [joinN]
theorem split_join (o : List UInt8) (ho : (10 : UInt8) ∉ o) : ∀ ls : List (List UInt8), (∀ x ∈ ls, (10 : UInt8) ∉ x) → splitC 10 (joinN ls ++ o) = ls ++ [o]
  | [], _ => by simpa [joinN] using splitC_none ho
  | x :: ls, h => by
    rw [joinN_cons, List.append_assoc, List.cons_append, splitC_app _ (h x List.mem_cons_self), split_join o ho ls (fun y hy => h y (List.mem_cons_of_mem _ hy))]
    rfl
theorem trim_cut (l : List UInt8) (c : UInt8) : Lib.trimSuffix (l ++ [c]) [c] = l := by
  have h : Lib.hasSuffix (l ++ [c]) [c] = true := by simp [Lib.hasSuffix]
  simp [Lib.trimSuffix, h]
theorem trim_not {l : List UInt8} {c : UInt8} (h0 : l ≠ []) (h : c ∉ l) (p : List UInt8) : Lib.trimSuffix (p ++ l) [c] = p ++ l := by
  have h2 : Lib.hasSuffix (p ++ l) [c] = false := by
    rw [Bool.eq_false_iff]
    intro e
    simp only [Lib.hasSuffix] at e
    obtain ⟨t, ht⟩ := List.isSuffixOf_iff_suffix.1 e
    have h3 := congrArg List.getLast? ht
    rw [List.getLast?_append, List.getLast?_append] at h3
    cases hl : l.getLast? with
    | none => exact h0 (by simpa using hl)
    | some y =>
      rw [hl] at h3
      simp at h3
      exact h (by rw [h3]; exact List.mem_of_getLast? hl)
  simp [Lib.trimSuffix, h2]

def stepL : List UInt8 := [115, 116, 101, 112]
def stepA : Act_ := ⟨5, 0, 0, []⟩
theorem step_line : lineT stepA = stepL := by
  have h1 : RightP stepA := by decide
  rw [lineT, if_pos h1]
  simp [stepA, stepL, wordOf, namesL, hasIL, hasNL, hasDL]
theorem parse_step : parseT stepL = (stepA, 0) := by rw [← step_line]; exact parse_line _ (by decide)
/-- so many steps as a text -/
def stepN (i : Nat) : List UInt8 := joinN (List.replicate i stepL)
theorem stepN_succ (i : Nat) : stepN (i + 1) = stepN i ++ [115, 116, 101, 112, 10] := by
  rw [stepN, List.replicate_succ', joinN_snoc, List.append_assoc]; rfl
theorem stepN_len : ∀ i : Nat, (stepN i).length = 5 * i
  | 0 => rfl
  | i + 1 => by rw [stepN_succ, List.length_append, stepN_len i]; simp; omega
theorem read_steps : ∀ (m i : Nat) (acc : List Act_), readL i (List.replicate m stepL) acc = (acc ++ List.replicate m stepA, 0, 0)
  | 0, i, acc => by simp [readL]
  | m + 1, i, acc => by rw [List.replicate_succ, readL, parse_step]; simp only [if_true]; rw [read_steps m, List.replicate_succ, List.append_assoc]; rfl
theorem read_stepN (i : Nat) (h : 1 ≤ i) : readT (stepN i) = if 4096 < i then ([], 0, 3) else (List.replicate i stepA, 0, 0) := by
  obtain ⟨j, rfl⟩ : ∃ j, i = j + 1 := ⟨i - 1, by omega⟩
  have h1 : stepN (j + 1) ≠ [] := fun e => by have := stepN_len (j + 1); rw [e] at this; simp at this
  have h2 : Lib.trimSuffix (stepN (j + 1)) [10] = joinN (List.replicate j stepL) ++ stepL := by
    rw [stepN, List.replicate_succ', joinN_snoc]; exact trim_cut _ _
  have h3 : splitC 10 (joinN (List.replicate j stepL) ++ stepL) = List.replicate (j + 1) stepL := by
    rw [split_join _ (by decide) _ (fun x hx => by rw [List.eq_of_mem_replicate hx]; decide), List.replicate_succ']
  rw [readT, if_neg h1, h2, h3, List.length_replicate, read_steps]
  rfl
theorem kindU_long (x : List UInt8) (h : 7 < x.length) : ∀ j : Nat, j ≤ 18 → kindU x j = 0
  | 0, _ => rfl
  | j + 1, hj => by
    have key : ∀ j : Fin 18, (namesL.getD j.val []).length ≤ 7 := by decide
    have h2 : namesL.getD j [] ≠ x := fun e => by have := key ⟨j, by omega⟩; simp only at this; rw [e] at this; omega
    rw [kindU, if_neg (fun e => h2 e.2)]; exact kindU_long x h j (by omega)
theorem parse_zeros (n : Nat) (h : 7 < n) : parseT (List.replicate n 0) = if 131088 < n then (.zero, 3) else (.zero, 23) := by
  rw [parseT, List.length_replicate]
  split
  · rfl
  · have h2 : (32 : UInt8) ∉ List.replicate n 0 := fun e => by have := List.eq_of_mem_replicate e; cases this
    rw [splitC_none h2]
    simp only [List.headD_cons, List.tail_cons, parseR]
    have h3 := kindU_long (List.replicate n 0) (by rw [List.length_replicate]; exact h) 18 (by omega)
    simp [h3]

--LOCAL: z_k, z_i, z_n, z_d, u8s_nil, txts_gc, nb_u8s, u8s_length, nb_txts, txts_length, mk_bstr, empty_bstr, bytesOf_u8s, bs_size, bs_app, bs_eq, bs_ext, actA, txts_cons, txts_nil, List.length_cons, List.length_nil, txts_takel, drop1, names_len, isb6, acts_len, nb_acts, bstr_toList, u8s_get?, u8s_app, List.length_append
theorem long_spec (nx : Nat) (lines size : Int) : FnSpec Tryd.prog 5 nx [iA lines, iA size] [] (bA true) [] 0 := by
  by_cases hr : lines < 4090 ∨ lines > 4100 ∨ size < 131080 ∨ size > 131100
  · refine FnSpec.of_code (cx := cx) (an := {}) (rs := [.tmp 4]) mo Tryd.func5 rfl rfl (by kernel_rfl) (by kernel_rfl) (by show 2 ≤ _; decide) (.inl rfl) (by simp [allWr, keys, Res.wr]) ?_
    repeat' (first | omega | assumption | refine brF (fun _ => ?_) (fun _ => ?_) | refine brT (fun _ => ?_) (fun _ => ?_) | refine brVF (fun _ => ?_) (fun _ => ?_) | refine brVT (fun _ => ?_) (fun _ => ?_) | (with_reducible refine And.intro ?_ ?_) | (refine callK_by (awake_spec _) ?_) | (simp -dsimp -implicitDefEqProofs only [B0, B1, B2, B3, B4, B5, B6, ↓ordOK_f, ↓ordOK_e, ↓ordCalls_f, ↓brB_tt, ↓brB_ff, ↓brB_tf, ↓brB_ft, ↓reduceIte, condWp, opSem, opSem0, tkOp, Out.tokV, retok1, constAV, binSem, unSem, intOp, strOp, loadSem, storeSem, fieldAddrSem, indexAddrSem, fieldSem, indexSem, lenSem, buildSem, buildSliceSem, appendSem, srcA, convSem, sliceSem, bndA, slTok, makeSliceSem, copySem, Res.obj?, cmpOK, cmpParts, tplace, Nat.reduceEqDiff, Nat.reduceAdd, Nat.reduceMul, Nat.reduceLeDiff, Nat.reduceLT, Nat.reduceBEq, Nat.reducePow, Int.reduceToNat, Int.reduceLE, Int.reduceLT, Int.reduceNeg, reduceCtorEq, cxP, ne_eq, forall_eq, forall_eq_or_imp, resOne, resA, implies_true, forall_const, eq_self, Int.reduceEq, Int.reduceAdd, Int.reduceSub, Int.reduceMul, Nat.reduceSub, Nat.le_add_right, Out.fg, fgA, t2, t3, t5, t9, t22, t24, t27, t34, z_k, z_i, z_n, z_d, u8s_nil, txts_gc, nb_u8s, u8s_length, nb_txts, txts_length, mk_bstr, empty_bstr, bytesOf_u8s, bs_size, bs_app, bs_eq, bs_ext, actA, txts_cons, txts_nil, List.length_cons, List.length_nil, txts_takel, drop1, names_len, isb6, acts_len, nb_acts, bstr_toList, u8s_get?, u8s_app, List.length_append]))
  · have r1 : ¬ lines < 4090 := by omega
    have r2 : ¬ 4100 < lines := by omega
    have r3 : ¬ size < 131080 := by omega
    have r4 : ¬ 131100 < size := by omega
    obtain ⟨L, rfl⟩ : ∃ L : Nat, lines = (L : Int) := ⟨lines.toNat, by omega⟩
    obtain ⟨N, rfl⟩ : ∃ N : Nat, size = (N : Int) := ⟨size.toNat, by omega⟩
    have hN0 : ¬ (N : Int) = 0 := by omega
    have hz : List.replicate N (AV.val (Value.int IntKind.u8 0)) = u8s (List.replicate N 0) := by simp [u8s, u8]
    have hp := fun m => parse_spec m (List.replicate N 0) (by rw [List.length_replicate]; omega)
    have hrd := fun m => read_spec m (stepN L) (by rw [stepN_len]; omega)
    rw [parse_zeros N (by omega)] at hp
    rw [read_stepN L (by omega)] at hrd
    refine FnSpec.of_code (cx := cx) (an := {tk := [(5, [([], 1)])]}) (rs := [.tmp 4]) mo Tryd.func5 rfl rfl (by kernel_rfl) (by kernel_rfl) (by show 2 ≤ _; decide) (.inl rfl) (by simp [allWr, keys, Res.wr]) ?_
    repeat' (first | omega | assumption | refine brF (fun _ => ?_) (fun _ => ?_) | refine brT (fun _ => ?_) (fun _ => ?_) | refine brVF (fun _ => ?_) (fun _ => ?_) | refine brVT (fun _ => ?_) (fun _ => ?_) | (with_reducible refine And.intro ?_ ?_) | (simp -dsimp -implicitDefEqProofs only [B0, B1, B2, B3, B4, B5, B6, ↓ordOK_f, ↓ordOK_e, ↓ordCalls_f, ↓brB_tt, ↓brB_ff, ↓brB_tf, ↓brB_ft, ↓reduceIte, condWp, opSem, opSem0, tkOp, Out.tokV, retok1, constAV, binSem, unSem, intOp, strOp, loadSem, storeSem, fieldAddrSem, indexAddrSem, fieldSem, indexSem, lenSem, buildSem, buildSliceSem, appendSem, srcA, convSem, sliceSem, bndA, slTok, makeSliceSem, copySem, Res.obj?, cmpOK, cmpParts, tplace, Nat.reduceEqDiff, Nat.reduceAdd, Nat.reduceMul, Nat.reduceLeDiff, Nat.reduceLT, Nat.reduceBEq, Nat.reducePow, Int.reduceToNat, Int.reduceLE, Int.reduceLT, Int.reduceNeg, reduceCtorEq, cxP, ne_eq, forall_eq, forall_eq_or_imp, resOne, resA, implies_true, forall_const, eq_self, Int.reduceEq, Int.reduceAdd, Int.reduceSub, Int.reduceMul, Nat.reduceSub, Nat.le_add_right, Out.fg, fgA, t2, t3, t5, t9, t22, t24, t27, t34, z_k, z_i, z_n, z_d, u8s_nil, txts_gc, nb_u8s, u8s_length, nb_txts, txts_length, mk_bstr, empty_bstr, bytesOf_u8s, bs_size, bs_app, bs_eq, bs_ext, actA, txts_cons, txts_nil, List.length_cons, List.length_nil, txts_takel, drop1, names_len, isb6, acts_len, nb_acts, bstr_toList, u8s_get?, u8s_app, List.length_append, r1, r2, r3, r4]))
    apply loop_keep [0, 1] (fun i : { i : Nat // i ≤ L } => [(5, .sl 1 (u8s (stepN i.1)) (nx + 123)), (6, iA i.1)]) (fun i => [(nx + 121, some (.tail (5 * i.1)))]) (fun i => L - i.1) ⟨0, Nat.zero_le _⟩
    · simp -dsimp -implicitDefEqProofs only [B0, B1, B2, B3, B4, B5, B6, ↓ordOK_f, ↓ordOK_e, ↓ordCalls_f, ↓brB_tt, ↓brB_ff, ↓brB_tf, ↓brB_ft, ↓reduceIte, condWp, opSem, opSem0, tkOp, Out.tokV, retok1, constAV, binSem, unSem, intOp, strOp, loadSem, storeSem, fieldAddrSem, indexAddrSem, fieldSem, indexSem, lenSem, buildSem, buildSliceSem, appendSem, srcA, convSem, sliceSem, bndA, slTok, makeSliceSem, copySem, Res.obj?, cmpOK, cmpParts, tplace, Nat.reduceEqDiff, Nat.reduceAdd, Nat.reduceMul, Nat.reduceLeDiff, Nat.reduceLT, Nat.reduceBEq, Nat.reducePow, Int.reduceToNat, Int.reduceLE, Int.reduceLT, Int.reduceNeg, reduceCtorEq, cxP, ne_eq, forall_eq, forall_eq_or_imp, resOne, resA, implies_true, forall_const, eq_self, Int.reduceEq, Int.reduceAdd, Int.reduceSub, Int.reduceMul, Nat.reduceSub, Nat.le_add_right, Out.fg, fgA, z_k, z_i, z_n, z_d, u8s_nil, txts_gc, nb_u8s, u8s_length, nb_txts, txts_length, mk_bstr, empty_bstr, bytesOf_u8s, bs_size, bs_app, bs_eq, bs_ext, actA, txts_cons, txts_nil, List.length_cons, List.length_nil, txts_takel, drop1, names_len, isb6, acts_len, nb_acts, bstr_toList, u8s_get?, u8s_app, List.length_append]; rfl
    · simp -dsimp -implicitDefEqProofs only [B0, B1, B2, B3, B4, B5, B6, ↓ordOK_f, ↓ordOK_e, ↓ordCalls_f, ↓brB_tt, ↓brB_ff, ↓brB_tf, ↓brB_ft, ↓reduceIte, condWp, opSem, opSem0, tkOp, Out.tokV, retok1, constAV, binSem, unSem, intOp, strOp, loadSem, storeSem, fieldAddrSem, indexAddrSem, fieldSem, indexSem, lenSem, buildSem, buildSliceSem, appendSem, srcA, convSem, sliceSem, bndA, slTok, makeSliceSem, copySem, Res.obj?, cmpOK, cmpParts, tplace, Nat.reduceEqDiff, Nat.reduceAdd, Nat.reduceMul, Nat.reduceLeDiff, Nat.reduceLT, Nat.reduceBEq, Nat.reducePow, Int.reduceToNat, Int.reduceLE, Int.reduceLT, Int.reduceNeg, reduceCtorEq, cxP, ne_eq, forall_eq, forall_eq_or_imp, resOne, resA, implies_true, forall_const, eq_self, Int.reduceEq, Int.reduceAdd, Int.reduceSub, Int.reduceMul, Nat.reduceSub, Nat.le_add_right, Out.fg, fgA, z_k, z_i, z_n, z_d, u8s_nil, txts_gc, nb_u8s, u8s_length, nb_txts, txts_length, mk_bstr, empty_bstr, bytesOf_u8s, bs_size, bs_app, bs_eq, bs_ext, actA, txts_cons, txts_nil, List.length_cons, List.length_nil, txts_takel, drop1, names_len, isb6, acts_len, nb_acts, bstr_toList, u8s_get?, u8s_app, List.length_append]; rfl
    · simp -dsimp -implicitDefEqProofs only [B0, B1, B2, B3, B4, B5, B6, ↓ordOK_f, ↓ordOK_e, ↓ordCalls_f, ↓brB_tt, ↓brB_ff, ↓brB_tf, ↓brB_ft, ↓reduceIte, condWp, opSem, opSem0, tkOp, Out.tokV, retok1, constAV, binSem, unSem, intOp, strOp, loadSem, storeSem, fieldAddrSem, indexAddrSem, fieldSem, indexSem, lenSem, buildSem, buildSliceSem, appendSem, srcA, convSem, sliceSem, bndA, slTok, makeSliceSem, copySem, Res.obj?, cmpOK, cmpParts, tplace, Nat.reduceEqDiff, Nat.reduceAdd, Nat.reduceMul, Nat.reduceLeDiff, Nat.reduceLT, Nat.reduceBEq, Nat.reducePow, Int.reduceToNat, Int.reduceLE, Int.reduceLT, Int.reduceNeg, reduceCtorEq, cxP, ne_eq, forall_eq, forall_eq_or_imp, resOne, resA, implies_true, forall_const, eq_self, Int.reduceEq, Int.reduceAdd, Int.reduceSub, Int.reduceMul, Nat.reduceSub, Nat.le_add_right, Out.fg, fgA, z_k, z_i, z_n, z_d, u8s_nil, txts_gc, nb_u8s, u8s_length, nb_txts, txts_length, mk_bstr, empty_bstr, bytesOf_u8s, bs_size, bs_app, bs_eq, bs_ext, actA, txts_cons, txts_nil, List.length_cons, List.length_nil, txts_takel, drop1, names_len, isb6, acts_len, nb_acts, bstr_toList, u8s_get?, u8s_app, List.length_append]
    · intro s
      simp -dsimp -implicitDefEqProofs only [B0, B1, B2, B3, B4, B5, B6, ↓ordOK_f, ↓ordOK_e, ↓ordCalls_f, ↓brB_tt, ↓brB_ff, ↓brB_tf, ↓brB_ft, ↓reduceIte, condWp, opSem, opSem0, tkOp, Out.tokV, retok1, constAV, binSem, unSem, intOp, strOp, loadSem, storeSem, fieldAddrSem, indexAddrSem, fieldSem, indexSem, lenSem, buildSem, buildSliceSem, appendSem, srcA, convSem, sliceSem, bndA, slTok, makeSliceSem, copySem, Res.obj?, cmpOK, cmpParts, tplace, Nat.reduceEqDiff, Nat.reduceAdd, Nat.reduceMul, Nat.reduceLeDiff, Nat.reduceLT, Nat.reduceBEq, Nat.reducePow, Int.reduceToNat, Int.reduceLE, Int.reduceLT, Int.reduceNeg, reduceCtorEq, cxP, ne_eq, forall_eq, forall_eq_or_imp, resOne, resA, implies_true, forall_const, eq_self, Int.reduceEq, Int.reduceAdd, Int.reduceSub, Int.reduceMul, Nat.reduceSub, Nat.le_add_right, Out.fg, fgA, z_k, z_i, z_n, z_d, u8s_nil, txts_gc, nb_u8s, u8s_length, nb_txts, txts_length, mk_bstr, empty_bstr, bytesOf_u8s, bs_size, bs_app, bs_eq, bs_ext, actA, txts_cons, txts_nil, List.length_cons, List.length_nil, txts_takel, drop1, names_len, isb6, acts_len, nb_acts, bstr_toList, u8s_get?, u8s_app, List.length_append]
      omega
    · rintro ⟨i, hi⟩
      have hi : i ≤ L := hi
      simp -dsimp -implicitDefEqProofs only [B0, B1, B2, B3, B4, B5, B6, ↓ordOK_f, ↓ordOK_e, ↓ordCalls_f, ↓brB_tt, ↓brB_ff, ↓brB_tf, ↓brB_ft, ↓reduceIte, condWp, opSem, opSem0, tkOp, Out.tokV, retok1, constAV, binSem, unSem, intOp, strOp, loadSem, storeSem, fieldAddrSem, indexAddrSem, fieldSem, indexSem, lenSem, buildSem, buildSliceSem, appendSem, srcA, convSem, sliceSem, bndA, slTok, makeSliceSem, copySem, Res.obj?, cmpOK, cmpParts, tplace, Nat.reduceEqDiff, Nat.reduceAdd, Nat.reduceMul, Nat.reduceLeDiff, Nat.reduceLT, Nat.reduceBEq, Nat.reducePow, Int.reduceToNat, Int.reduceLE, Int.reduceLT, Int.reduceNeg, reduceCtorEq, cxP, ne_eq, forall_eq, forall_eq_or_imp, resOne, resA, implies_true, forall_const, eq_self, Int.reduceEq, Int.reduceAdd, Int.reduceSub, Int.reduceMul, Nat.reduceSub, Nat.le_add_right, Out.fg, fgA, t2, t3, t5, t9, t22, t24, t27, t34, z_k, z_i, z_n, z_d, u8s_nil, txts_gc, nb_u8s, u8s_length, nb_txts, txts_length, mk_bstr, empty_bstr, bytesOf_u8s, bs_size, bs_app, bs_eq, bs_ext, actA, txts_cons, txts_nil, List.length_cons, List.length_nil, txts_takel, drop1, names_len, isb6, acts_len, nb_acts, bstr_toList, u8s_get?, u8s_app, List.length_append]
      refine brT (fun h => ?_) (fun h => ?_)
      · have hw : IntKind.i64.wrap ((i : Int) + 1) = ((i + 1 : Nat) : Int) := wrapI (by omega) (by omega)
        have hsn := stepN_succ i
        have hsl := stepN_len i
        repeat' (first | omega | assumption | refine brF (fun _ => ?_) (fun _ => ?_) | refine brT (fun _ => ?_) (fun _ => ?_) | refine brVF (fun _ => ?_) (fun _ => ?_) | refine brVT (fun _ => ?_) (fun _ => ?_) | (with_reducible refine And.intro ?_ ?_) | (simp -dsimp -implicitDefEqProofs only [B0, B1, B2, B3, B4, B5, B6, ↓ordOK_f, ↓ordOK_e, ↓ordCalls_f, ↓brB_tt, ↓brB_ff, ↓brB_tf, ↓brB_ft, ↓reduceIte, condWp, opSem, opSem0, tkOp, Out.tokV, retok1, constAV, binSem, unSem, intOp, strOp, loadSem, storeSem, fieldAddrSem, indexAddrSem, fieldSem, indexSem, lenSem, buildSem, buildSliceSem, appendSem, srcA, convSem, sliceSem, bndA, slTok, makeSliceSem, copySem, Res.obj?, cmpOK, cmpParts, tplace, Nat.reduceEqDiff, Nat.reduceAdd, Nat.reduceMul, Nat.reduceLeDiff, Nat.reduceLT, Nat.reduceBEq, Nat.reducePow, Int.reduceToNat, Int.reduceLE, Int.reduceLT, Int.reduceNeg, reduceCtorEq, cxP, ne_eq, forall_eq, forall_eq_or_imp, resOne, resA, implies_true, forall_const, eq_self, Int.reduceEq, Int.reduceAdd, Int.reduceSub, Int.reduceMul, Nat.reduceSub, Nat.le_add_right, Out.fg, fgA, t2, t3, t5, t9, t22, t24, t27, t34, z_k, z_i, z_n, z_d, u8s_nil, txts_gc, nb_u8s, u8s_length, nb_txts, txts_length, mk_bstr, empty_bstr, bytesOf_u8s, bs_size, bs_app, bs_eq, bs_ext, actA, txts_cons, txts_nil, List.length_cons, List.length_nil, txts_takel, drop1, names_len, isb6, acts_len, nb_acts, bstr_toList, u8s_get?, u8s_app, List.length_append, hw, hsl]))
        refine ⟨⟨i + 1, by omega⟩, by show L - (i + 1) < L - i; omega, ⟨?_, rfl⟩, rfl⟩
        show _ = AV.sl 1 (u8s (stepN (i + 1))) (nx + 123)
        rw [hsn, ← u8s_app]; rfl
      · have e : i = L := by omega
        subst e
        have hsl := stepN_len i
        by_cases q1 : 4096 < i
        · rw [if_pos q1] at hrd
          have q1' : 4096 < (i : Int) := by omega
          by_cases q2 : 131088 < N
          · rw [if_pos q2] at hp
            have q2' : 131088 < (N : Int) := by omega
            repeat' (first | omega | assumption | refine brF (fun _ => ?_) (fun _ => ?_) | refine brT (fun _ => ?_) (fun _ => ?_) | refine brVF (fun _ => ?_) (fun _ => ?_) | refine brVT (fun _ => ?_) (fun _ => ?_) | (with_reducible refine And.intro ?_ ?_) | (refine callK_by (hrd _) ?_) | (refine callK_by (hp _) ?_) | (refine callK_by (awake_spec _) ?_) | (simp -dsimp -implicitDefEqProofs only [B0, B1, B2, B3, B4, B5, B6, ↓ordOK_f, ↓ordOK_e, ↓ordCalls_f, ↓brB_tt, ↓brB_ff, ↓brB_tf, ↓brB_ft, ↓reduceIte, condWp, opSem, opSem0, tkOp, Out.tokV, retok1, constAV, binSem, unSem, intOp, strOp, loadSem, storeSem, fieldAddrSem, indexAddrSem, fieldSem, indexSem, lenSem, buildSem, buildSliceSem, appendSem, srcA, convSem, sliceSem, bndA, slTok, makeSliceSem, copySem, Res.obj?, cmpOK, cmpParts, tplace, Nat.reduceEqDiff, Nat.reduceAdd, Nat.reduceMul, Nat.reduceLeDiff, Nat.reduceLT, Nat.reduceBEq, Nat.reducePow, Int.reduceToNat, Int.reduceLE, Int.reduceLT, Int.reduceNeg, reduceCtorEq, cxP, ne_eq, forall_eq, forall_eq_or_imp, resOne, resA, implies_true, forall_const, eq_self, Int.reduceEq, Int.reduceAdd, Int.reduceSub, Int.reduceMul, Nat.reduceSub, Nat.le_add_right, Out.fg, fgA, t2, t3, t5, t9, t22, t24, t27, t34, z_k, z_i, z_n, z_d, u8s_nil, txts_gc, nb_u8s, u8s_length, nb_txts, txts_length, mk_bstr, empty_bstr, bytesOf_u8s, bs_size, bs_app, bs_eq, bs_ext, actA, txts_cons, txts_nil, List.length_cons, List.length_nil, txts_takel, drop1, names_len, isb6, acts_len, nb_acts, bstr_toList, u8s_get?, u8s_app, List.length_append, q1', q2', hz, hsl, hN0]))
            all_goals (exfalso; rename_i h9; exact h9 List.length_replicate)
          · rw [if_neg q2] at hp
            have q2' : ¬ 131088 < (N : Int) := by omega
            repeat' (first | omega | assumption | refine brF (fun _ => ?_) (fun _ => ?_) | refine brT (fun _ => ?_) (fun _ => ?_) | refine brVF (fun _ => ?_) (fun _ => ?_) | refine brVT (fun _ => ?_) (fun _ => ?_) | (with_reducible refine And.intro ?_ ?_) | (refine callK_by (hrd _) ?_) | (refine callK_by (hp _) ?_) | (refine callK_by (awake_spec _) ?_) | (simp -dsimp -implicitDefEqProofs only [B0, B1, B2, B3, B4, B5, B6, ↓ordOK_f, ↓ordOK_e, ↓ordCalls_f, ↓brB_tt, ↓brB_ff, ↓brB_tf, ↓brB_ft, ↓reduceIte, condWp, opSem, opSem0, tkOp, Out.tokV, retok1, constAV, binSem, unSem, intOp, strOp, loadSem, storeSem, fieldAddrSem, indexAddrSem, fieldSem, indexSem, lenSem, buildSem, buildSliceSem, appendSem, srcA, convSem, sliceSem, bndA, slTok, makeSliceSem, copySem, Res.obj?, cmpOK, cmpParts, tplace, Nat.reduceEqDiff, Nat.reduceAdd, Nat.reduceMul, Nat.reduceLeDiff, Nat.reduceLT, Nat.reduceBEq, Nat.reducePow, Int.reduceToNat, Int.reduceLE, Int.reduceLT, Int.reduceNeg, reduceCtorEq, cxP, ne_eq, forall_eq, forall_eq_or_imp, resOne, resA, implies_true, forall_const, eq_self, Int.reduceEq, Int.reduceAdd, Int.reduceSub, Int.reduceMul, Nat.reduceSub, Nat.le_add_right, Out.fg, fgA, t2, t3, t5, t9, t22, t24, t27, t34, z_k, z_i, z_n, z_d, u8s_nil, txts_gc, nb_u8s, u8s_length, nb_txts, txts_length, mk_bstr, empty_bstr, bytesOf_u8s, bs_size, bs_app, bs_eq, bs_ext, actA, txts_cons, txts_nil, List.length_cons, List.length_nil, txts_takel, drop1, names_len, isb6, acts_len, nb_acts, bstr_toList, u8s_get?, u8s_app, List.length_append, q1', q2', hz, hsl, hN0]))
            all_goals (exfalso; rename_i h9; exact h9 List.length_replicate)
        · rw [if_neg q1] at hrd
          have q1' : ¬ 4096 < (i : Int) := by omega
          by_cases q2 : 131088 < N
          · rw [if_pos q2] at hp
            have q2' : 131088 < (N : Int) := by omega
            repeat' (first | omega | assumption | refine brF (fun _ => ?_) (fun _ => ?_) | refine brT (fun _ => ?_) (fun _ => ?_) | refine brVF (fun _ => ?_) (fun _ => ?_) | refine brVT (fun _ => ?_) (fun _ => ?_) | (with_reducible refine And.intro ?_ ?_) | (refine callK_by (hrd _) ?_) | (refine callK_by (hp _) ?_) | (refine callK_by (awake_spec _) ?_) | (simp -dsimp -implicitDefEqProofs only [B0, B1, B2, B3, B4, B5, B6, ↓ordOK_f, ↓ordOK_e, ↓ordCalls_f, ↓brB_tt, ↓brB_ff, ↓brB_tf, ↓brB_ft, ↓reduceIte, condWp, opSem, opSem0, tkOp, Out.tokV, retok1, constAV, binSem, unSem, intOp, strOp, loadSem, storeSem, fieldAddrSem, indexAddrSem, fieldSem, indexSem, lenSem, buildSem, buildSliceSem, appendSem, srcA, convSem, sliceSem, bndA, slTok, makeSliceSem, copySem, Res.obj?, cmpOK, cmpParts, tplace, Nat.reduceEqDiff, Nat.reduceAdd, Nat.reduceMul, Nat.reduceLeDiff, Nat.reduceLT, Nat.reduceBEq, Nat.reducePow, Int.reduceToNat, Int.reduceLE, Int.reduceLT, Int.reduceNeg, reduceCtorEq, cxP, ne_eq, forall_eq, forall_eq_or_imp, resOne, resA, implies_true, forall_const, eq_self, Int.reduceEq, Int.reduceAdd, Int.reduceSub, Int.reduceMul, Nat.reduceSub, Nat.le_add_right, Out.fg, fgA, t2, t3, t5, t9, t22, t24, t27, t34, z_k, z_i, z_n, z_d, u8s_nil, txts_gc, nb_u8s, u8s_length, nb_txts, txts_length, mk_bstr, empty_bstr, bytesOf_u8s, bs_size, bs_app, bs_eq, bs_ext, actA, txts_cons, txts_nil, List.length_cons, List.length_nil, txts_takel, drop1, names_len, isb6, acts_len, nb_acts, bstr_toList, u8s_get?, u8s_app, List.length_append, q1', q2', hz, hsl, hN0]))
            all_goals (exfalso; rename_i h9; exact h9 List.length_replicate)
          · rw [if_neg q2] at hp
            have q2' : ¬ 131088 < (N : Int) := by omega
            repeat' (first | omega | assumption | refine brF (fun _ => ?_) (fun _ => ?_) | refine brT (fun _ => ?_) (fun _ => ?_) | refine brVF (fun _ => ?_) (fun _ => ?_) | refine brVT (fun _ => ?_) (fun _ => ?_) | (with_reducible refine And.intro ?_ ?_) | (refine callK_by (hrd _) ?_) | (refine callK_by (hp _) ?_) | (refine callK_by (awake_spec _) ?_) | (simp -dsimp -implicitDefEqProofs only [B0, B1, B2, B3, B4, B5, B6, ↓ordOK_f, ↓ordOK_e, ↓ordCalls_f, ↓brB_tt, ↓brB_ff, ↓brB_tf, ↓brB_ft, ↓reduceIte, condWp, opSem, opSem0, tkOp, Out.tokV, retok1, constAV, binSem, unSem, intOp, strOp, loadSem, storeSem, fieldAddrSem, indexAddrSem, fieldSem, indexSem, lenSem, buildSem, buildSliceSem, appendSem, srcA, convSem, sliceSem, bndA, slTok, makeSliceSem, copySem, Res.obj?, cmpOK, cmpParts, tplace, Nat.reduceEqDiff, Nat.reduceAdd, Nat.reduceMul, Nat.reduceLeDiff, Nat.reduceLT, Nat.reduceBEq, Nat.reducePow, Int.reduceToNat, Int.reduceLE, Int.reduceLT, Int.reduceNeg, reduceCtorEq, cxP, ne_eq, forall_eq, forall_eq_or_imp, resOne, resA, implies_true, forall_const, eq_self, Int.reduceEq, Int.reduceAdd, Int.reduceSub, Int.reduceMul, Nat.reduceSub, Nat.le_add_right, Out.fg, fgA, t2, t3, t5, t9, t22, t24, t27, t34, z_k, z_i, z_n, z_d, u8s_nil, txts_gc, nb_u8s, u8s_length, nb_txts, txts_length, mk_bstr, empty_bstr, bytesOf_u8s, bs_size, bs_app, bs_eq, bs_ext, actA, txts_cons, txts_nil, List.length_cons, List.length_nil, txts_takel, drop1, names_len, isb6, acts_len, nb_acts, bstr_toList, u8s_get?, u8s_app, List.length_append, q1', q2', hz, hsl, hN0]))
            all_goals (exfalso; rename_i h9; exact h9 List.length_replicate)
end Go.Proofs.YtdkcobnhcpgpaaaDoor

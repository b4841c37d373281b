/-
  say: the laws SayLines, SayParses.
-/
import Derived.Test.YtdkcobnhcpgpaaaDoorS18
set_option linter.unusedSimpArgs false
set_option linter.unusedVariables false
set_option maxRecDepth 100000
set_option maxHeartbeats 4000000
namespace Go.Proofs.YtdkcobnhcpgpaaaDoor
open Go Go.AL Go.Proofs.YtdkcobnhcpgpaaaDoor.T

theorem line5 : lineT ⟨1, 0, -5, []⟩ = [112, 97, 121, 32, 45, 53] := by
  have h1 : RightP ⟨1, 0, -5, []⟩ := by decide
  have h2 : dec 5 = [53] := by rw [dec_small (by omega)]; rfl
  rw [lineT, if_pos h1]
  simp [wordOf, namesL, hasIL, hasNL, hasDL, decT, h2]
theorem parse5 : parseT [112, 97, 121, 32, 45, 53] = (⟨1, 0, -5, []⟩, 0) := by
  rw [← line5]; exact parse_line _ (by decide)
theorem parse0 : parseT [112, 97, 121, 32, 45, 48] = (.zero, 23) := by
  have h2 : dec 0 = [48] := by rw [dec_small (by omega)]; rfl
  have h3 : numberT [45, 48] = (0, false) := by
    have : Lib.trimPrefix [45, 48] [45] = [48] := trim_neg [48]
    unfold numberT
    rw [this]
    simp [isDig, valN, decT, h2]
  have h4 : splitC 32 [112, 97, 121, 32, 45, 48] = [[112, 97, 121], [45, 48]] := by decide
  have h5 : kindU [112, 97, 121] 18 = 1 := by decide
  rw [parseT, if_neg (by decide), h4]
  simp [parseR, h5, fillR, fill0, fill1, fill2, fill3, stI, stN, stD, hasIL, hasNL, hasDL, h3]
theorem parse_nil : parseT [] = (.zero, 23) := by
  have h5 : kindU [] 18 = 0 := by decide
  rw [parseT, if_neg (by decide)]
  simp [splitC, parseR, h5]

--LOCAL: z_k, z_i, z_n, z_d, u8s_nil, txts_gc, nb_u8s, u8s_length, nb_txts, txts_length, mk_bstr, empty_bstr, bytesOf_u8s, bs_size, bs_app, bs_eq, actA, txts_cons, txts_nil, List.length_cons, List.length_nil, txts_takel, drop1, names_len
theorem awake_spec (nx : Nat) : FnSpec Tryd.prog 14 nx [] [] (bA true) [] 0 := by
  have h1 : ∀ m, FnSpec Tryd.prog 9 m [txt [112, 97, 121, 32, 45, 53]] [] (.tup [actA ⟨1, 0, -5, []⟩ 0, iA 0]) [] 0 := fun m => by
    have := parse_spec m [112, 97, 121, 32, 45, 53] (by decide); rw [parse5] at this; exact this
  have h2 : ∀ m, FnSpec Tryd.prog 9 m [txt [112, 97, 121, 32, 45, 48]] [] (.tup [actA .zero 0, iA 23]) [] 0 := fun m => by
    have := parse_spec m [112, 97, 121, 32, 45, 48] (by decide); rw [parse0] at this; exact this
  refine FnSpec.of_code (cx := cx) (an := {}) (rs := [.tmp 0]) mo Tryd.func14 rfl rfl (by kernel_rfl) (by kernel_rfl) (by show 0 ≤ _; decide) (.inl rfl) (by simp [allWr, keys, Res.wr]) ?_
  repeat' (first | omega | assumption | refine brF (fun _ => ?_) (fun _ => ?_) | refine brT (fun _ => ?_) (fun _ => ?_) | refine brVF (fun _ => ?_) (fun _ => ?_) | refine brVT (fun _ => ?_) (fun _ => ?_) | (with_reducible refine And.intro ?_ ?_) | (refine callK_by (h1 _) ?_) | (refine callK_by (h2 _) ?_) | (simp -dsimp -implicitDefEqProofs only [B0, B1, B2, B3, B4, B5, B6, ↓ordOK_f, ↓ordOK_e, ↓ordCalls_f, ↓brB_tt, ↓brB_ff, ↓brB_tf, ↓brB_ft, ↓reduceIte, condWp, opSem, opSem0, tkOp, Out.tokV, retok1, constAV, binSem, unSem, intOp, strOp, loadSem, storeSem, fieldAddrSem, indexAddrSem, fieldSem, indexSem, lenSem, buildSem, buildSliceSem, appendSem, srcA, convSem, sliceSem, bndA, slTok, makeSliceSem, copySem, Res.obj?, cmpOK, cmpParts, tplace, Nat.reduceEqDiff, Nat.reduceAdd, Nat.reduceMul, Nat.reduceLeDiff, Nat.reduceLT, Nat.reduceBEq, Nat.reducePow, Int.reduceToNat, Int.reduceLE, Int.reduceLT, Int.reduceNeg, reduceCtorEq, cxP, ne_eq, forall_eq, forall_eq_or_imp, resOne, resA, implies_true, forall_const, eq_self, Int.reduceEq, Int.reduceAdd, Int.reduceSub, Int.reduceMul, Nat.reduceSub, Nat.le_add_right, Out.fg, fgA, t2, t3, t5, t9, t22, t24, t27, z_k, z_i, z_n, z_d, u8s_nil, txts_gc, nb_u8s, u8s_length, nb_txts, txts_length, mk_bstr, empty_bstr, bytesOf_u8s, bs_size, bs_app, bs_eq, actA, txts_cons, txts_nil, List.length_cons, List.length_nil, txts_takel, drop1, names_len]))

theorem lineT_ne {a : Act_} (h : RightP a) : lineT a ≠ [] := by
  intro e
  have := parse_line a h
  rw [e, parse_nil] at this
  injection this with _ h2
  cases h2
theorem lineT_nil {a : Act_} (h : ¬ RightP a) : lineT a = [] := by rw [lineT, if_neg h]
theorem lineT_len {a : Act_} : (lineT a).length ≤ 131088 := by
  by_cases h : RightP a
  · have := parse_line a h
    by_cases hl : 131088 < (lineT a).length
    · rw [parseT, if_pos hl] at this
      injection this with _ h2
      cases h2
    · omega
  · rw [lineT_nil h]; simp

theorem lines_spec (nx : Nat) (a0 : Act_) : FnSpec Tryd.prog 3 nx [actA a0 0] [] (bA true) [] 0 := by
  have hcut := fun m => cut_spec m a0
  have hal : (cutA a0).d.length < 2 ^ 40 := by show (a0.d.take 200).length < _; rw [List.length_take]; omega
  generalize cutA a0 = a at *
  by_cases hr : RightP a
  · have h1 : ∀ m, FnSpec Tryd.prog 9 m [txt (lineT a)] [] (.tup [actA a 0, iA 0]) [] 0 := fun m => by
      have := parse_spec m (lineT a) (by have := lineT_len (a := a); omega); rw [parse_line a hr] at this; exact this
    have hne := lineT_ne hr
    refine FnSpec.of_code (cx := cx) (an := {mt := [1]}) (rs := [.tmp 2]) mo Tryd.func3 rfl rfl (by kernel_rfl) (by kernel_rfl) (by show 1 ≤ _; decide) (.inl rfl) (by simp [allWr, keys, Res.wr]) ?_
    repeat' (first | omega | assumption | refine brF (fun _ => ?_) (fun _ => ?_) | refine brT (fun _ => ?_) (fun _ => ?_) | refine brVF (fun _ => ?_) (fun _ => ?_) | refine brVT (fun _ => ?_) (fun _ => ?_) | (with_reducible refine And.intro ?_ ?_) | (refine callK_by (hcut _) ?_) | (refine callK_by (line_spec _ 0 a hal (.inl (by omega))) ?_) | (refine callK_by (h1 _) ?_) | (refine callK_by (right_spec _ 0 a (by omega)) ?_) | (refine callK_by (rightL_spec _ 0 a (by omega)) ?_) | (refine callK_by (lineL_spec _ 0 a hal (.inl (by omega))) ?_) | (refine callK_by (same_spec _ 0 0 a a) ?_) | (refine callK_by (awake_spec _) ?_) | (simp -dsimp -implicitDefEqProofs only [B0, B1, B2, B3, B4, B5, B6, ↓ordOK_f, ↓ordOK_e, ↓ordCalls_f, ↓brB_tt, ↓brB_ff, ↓brB_tf, ↓brB_ft, ↓reduceIte, condWp, opSem, opSem0, tkOp, Out.tokV, retok1, constAV, binSem, unSem, intOp, strOp, loadSem, storeSem, fieldAddrSem, indexAddrSem, fieldSem, indexSem, lenSem, buildSem, buildSliceSem, appendSem, srcA, convSem, sliceSem, bndA, slTok, makeSliceSem, copySem, Res.obj?, cmpOK, cmpParts, tplace, Nat.reduceEqDiff, Nat.reduceAdd, Nat.reduceMul, Nat.reduceLeDiff, Nat.reduceLT, Nat.reduceBEq, Nat.reducePow, Int.reduceToNat, Int.reduceLE, Int.reduceLT, Int.reduceNeg, reduceCtorEq, cxP, ne_eq, forall_eq, forall_eq_or_imp, resOne, resA, implies_true, forall_const, eq_self, Int.reduceEq, Int.reduceAdd, Int.reduceSub, Int.reduceMul, Nat.reduceSub, Nat.le_add_right, Out.fg, fgA, t2, t3, t4, t5, t9, t22, t24, t27, z_k, z_i, z_n, z_d, u8s_nil, txts_gc, nb_u8s, u8s_length, nb_txts, txts_length, mk_bstr, empty_bstr, bytesOf_u8s, bs_size, bs_app, bs_eq, actA, txts_cons, txts_nil, List.length_cons, List.length_nil, txts_takel, drop1, names_len, hne]))
  · have h1 : ∀ m, FnSpec Tryd.prog 9 m [txt []] [] (.tup [actA .zero 0, iA 23]) [] 0 := fun m => by
      have := parse_spec m [] (by decide); rw [parse_nil] at this; exact this
    have hn := lineT_nil hr
    refine FnSpec.of_code (cx := cx) (an := {mt := [1]}) (rs := [.tmp 2]) mo Tryd.func3 rfl rfl (by kernel_rfl) (by kernel_rfl) (by show 1 ≤ _; decide) (.inl rfl) (by simp [allWr, keys, Res.wr]) ?_
    repeat' (first | omega | assumption | refine brF (fun _ => ?_) (fun _ => ?_) | refine brT (fun _ => ?_) (fun _ => ?_) | refine brVF (fun _ => ?_) (fun _ => ?_) | refine brVT (fun _ => ?_) (fun _ => ?_) | (with_reducible refine And.intro ?_ ?_) | (refine callK_by (hcut _) ?_) | (refine callK_by (line_spec _ 0 a hal (.inl (by omega))) ?_) | (refine callK_by (h1 _) ?_) | (refine callK_by (right_spec _ 0 a (by omega)) ?_) | (refine callK_by (rightL_spec _ 0 a (by omega)) ?_) | (refine callK_by (lineL_spec _ 0 a hal (.inl (by omega))) ?_) | (refine callK_by (same_spec _ 0 1 .zero .zero) ?_) | (refine callK_by (awake_spec _) ?_) | (simp -dsimp -implicitDefEqProofs only [B0, B1, B2, B3, B4, B5, B6, ↓ordOK_f, ↓ordOK_e, ↓ordCalls_f, ↓brB_tt, ↓brB_ff, ↓brB_tf, ↓brB_ft, ↓reduceIte, condWp, opSem, opSem0, tkOp, Out.tokV, retok1, constAV, binSem, unSem, intOp, strOp, loadSem, storeSem, fieldAddrSem, indexAddrSem, fieldSem, indexSem, lenSem, buildSem, buildSliceSem, appendSem, srcA, convSem, sliceSem, bndA, slTok, makeSliceSem, copySem, Res.obj?, cmpOK, cmpParts, tplace, Nat.reduceEqDiff, Nat.reduceAdd, Nat.reduceMul, Nat.reduceLeDiff, Nat.reduceLT, Nat.reduceBEq, Nat.reducePow, Int.reduceToNat, Int.reduceLE, Int.reduceLT, Int.reduceNeg, reduceCtorEq, cxP, ne_eq, forall_eq, forall_eq_or_imp, resOne, resA, implies_true, forall_const, eq_self, Int.reduceEq, Int.reduceAdd, Int.reduceSub, Int.reduceMul, Nat.reduceSub, Nat.le_add_right, Out.fg, fgA, t2, t3, t4, t5, t9, t22, t24, t27, z_k, z_i, z_n, z_d, u8s_nil, txts_gc, nb_u8s, u8s_length, nb_txts, txts_length, mk_bstr, empty_bstr, bytesOf_u8s, bs_size, bs_app, bs_eq, actA, txts_cons, txts_nil, List.length_cons, List.length_nil, txts_takel, drop1, names_len, hn]))

theorem parse_cases (s : List UInt8) (h : s.length ≤ 131088) : parseT s = (.zero, 23) ∨ ∃ x, parseT s = (x, 0) ∧ lineT x = s ∧ s ≠ [] ∧ RightP x := by
  rcases hR : parseR s ((splitC 32 s).headD []) (splitC 32 s).tail with _ | p
  · exact .inl (by rw [parseT, if_neg (by omega), hR])
  · have h1 : parseT s = (p.1, 0) := by rw [parseT, if_neg (by omega), hR]
    have h2 : lineT p.1 = s := by
      unfold parseR at hR
      split at hR
      · cases hR
      · split at hR
        · cases hR
        · split at hR
          · rename_i e; injection hR with hR; rw [← hR]; exact e
          · cases hR
    have h3 : s ≠ [] := fun e => by
      rw [e, parse_nil] at h1
      injection h1 with _ h4
      cases h4
    refine .inr ⟨p.1, h1, h2, h3, Classical.byContradiction fun hr => ?_⟩
    rw [lineT_nil hr] at h2
    exact h3 h2.symm

theorem parses_core (nx : Nat) (s u : List UInt8) (a0 : Act_) (hu : s.take 400 = u) : FnSpec Tryd.prog 4 nx [txt s, actA a0 0] [] (bA true) [] 0 := by
  have hul : u.length ≤ 400 := by rw [← hu, List.length_take]; omega
  have hcut := fun m => cut_spec m a0
  have hal : (cutA a0).d.length < 2 ^ 40 := by show (a0.d.take 200).length < _; rw [List.length_take]; omega
  have hlin : ∀ m, FnSpec Tryd.prog 12 m [actA (cutA a0) 0] [] (txt (lineT (cutA a0))) [] 0 := fun m => lineL_spec m 0 (cutA a0) hal (.inl (by omega))
  have hne : parseT u = (.zero, 23) → u ≠ [] → ¬ u = lineT (cutA a0) := fun h h0 e => by
    have hr : RightP (cutA a0) := Classical.byContradiction fun hr => by rw [lineT_nil hr] at e; exact h0 e
    rw [e, parse_line _ hr] at h
    injection h with _ h2
    cases h2
  have hpar := fun m => parse_spec m u (by omega)
  clear hal
  generalize cutA a0 = a at *
  rcases parse_cases u (by omega) with hp | ⟨x, hp, hx, h0, hr⟩
  · rw [hp] at hpar
    have hne := hne hp
    by_cases h0 : u = []
    · rw [h0] at hpar
      by_cases h4 : 400 < s.length
      · have h4' : 400 < (s.length : Int) := by omega
        refine FnSpec.of_code (cx := cx) (an := {}) (rs := [.tmp 4]) mo Tryd.func4 rfl rfl (by kernel_rfl) (by kernel_rfl) (by show 2 ≤ _; decide) (.inl rfl) (by simp [allWr, keys, Res.wr]) ?_
        repeat' (first | omega | assumption | refine brF (fun _ => ?_) (fun _ => ?_) | refine brT (fun _ => ?_) (fun _ => ?_) | refine brVF (fun _ => ?_) (fun _ => ?_) | refine brVT (fun _ => ?_) (fun _ => ?_) | (with_reducible refine And.intro ?_ ?_) | (refine callK_by (hpar _) ?_) | (refine callK_by (same_spec _ 0 1 .zero .zero) ?_) | (refine callK_by (awake_spec _) ?_) | (simp -dsimp -implicitDefEqProofs only [B0, B1, B2, B3, B4, B5, B6, ↓ordOK_f, ↓ordOK_e, ↓ordCalls_f, ↓brB_tt, ↓brB_ff, ↓brB_tf, ↓brB_ft, ↓reduceIte, condWp, opSem, opSem0, tkOp, Out.tokV, retok1, constAV, binSem, unSem, intOp, strOp, loadSem, storeSem, fieldAddrSem, indexAddrSem, fieldSem, indexSem, lenSem, buildSem, buildSliceSem, appendSem, srcA, convSem, sliceSem, bndA, slTok, makeSliceSem, copySem, Res.obj?, cmpOK, cmpParts, tplace, Nat.reduceEqDiff, Nat.reduceAdd, Nat.reduceMul, Nat.reduceLeDiff, Nat.reduceLT, Nat.reduceBEq, Nat.reducePow, Int.reduceToNat, Int.reduceLE, Int.reduceLT, Int.reduceNeg, reduceCtorEq, cxP, ne_eq, forall_eq, forall_eq_or_imp, resOne, resA, implies_true, forall_const, eq_self, Int.reduceEq, Int.reduceAdd, Int.reduceSub, Int.reduceMul, Nat.reduceSub, Nat.le_add_right, Out.fg, fgA, t2, t3, t5, t9, t22, t24, t27, z_k, z_i, z_n, z_d, u8s_nil, txts_gc, nb_u8s, u8s_length, nb_txts, txts_length, mk_bstr, empty_bstr, bytesOf_u8s, bs_size, bs_app, bs_eq, actA, txts_cons, txts_nil, List.length_cons, List.length_nil, txts_takel, drop1, names_len, h4', bs_ext, List.drop_zero, hu, h0]))
      · have h4' : ¬ 400 < (s.length : Int) := by omega
        rw [List.take_of_length_le (by omega)] at hu
        subst hu
        refine FnSpec.of_code (cx := cx) (an := {}) (rs := [.tmp 4]) mo Tryd.func4 rfl rfl (by kernel_rfl) (by kernel_rfl) (by show 2 ≤ _; decide) (.inl rfl) (by simp [allWr, keys, Res.wr]) ?_
        repeat' (first | omega | assumption | refine brF (fun _ => ?_) (fun _ => ?_) | refine brT (fun _ => ?_) (fun _ => ?_) | refine brVF (fun _ => ?_) (fun _ => ?_) | refine brVT (fun _ => ?_) (fun _ => ?_) | (with_reducible refine And.intro ?_ ?_) | (refine callK_by (hpar _) ?_) | (refine callK_by (same_spec _ 0 1 .zero .zero) ?_) | (refine callK_by (awake_spec _) ?_) | (simp -dsimp -implicitDefEqProofs only [B0, B1, B2, B3, B4, B5, B6, ↓ordOK_f, ↓ordOK_e, ↓ordCalls_f, ↓brB_tt, ↓brB_ff, ↓brB_tf, ↓brB_ft, ↓reduceIte, condWp, opSem, opSem0, tkOp, Out.tokV, retok1, constAV, binSem, unSem, intOp, strOp, loadSem, storeSem, fieldAddrSem, indexAddrSem, fieldSem, indexSem, lenSem, buildSem, buildSliceSem, appendSem, srcA, convSem, sliceSem, bndA, slTok, makeSliceSem, copySem, Res.obj?, cmpOK, cmpParts, tplace, Nat.reduceEqDiff, Nat.reduceAdd, Nat.reduceMul, Nat.reduceLeDiff, Nat.reduceLT, Nat.reduceBEq, Nat.reducePow, Int.reduceToNat, Int.reduceLE, Int.reduceLT, Int.reduceNeg, reduceCtorEq, cxP, ne_eq, forall_eq, forall_eq_or_imp, resOne, resA, implies_true, forall_const, eq_self, Int.reduceEq, Int.reduceAdd, Int.reduceSub, Int.reduceMul, Nat.reduceSub, Nat.le_add_right, Out.fg, fgA, t2, t3, t5, t9, t22, t24, t27, z_k, z_i, z_n, z_d, u8s_nil, txts_gc, nb_u8s, u8s_length, nb_txts, txts_length, mk_bstr, empty_bstr, bytesOf_u8s, bs_size, bs_app, bs_eq, actA, txts_cons, txts_nil, List.length_cons, List.length_nil, txts_takel, drop1, names_len, h4', h0]))
    · have hne := hne h0
      by_cases h4 : 400 < s.length
      · have h4' : 400 < (s.length : Int) := by omega
        refine FnSpec.of_code (cx := cx) (an := {}) (rs := [.tmp 4]) mo Tryd.func4 rfl rfl (by kernel_rfl) (by kernel_rfl) (by show 2 ≤ _; decide) (.inl rfl) (by simp [allWr, keys, Res.wr]) ?_
        repeat' (first | omega | assumption | refine brF (fun _ => ?_) (fun _ => ?_) | refine brT (fun _ => ?_) (fun _ => ?_) | refine brVF (fun _ => ?_) (fun _ => ?_) | refine brVT (fun _ => ?_) (fun _ => ?_) | (with_reducible refine And.intro ?_ ?_) | (refine callK_by (hpar _) ?_) | (refine callK_by (same_spec _ 0 1 .zero .zero) ?_) | (refine callK_by (hcut _) ?_) | (refine callK_by (hlin _) ?_) | (refine callK_by (awake_spec _) ?_) | (simp -dsimp -implicitDefEqProofs only [B0, B1, B2, B3, B4, B5, B6, ↓ordOK_f, ↓ordOK_e, ↓ordCalls_f, ↓brB_tt, ↓brB_ff, ↓brB_tf, ↓brB_ft, ↓reduceIte, condWp, opSem, opSem0, tkOp, Out.tokV, retok1, constAV, binSem, unSem, intOp, strOp, loadSem, storeSem, fieldAddrSem, indexAddrSem, fieldSem, indexSem, lenSem, buildSem, buildSliceSem, appendSem, srcA, convSem, sliceSem, bndA, slTok, makeSliceSem, copySem, Res.obj?, cmpOK, cmpParts, tplace, Nat.reduceEqDiff, Nat.reduceAdd, Nat.reduceMul, Nat.reduceLeDiff, Nat.reduceLT, Nat.reduceBEq, Nat.reducePow, Int.reduceToNat, Int.reduceLE, Int.reduceLT, Int.reduceNeg, reduceCtorEq, cxP, ne_eq, forall_eq, forall_eq_or_imp, resOne, resA, implies_true, forall_const, eq_self, Int.reduceEq, Int.reduceAdd, Int.reduceSub, Int.reduceMul, Nat.reduceSub, Nat.le_add_right, Out.fg, fgA, t2, t3, t5, t9, t22, t24, t27, z_k, z_i, z_n, z_d, u8s_nil, txts_gc, nb_u8s, u8s_length, nb_txts, txts_length, mk_bstr, empty_bstr, bytesOf_u8s, bs_size, bs_app, bs_eq, actA, txts_cons, txts_nil, List.length_cons, List.length_nil, txts_takel, drop1, names_len, h4', bs_ext, List.drop_zero, hu, h0, hne]))
      · have h4' : ¬ 400 < (s.length : Int) := by omega
        rw [List.take_of_length_le (by omega)] at hu
        subst hu
        refine FnSpec.of_code (cx := cx) (an := {}) (rs := [.tmp 4]) mo Tryd.func4 rfl rfl (by kernel_rfl) (by kernel_rfl) (by show 2 ≤ _; decide) (.inl rfl) (by simp [allWr, keys, Res.wr]) ?_
        repeat' (first | omega | assumption | refine brF (fun _ => ?_) (fun _ => ?_) | refine brT (fun _ => ?_) (fun _ => ?_) | refine brVF (fun _ => ?_) (fun _ => ?_) | refine brVT (fun _ => ?_) (fun _ => ?_) | (with_reducible refine And.intro ?_ ?_) | (refine callK_by (hpar _) ?_) | (refine callK_by (same_spec _ 0 1 .zero .zero) ?_) | (refine callK_by (hcut _) ?_) | (refine callK_by (hlin _) ?_) | (refine callK_by (awake_spec _) ?_) | (simp -dsimp -implicitDefEqProofs only [B0, B1, B2, B3, B4, B5, B6, ↓ordOK_f, ↓ordOK_e, ↓ordCalls_f, ↓brB_tt, ↓brB_ff, ↓brB_tf, ↓brB_ft, ↓reduceIte, condWp, opSem, opSem0, tkOp, Out.tokV, retok1, constAV, binSem, unSem, intOp, strOp, loadSem, storeSem, fieldAddrSem, indexAddrSem, fieldSem, indexSem, lenSem, buildSem, buildSliceSem, appendSem, srcA, convSem, sliceSem, bndA, slTok, makeSliceSem, copySem, Res.obj?, cmpOK, cmpParts, tplace, Nat.reduceEqDiff, Nat.reduceAdd, Nat.reduceMul, Nat.reduceLeDiff, Nat.reduceLT, Nat.reduceBEq, Nat.reducePow, Int.reduceToNat, Int.reduceLE, Int.reduceLT, Int.reduceNeg, reduceCtorEq, cxP, ne_eq, forall_eq, forall_eq_or_imp, resOne, resA, implies_true, forall_const, eq_self, Int.reduceEq, Int.reduceAdd, Int.reduceSub, Int.reduceMul, Nat.reduceSub, Nat.le_add_right, Out.fg, fgA, t2, t3, t5, t9, t22, t24, t27, z_k, z_i, z_n, z_d, u8s_nil, txts_gc, nb_u8s, u8s_length, nb_txts, txts_length, mk_bstr, empty_bstr, bytesOf_u8s, bs_size, bs_app, bs_eq, actA, txts_cons, txts_nil, List.length_cons, List.length_nil, txts_takel, drop1, names_len, h4', h0, hne]))
  · rw [hp] at hpar
    have hxd : x.d.length < 2 ^ 40 := by have := hr.2.2.2.2.2; simp only [BndP] at this; omega
    have hlx : ∀ m, FnSpec Tryd.prog 12 m [actA x 0] [] (txt u) [] 0 := fun m => by rw [← hx]; exact lineL_spec m 0 x hxd (.inl (by omega))
    by_cases h4 : 400 < s.length
    · have h4' : 400 < (s.length : Int) := by omega
      refine FnSpec.of_code (cx := cx) (an := {}) (rs := [.tmp 4]) mo Tryd.func4 rfl rfl (by kernel_rfl) (by kernel_rfl) (by show 2 ≤ _; decide) (.inl rfl) (by simp [allWr, keys, Res.wr]) ?_
      repeat' (first | omega | assumption | refine brF (fun _ => ?_) (fun _ => ?_) | refine brT (fun _ => ?_) (fun _ => ?_) | refine brVF (fun _ => ?_) (fun _ => ?_) | refine brVT (fun _ => ?_) (fun _ => ?_) | (with_reducible refine And.intro ?_ ?_) | (refine callK_by (hpar _) ?_) | (refine callK_by (hlx _) ?_) | (refine callK_by (awake_spec _) ?_) | (simp -dsimp -implicitDefEqProofs only [B0, B1, B2, B3, B4, B5, B6, ↓ordOK_f, ↓ordOK_e, ↓ordCalls_f, ↓brB_tt, ↓brB_ff, ↓brB_tf, ↓brB_ft, ↓reduceIte, condWp, opSem, opSem0, tkOp, Out.tokV, retok1, constAV, binSem, unSem, intOp, strOp, loadSem, storeSem, fieldAddrSem, indexAddrSem, fieldSem, indexSem, lenSem, buildSem, buildSliceSem, appendSem, srcA, convSem, sliceSem, bndA, slTok, makeSliceSem, copySem, Res.obj?, cmpOK, cmpParts, tplace, Nat.reduceEqDiff, Nat.reduceAdd, Nat.reduceMul, Nat.reduceLeDiff, Nat.reduceLT, Nat.reduceBEq, Nat.reducePow, Int.reduceToNat, Int.reduceLE, Int.reduceLT, Int.reduceNeg, reduceCtorEq, cxP, ne_eq, forall_eq, forall_eq_or_imp, resOne, resA, implies_true, forall_const, eq_self, Int.reduceEq, Int.reduceAdd, Int.reduceSub, Int.reduceMul, Nat.reduceSub, Nat.le_add_right, Out.fg, fgA, t2, t3, t5, t9, t22, t24, t27, z_k, z_i, z_n, z_d, u8s_nil, txts_gc, nb_u8s, u8s_length, nb_txts, txts_length, mk_bstr, empty_bstr, bytesOf_u8s, bs_size, bs_app, bs_eq, actA, txts_cons, txts_nil, List.length_cons, List.length_nil, txts_takel, drop1, names_len, h4', bs_ext, List.drop_zero, hu, h0]))
    · have h4' : ¬ 400 < (s.length : Int) := by omega
      rw [List.take_of_length_le (by omega)] at hu
      subst hu
      refine FnSpec.of_code (cx := cx) (an := {}) (rs := [.tmp 4]) mo Tryd.func4 rfl rfl (by kernel_rfl) (by kernel_rfl) (by show 2 ≤ _; decide) (.inl rfl) (by simp [allWr, keys, Res.wr]) ?_
      repeat' (first | omega | assumption | refine brF (fun _ => ?_) (fun _ => ?_) | refine brT (fun _ => ?_) (fun _ => ?_) | refine brVF (fun _ => ?_) (fun _ => ?_) | refine brVT (fun _ => ?_) (fun _ => ?_) | (with_reducible refine And.intro ?_ ?_) | (refine callK_by (hpar _) ?_) | (refine callK_by (hlx _) ?_) | (refine callK_by (awake_spec _) ?_) | (simp -dsimp -implicitDefEqProofs only [B0, B1, B2, B3, B4, B5, B6, ↓ordOK_f, ↓ordOK_e, ↓ordCalls_f, ↓brB_tt, ↓brB_ff, ↓brB_tf, ↓brB_ft, ↓reduceIte, condWp, opSem, opSem0, tkOp, Out.tokV, retok1, constAV, binSem, unSem, intOp, strOp, loadSem, storeSem, fieldAddrSem, indexAddrSem, fieldSem, indexSem, lenSem, buildSem, buildSliceSem, appendSem, srcA, convSem, sliceSem, bndA, slTok, makeSliceSem, copySem, Res.obj?, cmpOK, cmpParts, tplace, Nat.reduceEqDiff, Nat.reduceAdd, Nat.reduceMul, Nat.reduceLeDiff, Nat.reduceLT, Nat.reduceBEq, Nat.reducePow, Int.reduceToNat, Int.reduceLE, Int.reduceLT, Int.reduceNeg, reduceCtorEq, cxP, ne_eq, forall_eq, forall_eq_or_imp, resOne, resA, implies_true, forall_const, eq_self, Int.reduceEq, Int.reduceAdd, Int.reduceSub, Int.reduceMul, Nat.reduceSub, Nat.le_add_right, Out.fg, fgA, t2, t3, t5, t9, t22, t24, t27, z_k, z_i, z_n, z_d, u8s_nil, txts_gc, nb_u8s, u8s_length, nb_txts, txts_length, mk_bstr, empty_bstr, bytesOf_u8s, bs_size, bs_app, bs_eq, actA, txts_cons, txts_nil, List.length_cons, List.length_nil, txts_takel, drop1, names_len, h4', h0]))
end Go.Proofs.YtdkcobnhcpgpaaaDoor

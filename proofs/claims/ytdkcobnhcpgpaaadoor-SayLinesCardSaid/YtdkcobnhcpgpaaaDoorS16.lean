/-
  say.Read.
-/
import Derived.Test.YtdkcobnhcpgpaaaDoorS15
set_option linter.unusedSimpArgs false
set_option linter.unusedVariables false
set_option maxRecDepth 100000
set_option maxHeartbeats 4000000
namespace Go.Proofs.YtdkcobnhcpgpaaaDoor
open Go Go.AL Go.Proofs.YtdkcobnhcpgpaaaDoor.T

def actsA (l : List Act_) : List AV := l.map (actA · 0)
theorem acts_len (l : List Act_) : (actsA l).length = l.length := by simp [actsA]
theorem acts_snoc (l : List Act_) (a : Act_) : actsA l ++ [AV.agg 4 [iA a.k, iA a.i, iA a.n, .sl 1 (u8s a.d) 0]] = actsA (l ++ [a]) := by simp [actsA, actA]
theorem nb_acts {m : Nat} (l : List Act_) : AV.nbs m (actsA l) = True := by
  simp only [eq_iff_iff, iff_true]
  refine nbs_map (fun a => ?_) l
  simp [actA, AV.nb, AV.nbs, nb_u8s]
theorem acts_get {l : List Act_} {i : Nat} (h : i < l.length) : (actsA l).getD i .undef = actA l[i] 0 := by
  simp [actsA, List.getD_eq_getElem?_getD, List.getElem?_map, List.getElem?_eq_getElem h]

/-- the acts that lines are, from place i on -/
def readL : Nat → List (List UInt8) → List Act_ → List Act_ × Int × Int
  | i, [], acc => (acc, 0, 0)
  | i, x :: t, acc => if (parseT x).2 = 0 then readL (i + 1) t (acc ++ [(parseT x).1]) else ([], i, (parseT x).2)
def readT (s : List UInt8) : List Act_ × Int × Int :=
  if s = [] then ([], 0, 0) else if 4096 < (splitC 10 (Lib.trimSuffix s [10])).length then ([], 0, 3) else readL 0 (splitC 10 (Lib.trimSuffix s [10])) []
theorem trimSuffix_len (s p : List UInt8) : (Lib.trimSuffix s p).length ≤ s.length := by
  unfold Lib.trimSuffix; split
  · rw [List.length_take]; omega
  · exact Nat.le_refl _
theorem readL_bad : ∀ (t : List (List UInt8)) (i : Nat) (acc : List Act_), (readL i t acc).2.2 ≠ 0 → (readL i t acc).1 = []
  | [], i, acc, h => absurd rfl h
  | x :: t, i, acc, h => by
    rw [readL] at h ⊢
    split
    · rename_i e; rw [if_pos e] at h; exact readL_bad t _ _ h
    · rfl

--LOCAL: txts_gc, nb_u8s, u8s_length, nb_txts, txts_length, mk_bstr, empty_bstr, bytesOf_u8s, bs_size, bs_app, bs_eq, txts_cons, txts_nil, List.length_cons, List.length_nil, acts_len, nb_acts
theorem read_walk (nx : Nat) (s : List UInt8) (y : AV) (wr : Heap) (hs : s.length < 2 ^ 40) (hs0 : s ≠ []) (hy : y.good = true) (hsh : ¬ 4096 < (splitC 10 (Lib.trimSuffix s [10])).length)
    (hok : (readT s).2.2 = 0 → y = .sl 4 (actsA (readT s).1) (nx + 99) ∧ wr = [(nx + 97, some (.tail (readT s).1.length))]) (hbad : (readT s).2.2 ≠ 0 → y = .sl 0 [] 1 ∧ wr = []) :
    FnSpec Tryd.prog 15 nx [txt s] [] (.tup [y, iA (readT s).2.1, iA (readT s).2.2]) wr 200 := by
  have hgood : ∀ x ∈ [y, iA (readT s).2.1, iA (readT s).2.2], x = .undef ∨ x.good = true := by
    intro x hx
    simp only [List.mem_cons, List.not_mem_nil, or_false] at hx
    rcases hx with rfl | rfl | rfl
    · exact .inr hy
    · exact .inr rfl
    · exact .inr rfl
  have htl := trimSuffix_len s [10]
  have hrt : readT s = readL 0 (splitC 10 (Lib.trimSuffix s [10])) [] := by rw [readT, if_neg hs0, if_neg hsh]
  have hpl := splitC_piece 10 (Lib.trimSuffix s [10])
  generalize hu : Lib.trimSuffix s [10] = u at *
  generalize hL : splitC 10 u = L at *
  generalize readT s = R at *
  have hsh' : ¬ 4096 < (L.length : Int) := by omega
  refine FnSpec.of_code (cx := cx) (an := {tk := [(6, [([], 4)])]}) (rs := [.tmp 2, .tmp 3, .tmp 4]) mo Tryd.func15 rfl rfl (by kernel_rfl) (by kernel_rfl) (by show 1 ≤ _; decide) (.inr ⟨_, rfl, hgood⟩) (by simp [allWr, keys, Res.wr]) ?_
  repeat' (first | omega | assumption | refine brF (fun _ => ?_) (fun _ => ?_) | refine brT (fun _ => ?_) (fun _ => ?_) | refine brVF (fun _ => ?_) (fun _ => ?_) | refine brVT (fun _ => ?_) (fun _ => ?_) | (with_reducible refine And.intro ?_ ?_) | (refine callK_by (trimSuffix_spec _ s [10] (by omega)) ?_) | (refine callK_by (split_spec _ u 10 (by omega)) ?_) | (simp -dsimp -implicitDefEqProofs only [B0, B1, B2, B3, B4, B5, B6, ↓ordOK_f, ↓ordOK_e, ↓ordCalls_f, ↓brB_tt, ↓brB_ff, ↓brB_tf, ↓brB_ft, ↓reduceIte, condWp, opSem, opSem0, tkOp, Out.tokV, retok1, constAV, binSem, unSem, intOp, strOp, loadSem, storeSem, fieldAddrSem, indexAddrSem, fieldSem, indexSem, lenSem, buildSem, buildSliceSem, appendSem, srcA, convSem, sliceSem, bndA, slTok, makeSliceSem, copySem, Res.obj?, cmpOK, cmpParts, tplace, Nat.reduceEqDiff, Nat.reduceAdd, Nat.reduceMul, Nat.reduceLeDiff, Nat.reduceLT, Nat.reduceBEq, Nat.reducePow, Int.reduceToNat, Int.reduceLE, Int.reduceLT, Int.reduceNeg, reduceCtorEq, cxP, ne_eq, forall_eq, forall_eq_or_imp, resOne, resA, implies_true, forall_const, eq_self, Int.reduceEq, Int.reduceAdd, Int.reduceSub, Int.reduceMul, Nat.reduceSub, Nat.le_add_right, Out.fg, fgA, t2, t3, t5, t9, t22, t24, t27, t34, t41, txts_gc, nb_u8s, u8s_length, nb_txts, txts_length, mk_bstr, empty_bstr, bytesOf_u8s, bs_size, bs_app, bs_eq, txts_cons, txts_nil, List.length_cons, List.length_nil, acts_len, nb_acts, hs0, hu, hL, hsh']))
  apply loop_keep [19, 20] (fun p : { p : Nat × List Act_ // p.1 ≤ L.length ∧ readL p.1 (L.drop p.1) p.2 = R ∧ p.2.length ≤ p.1 } => [(6, .sl 4 (actsA p.1.2) (nx + 99)), (21, iA p.1.1)])
    (fun p => [(nx + 97, some (.tail p.1.2.length))]) (fun p => L.length - p.1.1) ⟨(0, []), Nat.zero_le _, by rw [hrt]; rfl, by simp⟩
  · simp -dsimp -implicitDefEqProofs only [B0, B1, B2, B3, B4, B5, B6, ↓ordOK_f, ↓ordOK_e, ↓ordCalls_f, ↓brB_tt, ↓brB_ff, ↓brB_tf, ↓brB_ft, ↓reduceIte, condWp, opSem, opSem0, tkOp, Out.tokV, retok1, constAV, binSem, unSem, intOp, strOp, loadSem, storeSem, fieldAddrSem, indexAddrSem, fieldSem, indexSem, lenSem, buildSem, buildSliceSem, appendSem, srcA, convSem, sliceSem, bndA, slTok, makeSliceSem, copySem, Res.obj?, cmpOK, cmpParts, tplace, Nat.reduceEqDiff, Nat.reduceAdd, Nat.reduceMul, Nat.reduceLeDiff, Nat.reduceLT, Nat.reduceBEq, Nat.reducePow, Int.reduceToNat, Int.reduceLE, Int.reduceLT, Int.reduceNeg, reduceCtorEq, cxP, ne_eq, forall_eq, forall_eq_or_imp, resOne, resA, implies_true, forall_const, eq_self, Int.reduceEq, Int.reduceAdd, Int.reduceSub, Int.reduceMul, Nat.reduceSub, Nat.le_add_right, Out.fg, fgA, txts_gc, nb_u8s, u8s_length, nb_txts, txts_length, mk_bstr, empty_bstr, bytesOf_u8s, bs_size, bs_app, bs_eq, txts_cons, txts_nil, List.length_cons, List.length_nil, acts_len, nb_acts]; rfl
  · simp -dsimp -implicitDefEqProofs only [B0, B1, B2, B3, B4, B5, B6, ↓ordOK_f, ↓ordOK_e, ↓ordCalls_f, ↓brB_tt, ↓brB_ff, ↓brB_tf, ↓brB_ft, ↓reduceIte, condWp, opSem, opSem0, tkOp, Out.tokV, retok1, constAV, binSem, unSem, intOp, strOp, loadSem, storeSem, fieldAddrSem, indexAddrSem, fieldSem, indexSem, lenSem, buildSem, buildSliceSem, appendSem, srcA, convSem, sliceSem, bndA, slTok, makeSliceSem, copySem, Res.obj?, cmpOK, cmpParts, tplace, Nat.reduceEqDiff, Nat.reduceAdd, Nat.reduceMul, Nat.reduceLeDiff, Nat.reduceLT, Nat.reduceBEq, Nat.reducePow, Int.reduceToNat, Int.reduceLE, Int.reduceLT, Int.reduceNeg, reduceCtorEq, cxP, ne_eq, forall_eq, forall_eq_or_imp, resOne, resA, implies_true, forall_const, eq_self, Int.reduceEq, Int.reduceAdd, Int.reduceSub, Int.reduceMul, Nat.reduceSub, Nat.le_add_right, Out.fg, fgA, txts_gc, nb_u8s, u8s_length, nb_txts, txts_length, mk_bstr, empty_bstr, bytesOf_u8s, bs_size, bs_app, bs_eq, txts_cons, txts_nil, List.length_cons, List.length_nil, acts_len, nb_acts]; try rfl
  · simp -dsimp -implicitDefEqProofs only [B0, B1, B2, B3, B4, B5, B6, ↓ordOK_f, ↓ordOK_e, ↓ordCalls_f, ↓brB_tt, ↓brB_ff, ↓brB_tf, ↓brB_ft, ↓reduceIte, condWp, opSem, opSem0, tkOp, Out.tokV, retok1, constAV, binSem, unSem, intOp, strOp, loadSem, storeSem, fieldAddrSem, indexAddrSem, fieldSem, indexSem, lenSem, buildSem, buildSliceSem, appendSem, srcA, convSem, sliceSem, bndA, slTok, makeSliceSem, copySem, Res.obj?, cmpOK, cmpParts, tplace, Nat.reduceEqDiff, Nat.reduceAdd, Nat.reduceMul, Nat.reduceLeDiff, Nat.reduceLT, Nat.reduceBEq, Nat.reducePow, Int.reduceToNat, Int.reduceLE, Int.reduceLT, Int.reduceNeg, reduceCtorEq, cxP, ne_eq, forall_eq, forall_eq_or_imp, resOne, resA, implies_true, forall_const, eq_self, Int.reduceEq, Int.reduceAdd, Int.reduceSub, Int.reduceMul, Nat.reduceSub, Nat.le_add_right, Out.fg, fgA, txts_gc, nb_u8s, u8s_length, nb_txts, txts_length, mk_bstr, empty_bstr, bytesOf_u8s, bs_size, bs_app, bs_eq, txts_cons, txts_nil, List.length_cons, List.length_nil, acts_len, nb_acts]; try rfl
  · intro p
    simp -dsimp -implicitDefEqProofs only [B0, B1, B2, B3, B4, B5, B6, ↓ordOK_f, ↓ordOK_e, ↓ordCalls_f, ↓brB_tt, ↓brB_ff, ↓brB_tf, ↓brB_ft, ↓reduceIte, condWp, opSem, opSem0, tkOp, Out.tokV, retok1, constAV, binSem, unSem, intOp, strOp, loadSem, storeSem, fieldAddrSem, indexAddrSem, fieldSem, indexSem, lenSem, buildSem, buildSliceSem, appendSem, srcA, convSem, sliceSem, bndA, slTok, makeSliceSem, copySem, Res.obj?, cmpOK, cmpParts, tplace, Nat.reduceEqDiff, Nat.reduceAdd, Nat.reduceMul, Nat.reduceLeDiff, Nat.reduceLT, Nat.reduceBEq, Nat.reducePow, Int.reduceToNat, Int.reduceLE, Int.reduceLT, Int.reduceNeg, reduceCtorEq, cxP, ne_eq, forall_eq, forall_eq_or_imp, resOne, resA, implies_true, forall_const, eq_self, Int.reduceEq, Int.reduceAdd, Int.reduceSub, Int.reduceMul, Nat.reduceSub, Nat.le_add_right, Out.fg, fgA, txts_gc, nb_u8s, u8s_length, nb_txts, txts_length, mk_bstr, empty_bstr, bytesOf_u8s, bs_size, bs_app, bs_eq, txts_cons, txts_nil, List.length_cons, List.length_nil, acts_len, nb_acts]
    try omega
  · rintro ⟨⟨i, acc⟩, k1, k2, k3⟩
    have k1 : i ≤ L.length := k1
    have k2 : readL i (L.drop i) acc = R := k2
    have k3 : acc.length ≤ i := k3
    simp -dsimp -implicitDefEqProofs only [B0, B1, B2, B3, B4, B5, B6, ↓ordOK_f, ↓ordOK_e, ↓ordCalls_f, ↓brB_tt, ↓brB_ff, ↓brB_tf, ↓brB_ft, ↓reduceIte, condWp, opSem, opSem0, tkOp, Out.tokV, retok1, constAV, binSem, unSem, intOp, strOp, loadSem, storeSem, fieldAddrSem, indexAddrSem, fieldSem, indexSem, lenSem, buildSem, buildSliceSem, appendSem, srcA, convSem, sliceSem, bndA, slTok, makeSliceSem, copySem, Res.obj?, cmpOK, cmpParts, tplace, Nat.reduceEqDiff, Nat.reduceAdd, Nat.reduceMul, Nat.reduceLeDiff, Nat.reduceLT, Nat.reduceBEq, Nat.reducePow, Int.reduceToNat, Int.reduceLE, Int.reduceLT, Int.reduceNeg, reduceCtorEq, cxP, ne_eq, forall_eq, forall_eq_or_imp, resOne, resA, implies_true, forall_const, eq_self, Int.reduceEq, Int.reduceAdd, Int.reduceSub, Int.reduceMul, Nat.reduceSub, Nat.le_add_right, Out.fg, fgA, t2, t3, t5, t9, t22, t24, t27, t34, t41, txts_gc, nb_u8s, u8s_length, nb_txts, txts_length, mk_bstr, empty_bstr, bytesOf_u8s, bs_size, bs_app, bs_eq, txts_cons, txts_nil, List.length_cons, List.length_nil, acts_len, nb_acts]
    refine brT (fun h => ?_) (fun h => ?_)
    · have hi : i < L.length := by omega
      have hg := txts_get hi
      have hd := List.drop_eq_getElem_cons hi
      have hgd : L.getD i [] = L[i] := by rw [List.getD_eq_getElem?_getD, List.getElem?_eq_getElem hi]; rfl
      have hxl := hpl L[i] (List.getElem_mem _)
      rw [hgd] at hg
      rw [hd, readL] at k2
      generalize L[i] = x at *
      have hw : IntKind.i64.wrap ((i : Int) + 1) = ((i + 1 : Nat) : Int) := wrapI (by omega) (by omega)
      have hps := parse_spec
      rcases hp : parseT x with ⟨a, e⟩
      rw [hp] at k2
      have hps : ∀ m, FnSpec Tryd.prog 9 m [txt x] [] (.tup [actA a 0, iA e]) [] 0 := fun m => by have := parse_spec m x (by omega); rw [hp] at this; exact this
      by_cases he : e = 0
      · rw [if_pos he] at k2
        have hsn := acts_snoc acc a
        repeat' (first | omega | assumption | refine brF (fun _ => ?_) (fun _ => ?_) | refine brT (fun _ => ?_) (fun _ => ?_) | refine brVF (fun _ => ?_) (fun _ => ?_) | refine brVT (fun _ => ?_) (fun _ => ?_) | (with_reducible refine And.intro ?_ ?_) | (refine callK_by (hps _) ?_) | (simp -dsimp -implicitDefEqProofs only [B0, B1, B2, B3, B4, B5, B6, ↓ordOK_f, ↓ordOK_e, ↓ordCalls_f, ↓brB_tt, ↓brB_ff, ↓brB_tf, ↓brB_ft, ↓reduceIte, condWp, opSem, opSem0, tkOp, Out.tokV, retok1, constAV, binSem, unSem, intOp, strOp, loadSem, storeSem, fieldAddrSem, indexAddrSem, fieldSem, indexSem, lenSem, buildSem, buildSliceSem, appendSem, srcA, convSem, sliceSem, bndA, slTok, makeSliceSem, copySem, Res.obj?, cmpOK, cmpParts, tplace, Nat.reduceEqDiff, Nat.reduceAdd, Nat.reduceMul, Nat.reduceLeDiff, Nat.reduceLT, Nat.reduceBEq, Nat.reducePow, Int.reduceToNat, Int.reduceLE, Int.reduceLT, Int.reduceNeg, reduceCtorEq, cxP, ne_eq, forall_eq, forall_eq_or_imp, resOne, resA, implies_true, forall_const, eq_self, Int.reduceEq, Int.reduceAdd, Int.reduceSub, Int.reduceMul, Nat.reduceSub, Nat.le_add_right, Out.fg, fgA, t2, t3, t5, t9, t22, t24, t27, t34, t41, txts_gc, nb_u8s, u8s_length, nb_txts, txts_length, mk_bstr, empty_bstr, bytesOf_u8s, bs_size, bs_app, bs_eq, txts_cons, txts_nil, List.length_cons, List.length_nil, acts_len, nb_acts, hg, hw, he, hsn, actA]))
        exact ⟨⟨(i + 1, acc ++ [a]), hi, k2, by simp; omega⟩, by show L.length - (i + 1) < L.length - i; omega, ⟨rfl, rfl⟩, by simp⟩
      · rw [if_neg he] at k2
        subst k2
        obtain ⟨rfl, rfl⟩ := hbad he
        repeat' (first | omega | assumption | refine brF (fun _ => ?_) (fun _ => ?_) | refine brT (fun _ => ?_) (fun _ => ?_) | refine brVF (fun _ => ?_) (fun _ => ?_) | refine brVT (fun _ => ?_) (fun _ => ?_) | (with_reducible refine And.intro ?_ ?_) | (refine callK_by (hps _) ?_) | (simp -dsimp -implicitDefEqProofs only [B0, B1, B2, B3, B4, B5, B6, ↓ordOK_f, ↓ordOK_e, ↓ordCalls_f, ↓brB_tt, ↓brB_ff, ↓brB_tf, ↓brB_ft, ↓reduceIte, condWp, opSem, opSem0, tkOp, Out.tokV, retok1, constAV, binSem, unSem, intOp, strOp, loadSem, storeSem, fieldAddrSem, indexAddrSem, fieldSem, indexSem, lenSem, buildSem, buildSliceSem, appendSem, srcA, convSem, sliceSem, bndA, slTok, makeSliceSem, copySem, Res.obj?, cmpOK, cmpParts, tplace, Nat.reduceEqDiff, Nat.reduceAdd, Nat.reduceMul, Nat.reduceLeDiff, Nat.reduceLT, Nat.reduceBEq, Nat.reducePow, Int.reduceToNat, Int.reduceLE, Int.reduceLT, Int.reduceNeg, reduceCtorEq, cxP, ne_eq, forall_eq, forall_eq_or_imp, resOne, resA, implies_true, forall_const, eq_self, Int.reduceEq, Int.reduceAdd, Int.reduceSub, Int.reduceMul, Nat.reduceSub, Nat.le_add_right, Out.fg, fgA, t2, t3, t5, t9, t22, t24, t27, t34, t41, txts_gc, nb_u8s, u8s_length, nb_txts, txts_length, mk_bstr, empty_bstr, bytesOf_u8s, bs_size, bs_app, bs_eq, txts_cons, txts_nil, List.length_cons, List.length_nil, acts_len, nb_acts, hg, hw, he, actA]))
    · have e : i = L.length := by omega
      subst e
      rw [List.drop_length, readL] at k2
      subst k2
      obtain ⟨rfl, rfl⟩ := hok rfl
      repeat' (first | omega | assumption | refine brF (fun _ => ?_) (fun _ => ?_) | refine brT (fun _ => ?_) (fun _ => ?_) | refine brVF (fun _ => ?_) (fun _ => ?_) | refine brVT (fun _ => ?_) (fun _ => ?_) | (with_reducible refine And.intro ?_ ?_) | (simp -dsimp -implicitDefEqProofs only [B0, B1, B2, B3, B4, B5, B6, ↓ordOK_f, ↓ordOK_e, ↓ordCalls_f, ↓brB_tt, ↓brB_ff, ↓brB_tf, ↓brB_ft, ↓reduceIte, condWp, opSem, opSem0, tkOp, Out.tokV, retok1, constAV, binSem, unSem, intOp, strOp, loadSem, storeSem, fieldAddrSem, indexAddrSem, fieldSem, indexSem, lenSem, buildSem, buildSliceSem, appendSem, srcA, convSem, sliceSem, bndA, slTok, makeSliceSem, copySem, Res.obj?, cmpOK, cmpParts, tplace, Nat.reduceEqDiff, Nat.reduceAdd, Nat.reduceMul, Nat.reduceLeDiff, Nat.reduceLT, Nat.reduceBEq, Nat.reducePow, Int.reduceToNat, Int.reduceLE, Int.reduceLT, Int.reduceNeg, reduceCtorEq, cxP, ne_eq, forall_eq, forall_eq_or_imp, resOne, resA, implies_true, forall_const, eq_self, Int.reduceEq, Int.reduceAdd, Int.reduceSub, Int.reduceMul, Nat.reduceSub, Nat.le_add_right, Out.fg, fgA, t2, t3, t5, t9, t22, t24, t27, t34, t41, txts_gc, nb_u8s, u8s_length, nb_txts, txts_length, mk_bstr, empty_bstr, bytesOf_u8s, bs_size, bs_app, bs_eq, txts_cons, txts_nil, List.length_cons, List.length_nil, acts_len, nb_acts]))

theorem read_spec (nx : Nat) (s : List UInt8) (hs : s.length < 2 ^ 40) : FnSpec Tryd.prog 15 nx [txt s] [] (.tup [.sl 4 (actsA (readT s).1) 0, iA (readT s).2.1, iA (readT s).2.2]) [] 0 := by
  have hnil : ∀ (i e : Int), FnSpec Tryd.prog 15 nx [txt s] [] (.tup [.sl 0 [] 1, iA i, iA e]) [] 0 → FnSpec Tryd.prog 15 nx [txt s] [] (.tup [.sl 4 (actsA []) 0, iA i, iA e]) [] 0 := fun i e h => by
    refine h.forget0 ⟨rfl, fun i x y hx hy => ?_⟩ (by simp [AV.nb, AV.nbs, nb_acts]) (fun n h => by simp [keys] at h)
    match i, hx, hy with
    | 0, hx, hy => injection hx with hx; injection hy with hy; subst hx hy; exact .inr ⟨rfl, rfl, .inr ⟨.inr rfl, .inl rfl⟩⟩
    | 1, hx, hy => injection hx with hx; injection hy with hy; subst hx hy; exact .inl rfl
    | 2, hx, hy => injection hx with hx; injection hy with hy; subst hx hy; exact .inl rfl
    | i + 3, hx, hy => simp at hx
  by_cases h0 : s = []
  · rw [readT, if_pos h0]
    refine hnil _ _ ?_
    refine FnSpec.of_code (cx := cx) (an := {}) (rs := [.tmp 2, .tmp 3, .tmp 4]) mo Tryd.func15 rfl rfl (by kernel_rfl) (by kernel_rfl) (by show 1 ≤ _; decide) (.inr ⟨_, rfl, by simp [AV.good]⟩) (by simp [allWr, keys, Res.wr]) ?_
    repeat' (first | omega | assumption | refine brF (fun _ => ?_) (fun _ => ?_) | refine brT (fun _ => ?_) (fun _ => ?_) | refine brVF (fun _ => ?_) (fun _ => ?_) | refine brVT (fun _ => ?_) (fun _ => ?_) | (with_reducible refine And.intro ?_ ?_) | (simp -dsimp -implicitDefEqProofs only [B0, B1, B2, B3, B4, B5, B6, ↓ordOK_f, ↓ordOK_e, ↓ordCalls_f, ↓brB_tt, ↓brB_ff, ↓brB_tf, ↓brB_ft, ↓reduceIte, condWp, opSem, opSem0, tkOp, Out.tokV, retok1, constAV, binSem, unSem, intOp, strOp, loadSem, storeSem, fieldAddrSem, indexAddrSem, fieldSem, indexSem, lenSem, buildSem, buildSliceSem, appendSem, srcA, convSem, sliceSem, bndA, slTok, makeSliceSem, copySem, Res.obj?, cmpOK, cmpParts, tplace, Nat.reduceEqDiff, Nat.reduceAdd, Nat.reduceMul, Nat.reduceLeDiff, Nat.reduceLT, Nat.reduceBEq, Nat.reducePow, Int.reduceToNat, Int.reduceLE, Int.reduceLT, Int.reduceNeg, reduceCtorEq, cxP, ne_eq, forall_eq, forall_eq_or_imp, resOne, resA, implies_true, forall_const, eq_self, Int.reduceEq, Int.reduceAdd, Int.reduceSub, Int.reduceMul, Nat.reduceSub, Nat.le_add_right, Out.fg, fgA, t2, t3, t5, t9, t22, t24, t27, t34, t41, txts_gc, nb_u8s, u8s_length, nb_txts, txts_length, mk_bstr, empty_bstr, bytesOf_u8s, bs_size, bs_app, bs_eq, txts_cons, txts_nil, List.length_cons, List.length_nil, acts_len, nb_acts, h0]))
  by_cases hsh : 4096 < (splitC 10 (Lib.trimSuffix s [10])).length
  · rw [readT, if_neg h0, if_pos hsh]
    refine hnil _ _ ?_
    have htl := trimSuffix_len s [10]
    generalize hu : Lib.trimSuffix s [10] = u at *
    generalize hL : splitC 10 u = L at *
    have hsh' : 4096 < (L.length : Int) := by omega
    refine FnSpec.of_code (cx := cx) (an := {}) (rs := [.tmp 2, .tmp 3, .tmp 4]) mo Tryd.func15 rfl rfl (by kernel_rfl) (by kernel_rfl) (by show 1 ≤ _; decide) (.inr ⟨_, rfl, by simp [AV.good]⟩) (by simp [allWr, keys, Res.wr]) ?_
    repeat' (first | omega | assumption | refine brF (fun _ => ?_) (fun _ => ?_) | refine brT (fun _ => ?_) (fun _ => ?_) | refine brVF (fun _ => ?_) (fun _ => ?_) | refine brVT (fun _ => ?_) (fun _ => ?_) | (with_reducible refine And.intro ?_ ?_) | (refine callK_by (trimSuffix_spec _ s [10] (by omega)) ?_) | (refine callK_by (split_spec _ u 10 (by omega)) ?_) | (simp -dsimp -implicitDefEqProofs only [B0, B1, B2, B3, B4, B5, B6, ↓ordOK_f, ↓ordOK_e, ↓ordCalls_f, ↓brB_tt, ↓brB_ff, ↓brB_tf, ↓brB_ft, ↓reduceIte, condWp, opSem, opSem0, tkOp, Out.tokV, retok1, constAV, binSem, unSem, intOp, strOp, loadSem, storeSem, fieldAddrSem, indexAddrSem, fieldSem, indexSem, lenSem, buildSem, buildSliceSem, appendSem, srcA, convSem, sliceSem, bndA, slTok, makeSliceSem, copySem, Res.obj?, cmpOK, cmpParts, tplace, Nat.reduceEqDiff, Nat.reduceAdd, Nat.reduceMul, Nat.reduceLeDiff, Nat.reduceLT, Nat.reduceBEq, Nat.reducePow, Int.reduceToNat, Int.reduceLE, Int.reduceLT, Int.reduceNeg, reduceCtorEq, cxP, ne_eq, forall_eq, forall_eq_or_imp, resOne, resA, implies_true, forall_const, eq_self, Int.reduceEq, Int.reduceAdd, Int.reduceSub, Int.reduceMul, Nat.reduceSub, Nat.le_add_right, Out.fg, fgA, t2, t3, t5, t9, t22, t24, t27, t34, t41, txts_gc, nb_u8s, u8s_length, nb_txts, txts_length, mk_bstr, empty_bstr, bytesOf_u8s, bs_size, bs_app, bs_eq, txts_cons, txts_nil, List.length_cons, List.length_nil, acts_len, nb_acts, h0, hu, hL, hsh']))
  have hrt : readT s = readL 0 (splitC 10 (Lib.trimSuffix s [10])) [] := by rw [readT, if_neg h0, if_neg hsh]
  by_cases h : (readT s).2.2 = 0
  · refine (read_walk nx s (.sl 4 (actsA (readT s).1) (nx + 99)) [(nx + 97, some (.tail (readT s).1.length))] hs h0 rfl hsh (fun _ => ⟨rfl, rfl⟩) (fun h' => absurd h h')).forget0 ⟨rfl, ?_⟩ (by simp [AV.nb, AV.nbs, nb_acts]) (by simp [keys])
    intro i x y hx hy
    match i with
    | 0 => simp at hx hy; subst hx hy; exact .inr ⟨rfl, rfl, .inr ⟨.inl rfl, .inl rfl⟩⟩
    | 1 => simp at hx hy; subst hx hy; exact .inl rfl
    | 2 => simp at hx hy; subst hx hy; exact .inl rfl
    | k + 3 => simp at hx
  · have e : (readT s).1 = [] := by rw [hrt] at h ⊢; exact readL_bad _ _ _ h
    refine (read_walk nx s (.sl 0 [] 1) [] hs h0 rfl hsh (fun h' => absurd h' h) (fun _ => ⟨rfl, rfl⟩)).forget0 ⟨rfl, ?_⟩ (by simp [AV.nb, AV.nbs, nb_acts]) (by simp [keys])
    intro i x y hx hy
    match i with
    | 0 => simp at hx hy; subst hx hy; exact .inr ⟨rfl, by rw [e]; exact ⟨rfl, .inr ⟨.inr rfl, .inl rfl⟩⟩⟩
    | 1 => simp at hx hy; subst hx hy; exact .inl rfl
    | 2 => simp at hx hy; subst hx hy; exact .inl rfl
    | k + 3 => simp at hx
end Go.Proofs.YtdkcobnhcpgpaaaDoor

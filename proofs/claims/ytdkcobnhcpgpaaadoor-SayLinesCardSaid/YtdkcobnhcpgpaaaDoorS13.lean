/-
  say: strings.Split at a separator of one byte.
-/
import Derived.Test.YtdkcobnhcpgpaaaDoorS12
import Derived.Lib.IndexLaws
set_option linter.unusedSimpArgs false
set_option linter.unusedVariables false
set_option maxRecDepth 100000
set_option maxHeartbeats 4000000
namespace Go.Proofs.YtdkcobnhcpgpaaaDoor
open Go Go.AL Go.Proofs.YtdkcobnhcpgpaaaDoor.T

/-- the pieces between the places of a byte -/
def splitC (c : UInt8) : List UInt8 → List (List UInt8)
  | [] => [[]]
  | x :: t => if x = c then [] :: splitC c t else ((x :: (splitC c t).headD []) :: (splitC c t).tail)
theorem splitC_len (c : UInt8) : ∀ l : List UInt8, (splitC c l).length = l.count c + 1
  | [] => by simp [splitC]
  | x :: t => by
    have ih := splitC_len c t
    rw [splitC]
    split
    · rename_i h; subst h; simp [ih]
    · rename_i h
      rw [List.length_cons, List.length_tail, ih, List.count_cons_of_ne (by simpa using h)]
      omega
theorem splitC_none {c : UInt8} : ∀ {l : List UInt8}, c ∉ l → splitC c l = [l]
  | [], _ => rfl
  | x :: t, h => by
    have h1 : x ≠ c := fun e => h (by rw [e]; exact List.mem_cons_self)
    have h2 : c ∉ t := fun e => h (List.mem_cons_of_mem _ e)
    rw [splitC, if_neg h1, splitC_none h2]; rfl
theorem splitC_app {c : UInt8} : ∀ {p : List UInt8} (t : List UInt8), c ∉ p → splitC c (p ++ c :: t) = p :: splitC c t
  | [], t, _ => by rw [List.nil_append, splitC, if_pos rfl]
  | x :: p, t, h => by
    have h1 : x ≠ c := fun e => h (by rw [e]; exact List.mem_cons_self)
    have h2 : c ∉ p := fun e => h (List.mem_cons_of_mem _ e)
    rw [List.cons_append, splitC, if_neg h1, splitC_app t h2]; rfl
theorem index_cut {l : List UInt8} {c : UInt8} {o : Nat} (h : Lib.indexByte l c = (o : Int)) : o < l.length ∧ c ∉ l.take o ∧ l = l.take o ++ c :: l.drop (o + 1) := by
  obtain ⟨h1, h2⟩ := Lib.indexByte_some h
  have hlt : o < l.length := by
    rcases Nat.lt_or_ge o l.length with h' | h'
    · exact h'
    · rw [List.getElem?_eq_none h'] at h1; cases h1
  refine ⟨hlt, fun hm => ?_, ?_⟩
  · obtain ⟨k, hk, e⟩ := List.getElem_of_mem hm
    rw [List.length_take] at hk
    refine h2 k (by omega) ?_
    rw [List.getElem_take] at e
    rw [List.getElem?_eq_getElem (by omega), e]
  · conv => lhs; rw [← List.take_append_drop o l]
    congr 1
    rw [List.getElem?_eq_getElem hlt] at h1
    injection h1 with h1
    rw [List.drop_eq_getElem_cons hlt, h1]
theorem index_neg {l : List UInt8} {c : UInt8} (h : Lib.indexByte l c < 0) : c ∉ l := by
  have h1 := Lib.indexByte_ge l c
  have h2 := Lib.indexByte_none (l := l) (c := c) (by omega)
  intro hm
  obtain ⟨k, hk, e⟩ := List.getElem_of_mem hm
  exact h2 k (by rw [List.getElem?_eq_getElem hk, e])
theorem txts_set (l : List (List UInt8)) (i : Nat) (v : List UInt8) : (txts l).set i (AV.val (Value.string (bstr v))) = txts (l.set i v) := by simp [txts, List.map_set]
theorem set_mid (d : List (List UInt8)) (k : Nat) (v : List UInt8) : (d ++ List.replicate (k + 1) []).set d.length v = d ++ [v] ++ List.replicate k [] := by
  rw [List.set_append_right _ _ (Nat.le_refl _), Nat.sub_self, List.replicate_succ, List.set_cons_zero, List.append_assoc]; rfl

--LOCAL: txts_gc, nb_u8s, u8s_length, nb_txts, txts_length, mk_bstr, empty_bstr, bytesOf_u8s, bs_size, bs_app, bs_eq, bs_ext, u8_gc, isb6, bstr_toList, u8s_get?, txts_set, List.drop_zero, List.length_append, List.length_replicate
theorem genSplit_ok (nx : Nat) (s0 : List UInt8) (c : UInt8) (hl : s0.length < 2 ^ 40) :
    FnSpec Tryd.prog 35 nx [txt s0, txt [c], iA 0, iA (-1)] [] (.aref (nx + 152) 0 [] 1 0 (splitC c s0).length) [(nx + 152, some (.obj (.vec 1 (txts (splitC c s0)))))] 200 := by
  obtain ⟨N, hN⟩ : ∃ N, N = Lib.countByte s0 c := ⟨_, rfl⟩
  have hcl : s0.count c ≤ s0.length := List.count_le_length
  have hN2 : N ≤ s0.length := by rw [hN]; exact hcl
  have hlen := splitC_len c s0
  have hcN : s0.count c = N := by rw [hN]; rfl
  rw [hcN] at hlen
  have w1 : IntKind.i64.wrap ((N : Int) + 1) = ((N + 1 : Nat) : Int) := wrapI (by omega) (by omega)
  have w2 : IntKind.i64.wrap ((s0.length : Int) + 1) = ((s0.length + 1 : Nat) : Int) := wrapI (by omega) (by omega)
  have w3 : IntKind.i64.wrap (((N + 1 : Nat) : Int) - 1) = ((N : Nat) : Int) := wrapI (by omega) (by omega)
  have wm : min ((N + 1 : Nat) : Int) ((s0.length + 1 : Nat) : Int) = ((N + 1 : Nat) : Int) := by omega
  have hz : List.replicate (N + 1) (AV.val (Value.string (bstr []))) = txts (List.replicate (N + 1) []) := by simp [txts]
  have hcnt := count_spec
  refine FnSpec.of_code (cx := cx) (an := {mt := [31]}) (rs := [.tmp 8]) mo Tryd.func35 rfl rfl (by kernel_rfl) (by kernel_rfl) (by show 4 ≤ _; decide) (.inl rfl) (by simp [allWr, keys, Res.wr]) ?_
  repeat' (first | omega | assumption | refine brF (fun _ => ?_) (fun _ => ?_) | refine brT (fun _ => ?_) (fun _ => ?_) | refine brVF (fun _ => ?_) (fun _ => ?_) | refine brVT (fun _ => ?_) (fun _ => ?_) | (with_reducible refine And.intro ?_ ?_) | (refine callK_by (count_spec _ s0 c) ?_) | (simp -dsimp -implicitDefEqProofs only [B0, B1, B2, B3, B4, B5, B6, ↓ordOK_f, ↓ordOK_e, ↓ordCalls_f, ↓brB_tt, ↓brB_ff, ↓brB_tf, ↓brB_ft, ↓reduceIte, condWp, opSem, opSem0, tkOp, Out.tokV, retok1, constAV, binSem, unSem, intOp, strOp, loadSem, storeSem, fieldAddrSem, indexAddrSem, fieldSem, indexSem, lenSem, buildSem, buildSliceSem, appendSem, srcA, convSem, sliceSem, bndA, slTok, makeSliceSem, copySem, Res.obj?, cmpOK, cmpParts, tplace, Nat.reduceEqDiff, Nat.reduceAdd, Nat.reduceMul, Nat.reduceLeDiff, Nat.reduceLT, Nat.reduceBEq, Nat.reducePow, Int.reduceToNat, Int.reduceLE, Int.reduceLT, Int.reduceNeg, reduceCtorEq, cxP, ne_eq, forall_eq, forall_eq_or_imp, resOne, resA, implies_true, forall_const, eq_self, Int.reduceEq, Int.reduceAdd, Int.reduceSub, Int.reduceMul, Nat.reduceSub, Nat.le_add_right, Out.fg, fgA, t3, t9, t41, txts_gc, nb_u8s, u8s_length, nb_txts, txts_length, mk_bstr, empty_bstr, bytesOf_u8s, bs_size, bs_app, bs_eq, bs_ext, u8_gc, isb6, bstr_toList, u8s_get?, txts_set, List.drop_zero, List.length_append, List.length_replicate, hz, w1, w2, w3, wm, ← hN]))
  apply loop_keep [1, 2, 3, 9] (fun s : { s : List (List UInt8) × List UInt8 // splitC c s0 = s.1 ++ splitC c s.2 ∧ s.2.length ≤ s0.length ∧ s.1.length ≤ N } => [(0, txt s.1.2), (10, iA s.1.1.length)])
      (fun s => [(nx + 152, some (.obj (.vec 1 (txts (s.1.1 ++ List.replicate (N + 1 - s.1.1.length) [])))))]) (fun s => N - s.1.1.length) ⟨([], s0), by simp⟩
  · simp -dsimp -implicitDefEqProofs only [B0, B1, B2, B3, B4, B5, B6, ↓ordOK_f, ↓ordOK_e, ↓ordCalls_f, ↓brB_tt, ↓brB_ff, ↓brB_tf, ↓brB_ft, ↓reduceIte, condWp, opSem, opSem0, tkOp, Out.tokV, retok1, constAV, binSem, unSem, intOp, strOp, loadSem, storeSem, fieldAddrSem, indexAddrSem, fieldSem, indexSem, lenSem, buildSem, buildSliceSem, appendSem, srcA, convSem, sliceSem, bndA, slTok, makeSliceSem, copySem, Res.obj?, cmpOK, cmpParts, tplace, Nat.reduceEqDiff, Nat.reduceAdd, Nat.reduceMul, Nat.reduceLeDiff, Nat.reduceLT, Nat.reduceBEq, Nat.reducePow, Int.reduceToNat, Int.reduceLE, Int.reduceLT, Int.reduceNeg, reduceCtorEq, cxP, ne_eq, forall_eq, forall_eq_or_imp, resOne, resA, implies_true, forall_const, eq_self, Int.reduceEq, Int.reduceAdd, Int.reduceSub, Int.reduceMul, Nat.reduceSub, Nat.le_add_right, Out.fg, fgA, txts_gc, nb_u8s, u8s_length, nb_txts, txts_length, mk_bstr, empty_bstr, bytesOf_u8s, bs_size, bs_app, bs_eq, bs_ext, u8_gc, isb6, bstr_toList, u8s_get?, txts_set, List.drop_zero, List.length_append, List.length_replicate]; rfl
  · simp -dsimp -implicitDefEqProofs only [B0, B1, B2, B3, B4, B5, B6, ↓ordOK_f, ↓ordOK_e, ↓ordCalls_f, ↓brB_tt, ↓brB_ff, ↓brB_tf, ↓brB_ft, ↓reduceIte, condWp, opSem, opSem0, tkOp, Out.tokV, retok1, constAV, binSem, unSem, intOp, strOp, loadSem, storeSem, fieldAddrSem, indexAddrSem, fieldSem, indexSem, lenSem, buildSem, buildSliceSem, appendSem, srcA, convSem, sliceSem, bndA, slTok, makeSliceSem, copySem, Res.obj?, cmpOK, cmpParts, tplace, Nat.reduceEqDiff, Nat.reduceAdd, Nat.reduceMul, Nat.reduceLeDiff, Nat.reduceLT, Nat.reduceBEq, Nat.reducePow, Int.reduceToNat, Int.reduceLE, Int.reduceLT, Int.reduceNeg, reduceCtorEq, cxP, ne_eq, forall_eq, forall_eq_or_imp, resOne, resA, implies_true, forall_const, eq_self, Int.reduceEq, Int.reduceAdd, Int.reduceSub, Int.reduceMul, Nat.reduceSub, Nat.le_add_right, Out.fg, fgA, txts_gc, nb_u8s, u8s_length, nb_txts, txts_length, mk_bstr, empty_bstr, bytesOf_u8s, bs_size, bs_app, bs_eq, bs_ext, u8_gc, isb6, bstr_toList, u8s_get?, txts_set, List.drop_zero, List.length_append, List.length_replicate]
  · simp -dsimp -implicitDefEqProofs only [B0, B1, B2, B3, B4, B5, B6, ↓ordOK_f, ↓ordOK_e, ↓ordCalls_f, ↓brB_tt, ↓brB_ff, ↓brB_tf, ↓brB_ft, ↓reduceIte, condWp, opSem, opSem0, tkOp, Out.tokV, retok1, constAV, binSem, unSem, intOp, strOp, loadSem, storeSem, fieldAddrSem, indexAddrSem, fieldSem, indexSem, lenSem, buildSem, buildSliceSem, appendSem, srcA, convSem, sliceSem, bndA, slTok, makeSliceSem, copySem, Res.obj?, cmpOK, cmpParts, tplace, Nat.reduceEqDiff, Nat.reduceAdd, Nat.reduceMul, Nat.reduceLeDiff, Nat.reduceLT, Nat.reduceBEq, Nat.reducePow, Int.reduceToNat, Int.reduceLE, Int.reduceLT, Int.reduceNeg, reduceCtorEq, cxP, ne_eq, forall_eq, forall_eq_or_imp, resOne, resA, implies_true, forall_const, eq_self, Int.reduceEq, Int.reduceAdd, Int.reduceSub, Int.reduceMul, Nat.reduceSub, Nat.le_add_right, Out.fg, fgA, txts_gc, nb_u8s, u8s_length, nb_txts, txts_length, mk_bstr, empty_bstr, bytesOf_u8s, bs_size, bs_app, bs_eq, bs_ext, u8_gc, isb6, bstr_toList, u8s_get?, txts_set, List.drop_zero, List.length_append, List.length_replicate]; simp
  · intro s
    simp -dsimp -implicitDefEqProofs only [B0, B1, B2, B3, B4, B5, B6, ↓ordOK_f, ↓ordOK_e, ↓ordCalls_f, ↓brB_tt, ↓brB_ff, ↓brB_tf, ↓brB_ft, ↓reduceIte, condWp, opSem, opSem0, tkOp, Out.tokV, retok1, constAV, binSem, unSem, intOp, strOp, loadSem, storeSem, fieldAddrSem, indexAddrSem, fieldSem, indexSem, lenSem, buildSem, buildSliceSem, appendSem, srcA, convSem, sliceSem, bndA, slTok, makeSliceSem, copySem, Res.obj?, cmpOK, cmpParts, tplace, Nat.reduceEqDiff, Nat.reduceAdd, Nat.reduceMul, Nat.reduceLeDiff, Nat.reduceLT, Nat.reduceBEq, Nat.reducePow, Int.reduceToNat, Int.reduceLE, Int.reduceLT, Int.reduceNeg, reduceCtorEq, cxP, ne_eq, forall_eq, forall_eq_or_imp, resOne, resA, implies_true, forall_const, eq_self, Int.reduceEq, Int.reduceAdd, Int.reduceSub, Int.reduceMul, Nat.reduceSub, Nat.le_add_right, Out.fg, fgA, txts_gc, nb_u8s, u8s_length, nb_txts, txts_length, mk_bstr, empty_bstr, bytesOf_u8s, bs_size, bs_app, bs_eq, bs_ext, u8_gc, isb6, bstr_toList, u8s_get?, txts_set, List.drop_zero, List.length_append, List.length_replicate]
    omega
  · rintro ⟨⟨d, s⟩, hs1, hs2, hs3⟩
    have hs1 : splitC c s0 = d ++ splitC c s := hs1
    have hs2 : s.length ≤ s0.length := hs2
    have hs3 : d.length ≤ N := hs3
    have hk := congrArg List.length hs1
    rw [hlen, List.length_append, splitC_len] at hk
    simp -dsimp -implicitDefEqProofs only [B0, B1, B2, B3, B4, B5, B6, ↓ordOK_f, ↓ordOK_e, ↓ordCalls_f, ↓brB_tt, ↓brB_ff, ↓brB_tf, ↓brB_ft, ↓reduceIte, condWp, opSem, opSem0, tkOp, Out.tokV, retok1, constAV, binSem, unSem, intOp, strOp, loadSem, storeSem, fieldAddrSem, indexAddrSem, fieldSem, indexSem, lenSem, buildSem, buildSliceSem, appendSem, srcA, convSem, sliceSem, bndA, slTok, makeSliceSem, copySem, Res.obj?, cmpOK, cmpParts, tplace, Nat.reduceEqDiff, Nat.reduceAdd, Nat.reduceMul, Nat.reduceLeDiff, Nat.reduceLT, Nat.reduceBEq, Nat.reducePow, Int.reduceToNat, Int.reduceLE, Int.reduceLT, Int.reduceNeg, reduceCtorEq, cxP, ne_eq, forall_eq, forall_eq_or_imp, resOne, resA, implies_true, forall_const, eq_self, Int.reduceEq, Int.reduceAdd, Int.reduceSub, Int.reduceMul, Nat.reduceSub, Nat.le_add_right, Out.fg, fgA, t3, t9, t41, txts_gc, nb_u8s, u8s_length, nb_txts, txts_length, mk_bstr, empty_bstr, bytesOf_u8s, bs_size, bs_app, bs_eq, bs_ext, u8_gc, isb6, bstr_toList, u8s_get?, txts_set, List.drop_zero, List.length_append, List.length_replicate]
    refine brT (fun h => ?_) (fun h => ?_)
    · have hd : d.length < N := by omega
      have hin : ¬ Lib.indexByte s c < 0 := fun h0 => by
        have := List.count_eq_zero.2 (index_neg h0)
        omega
      obtain ⟨o, ho⟩ : ∃ o : Nat, Lib.indexByte s c = (o : Int) := ⟨(Lib.indexByte s c).toNat, by omega⟩
      obtain ⟨i1, i2, i3⟩ := index_cut ho
      have hi0 : ¬ ((o : Int) < 0) := by omega
      have w4 : IntKind.i64.wrap ((o : Int) + 0) = (o : Int) := wrapI (by omega) (by omega)
      have w5 : IntKind.i64.wrap ((o : Int) + 1) = ((o + 1 : Nat) : Int) := wrapI (by omega) (by omega)
      have w6 : IntKind.i64.wrap ((d.length : Int) + 1) = ((d.length + 1 : Nat) : Int) := wrapI (by omega) (by omega)
      have hst := set_mid d (N - d.length) (s.take o)
      rw [show N - d.length + 1 = N + 1 - d.length by omega] at hst
      have htk := List.take_of_length_le (Nat.le_refl s.length)
      have hg := txts_get (l := d ++ List.replicate (N + 1 - d.length) []) (i := d.length) (by rw [List.length_append, List.length_replicate]; omega)
      repeat' (first | omega | assumption | refine brF (fun _ => ?_) (fun _ => ?_) | refine brT (fun _ => ?_) (fun _ => ?_) | refine brVF (fun _ => ?_) (fun _ => ?_) | refine brVT (fun _ => ?_) (fun _ => ?_) | (with_reducible refine And.intro ?_ ?_) | (refine callK_by (index_spec _ s c) ?_) | (simp -dsimp -implicitDefEqProofs only [B0, B1, B2, B3, B4, B5, B6, ↓ordOK_f, ↓ordOK_e, ↓ordCalls_f, ↓brB_tt, ↓brB_ff, ↓brB_tf, ↓brB_ft, ↓reduceIte, condWp, opSem, opSem0, tkOp, Out.tokV, retok1, constAV, binSem, unSem, intOp, strOp, loadSem, storeSem, fieldAddrSem, indexAddrSem, fieldSem, indexSem, lenSem, buildSem, buildSliceSem, appendSem, srcA, convSem, sliceSem, bndA, slTok, makeSliceSem, copySem, Res.obj?, cmpOK, cmpParts, tplace, Nat.reduceEqDiff, Nat.reduceAdd, Nat.reduceMul, Nat.reduceLeDiff, Nat.reduceLT, Nat.reduceBEq, Nat.reducePow, Int.reduceToNat, Int.reduceLE, Int.reduceLT, Int.reduceNeg, reduceCtorEq, cxP, ne_eq, forall_eq, forall_eq_or_imp, resOne, resA, implies_true, forall_const, eq_self, Int.reduceEq, Int.reduceAdd, Int.reduceSub, Int.reduceMul, Nat.reduceSub, Nat.le_add_right, Out.fg, fgA, t3, t9, t41, txts_gc, nb_u8s, u8s_length, nb_txts, txts_length, mk_bstr, empty_bstr, bytesOf_u8s, bs_size, bs_app, bs_eq, bs_ext, u8_gc, isb6, bstr_toList, u8s_get?, txts_set, List.drop_zero, List.length_append, List.length_replicate, ho, hi0, hg, w4, w5, w6, hst, htk]))
      refine ⟨⟨(d ++ [s.take o], s.drop (o + 1)), ?_, ?_, ?_⟩, ?_, ⟨rfl, ?_⟩, ?_⟩
      · show splitC c s0 = (d ++ [s.take o]) ++ splitC c (s.drop (o + 1))
        have e1 := splitC_app (s.drop (o + 1)) i2
        rw [← i3] at e1
        rw [hs1, e1, List.append_assoc]; rfl
      · show (s.drop (o + 1)).length ≤ s0.length
        rw [List.length_drop]; omega
      · show (d ++ [s.take o]).length ≤ N
        rw [List.length_append, List.length_cons, List.length_nil]; omega
      · show N - (d ++ [s.take o]).length < N - d.length
        rw [List.length_append, List.length_cons, List.length_nil]; omega
      · show _ = iA ((d ++ [s.take o]).length : Int)
        rw [List.length_append, List.length_cons, List.length_nil]
      · show _ = some (Res.obj (AV.vec 1 (txts ((d ++ [s.take o]) ++ List.replicate (N + 1 - (d ++ [s.take o]).length) []))))
        rw [List.length_append, List.length_cons, List.length_nil, show N + 1 - (d.length + (0 + 1)) = N - d.length by omega]
    · have e : d.length = N := by omega
      have hc0 : s.count c = 0 := by omega
      have hsp : splitC c s0 = d ++ [s] := by rw [hs1, splitC_none (List.count_eq_zero.1 hc0)]
      have w6 : IntKind.i64.wrap ((d.length : Int) + 1) = ((d.length + 1 : Nat) : Int) := wrapI (by omega) (by omega)
      have hst := set_mid d 0 s
      rw [show 0 + 1 = N + 1 - d.length by omega] at hst
      have hg := txts_get (l := d ++ List.replicate (N + 1 - d.length) []) (i := d.length) (by rw [List.length_append, List.length_replicate]; omega)
      repeat' (first | omega | assumption | refine brF (fun _ => ?_) (fun _ => ?_) | refine brT (fun _ => ?_) (fun _ => ?_) | refine brVF (fun _ => ?_) (fun _ => ?_) | refine brVT (fun _ => ?_) (fun _ => ?_) | (with_reducible refine And.intro ?_ ?_) | (simp -dsimp -implicitDefEqProofs only [B0, B1, B2, B3, B4, B5, B6, ↓ordOK_f, ↓ordOK_e, ↓ordCalls_f, ↓brB_tt, ↓brB_ff, ↓brB_tf, ↓brB_ft, ↓reduceIte, condWp, opSem, opSem0, tkOp, Out.tokV, retok1, constAV, binSem, unSem, intOp, strOp, loadSem, storeSem, fieldAddrSem, indexAddrSem, fieldSem, indexSem, lenSem, buildSem, buildSliceSem, appendSem, srcA, convSem, sliceSem, bndA, slTok, makeSliceSem, copySem, Res.obj?, cmpOK, cmpParts, tplace, Nat.reduceEqDiff, Nat.reduceAdd, Nat.reduceMul, Nat.reduceLeDiff, Nat.reduceLT, Nat.reduceBEq, Nat.reducePow, Int.reduceToNat, Int.reduceLE, Int.reduceLT, Int.reduceNeg, reduceCtorEq, cxP, ne_eq, forall_eq, forall_eq_or_imp, resOne, resA, implies_true, forall_const, eq_self, Int.reduceEq, Int.reduceAdd, Int.reduceSub, Int.reduceMul, Nat.reduceSub, Nat.le_add_right, Out.fg, fgA, t3, t9, t41, txts_gc, nb_u8s, u8s_length, nb_txts, txts_length, mk_bstr, empty_bstr, bytesOf_u8s, bs_size, bs_app, bs_eq, bs_ext, u8_gc, isb6, bstr_toList, u8s_get?, txts_set, List.drop_zero, List.length_append, List.length_replicate, w6, hst, hsp, hg]))
      all_goals first
        | rfl
        | (simp only [List.replicate_zero, List.append_nil]; done)
        | trace_state

theorem genSplit_spec (nx : Nat) (s0 : List UInt8) (c : UInt8) (hl : s0.length < 2 ^ 40) :
    FnSpec Tryd.prog 35 nx [txt s0, txt [c], iA 0, iA (-1)] [] (.sl 1 (txts (splitC c s0)) 0) [] 0 := by
  refine (genSplit_ok nx s0 c hl).stay (n := nx + 152) (sz := 1) (L := txts (splitC c s0)) ?_ ?_ ?_ ?_
  · simp [Heap.get]
  · intro m hm; simp [keys] at hm; omega
  · refine .inr ⟨0, (splitC c s0).length, rfl, ?_, ?_⟩
    · rw [List.drop_zero, List.take_of_length_le (by rw [txts_length]; omega)]
    · rw [txts_length]; omega
  · simp [AV.nb, nb_txts]
theorem split_spec (nx : Nat) (s0 : List UInt8) (c : UInt8) (hl : s0.length < 2 ^ 40) :
    FnSpec Tryd.prog 22 nx [txt s0, txt [c]] [] (.sl 1 (txts (splitC c s0)) 0) [] 0 := by
  refine FnSpec.of_code (cx := cx) (an := {}) (rs := [.tmp 4]) mo Tryd.func22 rfl rfl (by kernel_rfl) (by kernel_rfl) (by show 2 ≤ _; decide) (.inl rfl) (by simp [allWr, keys, Res.wr]) ?_
  repeat' (first | omega | assumption | refine brF (fun _ => ?_) (fun _ => ?_) | refine brT (fun _ => ?_) (fun _ => ?_) | refine brVF (fun _ => ?_) (fun _ => ?_) | refine brVT (fun _ => ?_) (fun _ => ?_) | (with_reducible refine And.intro ?_ ?_) | (refine callK_by (genSplit_spec _ s0 c hl) ?_) | (simp -dsimp -implicitDefEqProofs only [B0, B1, B2, B3, B4, B5, B6, ↓ordOK_f, ↓ordOK_e, ↓ordCalls_f, ↓brB_tt, ↓brB_ff, ↓brB_tf, ↓brB_ft, ↓reduceIte, condWp, opSem, opSem0, tkOp, Out.tokV, retok1, constAV, binSem, unSem, intOp, strOp, loadSem, storeSem, fieldAddrSem, indexAddrSem, fieldSem, indexSem, lenSem, buildSem, buildSliceSem, appendSem, srcA, convSem, sliceSem, bndA, slTok, makeSliceSem, copySem, Res.obj?, cmpOK, cmpParts, tplace, Nat.reduceEqDiff, Nat.reduceAdd, Nat.reduceMul, Nat.reduceLeDiff, Nat.reduceLT, Nat.reduceBEq, Nat.reducePow, Int.reduceToNat, Int.reduceLE, Int.reduceLT, Int.reduceNeg, reduceCtorEq, cxP, ne_eq, forall_eq, forall_eq_or_imp, resOne, resA, implies_true, forall_const, eq_self, Int.reduceEq, Int.reduceAdd, Int.reduceSub, Int.reduceMul, Nat.reduceSub, Nat.le_add_right, Out.fg, fgA, t3, t9, txts_gc, nb_u8s, u8s_length, nb_txts, txts_length, mk_bstr, empty_bstr, bytesOf_u8s, bs_size, bs_app, bs_eq, bs_ext, u8_gc, isb6, bstr_toList, u8s_get?, txts_set, List.drop_zero, List.length_append, List.length_replicate]))
end Go.Proofs.YtdkcobnhcpgpaaaDoor

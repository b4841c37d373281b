/-
  say.unhex.
-/
import Derived.Test.YtdkcobnhcpgpaaaDoorS11
set_option linter.unusedSimpArgs false
set_option linter.unusedVariables false
set_option maxRecDepth 100000
set_option maxHeartbeats 4000000
namespace Go.Proofs.YtdkcobnhcpgpaaaDoor
open Go Go.AL Go.Proofs.YtdkcobnhcpgpaaaDoor.T

def hexTabL : List UInt8 := [48, 49, 50, 51, 52, 53, 54, 55, 56, 57, 97, 98, 99, 100, 101, 102]
def hexv (c : UInt8) : Int := Lib.indexByte hexTabL c
theorem hexv_all : ∀ n : Fin 256, -1 ≤ hexv (UInt8.ofNat n.val) ∧ hexv (UInt8.ofNat n.val) < 16 := by decide
theorem hexv_bnd (c : UInt8) : -1 ≤ hexv c ∧ hexv c < 16 := by
  have := hexv_all ⟨c.toNat, c.toNat_lt⟩
  rwa [show UInt8.ofNat c.toNat = c from UInt8.ofNat_toNat] at this

/-- the value of place j when i digits are read -/
def cellV (w : List UInt8) (i j : Nat) : UInt8 :=
  if 2 * j + 1 < i then UInt8.ofNat ((hexv (w.getD (2 * j) 0)).toNat * 16 + (hexv (w.getD (2 * j + 1) 0)).toNat) else if 2 * j < i then UInt8.ofNat (hexv (w.getD (2 * j) 0)).toNat else 0
def rowV (w : List UInt8) (i : Nat) : List UInt8 := (List.range (w.length / 2)).map (cellV w i)
def unhexT (w : List UInt8) : List UInt8 × Bool :=
  if w = [46] then ([], true) else if w.length % 2 = 1 ∨ w = [] then ([], false) else if w.all (fun c => decide (0 ≤ hexv c)) then (rowV w w.length, true) else ([], false)

theorem rowV_len (w : List UInt8) (i : Nat) : (rowV w i).length = w.length / 2 := by simp [rowV]
theorem rowV_zero (w : List UInt8) : rowV w 0 = List.replicate (w.length / 2) 0 := by
  unfold rowV
  apply List.ext_getElem
  · simp
  · intro j h1 h2; simp [cellV]
theorem rowV_get {w : List UInt8} {i j : Nat} (h : j < w.length / 2) : (rowV w i).getD j 0 = cellV w i j := by
  simp [rowV, List.getD_eq_getElem?_getD, List.getElem?_map, List.getElem?_range h]
theorem rowV_step {w : List UInt8} {i : Nat} (h : i / 2 < w.length / 2) {v : UInt8} (hv : v = cellV w (i + 1) (i / 2)) : (rowV w i).set (i / 2) v = rowV w (i + 1) := by
  apply List.ext_getElem
  · simp [rowV]
  · intro j h1 h2
    rw [List.getElem_set]
    by_cases e : i / 2 = j
    · subst e; simp only [if_true, hv, rowV, List.getElem_map, List.getElem_range]
    · rw [if_neg e]
      simp only [rowV, List.getElem_map, List.getElem_range, cellV]
      have a1 : (2 * j + 1 < i) ↔ (2 * j + 1 < i + 1) := by omega
      have a2 : (2 * j < i) ↔ (2 * j < i + 1) := by omega
      by_cases b1 : 2 * j + 1 < i
      · rw [if_pos b1, if_pos (a1.1 b1)]
      · rw [if_neg b1, if_neg (fun h => b1 (a1.2 h))]
        by_cases b2 : 2 * j < i
        · rw [if_pos b2, if_pos (a2.1 b2)]
        · rw [if_neg b2, if_neg (fun h => b2 (a2.2 h))]

--LOCAL: txts_gc, nb_u8s, u8s_length, nb_txts, txts_length, mk_bstr, empty_bstr, bytesOf_u8s, bs_size, bs_app, bs_eq, bs_ext, u8_gc, isb6, bstr_toList, u8s_get?
theorem or_nib : ∀ a b : Fin 16, IntKind.u8.wrap ((BitVec.ofInt IntKind.u8.bits (IntKind.u8.wrap ((a.val : Int) * 2 ^ 4)) ||| BitVec.ofInt IntKind.u8.bits (IntKind.u8.wrap ((b.val : Int)))).toNat : Int) = ((UInt8.ofNat (a.val * 16 + b.val)).toNat : Int) := by decide
theorem unhex_ok (nx : Nat) (w : List UInt8) (hl : w.length < 2 ^ 40) (h0 : w ≠ [46]) (h1 : ¬ w.length % 2 = 1) (h2 : w ≠ []) (hall : ∀ c ∈ w, 0 ≤ hexv c) :
    FnSpec Tryd.prog 37 nx [txt w] [] (.tup [.aref (nx + 120) 0 [] 1 0 (w.length / 2), bA true]) [(nx + 120, some (.obj (.vec 1 (u8s (rowV w w.length)))))] 200 := by
  have ht : ¬ (w.length : Int).tmod 2 = 1 := by rw [show (w.length : Int).tmod 2 = ((w.length % 2 : Nat) : Int) from rfl]; omega
  have hq : IntKind.i64.wrap ((w.length : Int).tdiv 2) = ((w.length / 2 : Nat) : Int) := wrapI rfl (by omega)
  have hz : List.replicate (w.length / 2) (AV.val (Value.int IntKind.u8 0)) = u8s (rowV w 0) := by rw [rowV_zero]; simp [u8s, u8]
  refine FnSpec.of_code (cx := cx) (an := {mt := [20]}) (rs := [.tmp 2, .tmp 3]) mo Tryd.func37 rfl rfl (by kernel_rfl) (by kernel_rfl) (by show 1 ≤ _; decide) (.inr ⟨_, rfl, by simp [AV.good]⟩) (by simp [allWr, keys, Res.wr]) ?_
  repeat' (first | omega | assumption | refine brF (fun _ => ?_) (fun _ => ?_) | refine brT (fun _ => ?_) (fun _ => ?_) | refine brVF (fun _ => ?_) (fun _ => ?_) | refine brVT (fun _ => ?_) (fun _ => ?_) | (with_reducible refine And.intro ?_ ?_) | (simp -dsimp -implicitDefEqProofs only [B0, B1, B2, B3, B4, B5, B6, ↓ordOK_f, ↓ordOK_e, ↓ordCalls_f, ↓brB_tt, ↓brB_ff, ↓brB_tf, ↓brB_ft, ↓reduceIte, condWp, opSem, opSem0, tkOp, Out.tokV, retok1, constAV, binSem, unSem, intOp, strOp, loadSem, storeSem, fieldAddrSem, indexAddrSem, fieldSem, indexSem, lenSem, buildSem, buildSliceSem, appendSem, srcA, convSem, sliceSem, bndA, slTok, makeSliceSem, copySem, Res.obj?, cmpOK, cmpParts, tplace, Nat.reduceEqDiff, Nat.reduceAdd, Nat.reduceMul, Nat.reduceLeDiff, Nat.reduceLT, Nat.reduceBEq, Nat.reducePow, Int.reduceToNat, Int.reduceLE, Int.reduceLT, Int.reduceNeg, reduceCtorEq, cxP, ne_eq, forall_eq, forall_eq_or_imp, resOne, resA, implies_true, forall_const, eq_self, Int.reduceEq, Int.reduceAdd, Int.reduceSub, Int.reduceMul, Nat.reduceSub, Nat.le_add_right, Out.fg, fgA, t3, t5, t9, t22, t62, txts_gc, nb_u8s, u8s_length, nb_txts, txts_length, mk_bstr, empty_bstr, bytesOf_u8s, bs_size, bs_app, bs_eq, bs_ext, u8_gc, isb6, bstr_toList, u8s_get?, h0, h2, ht, hq, hz]))
  apply loop_keep [0, 4, 22] (fun i : { i : Nat // i ≤ w.length } => [(23, iA i.1)]) (fun i => [(nx + 120, some (.obj (.vec 1 (u8s (rowV w i.1)))))]) (fun i => w.length - i.1) ⟨0, Nat.zero_le _⟩
  · simp -dsimp -implicitDefEqProofs only [B0, B1, B2, B3, B4, B5, B6, ↓ordOK_f, ↓ordOK_e, ↓ordCalls_f, ↓brB_tt, ↓brB_ff, ↓brB_tf, ↓brB_ft, ↓reduceIte, condWp, opSem, opSem0, tkOp, Out.tokV, retok1, constAV, binSem, unSem, intOp, strOp, loadSem, storeSem, fieldAddrSem, indexAddrSem, fieldSem, indexSem, lenSem, buildSem, buildSliceSem, appendSem, srcA, convSem, sliceSem, bndA, slTok, makeSliceSem, copySem, Res.obj?, cmpOK, cmpParts, tplace, Nat.reduceEqDiff, Nat.reduceAdd, Nat.reduceMul, Nat.reduceLeDiff, Nat.reduceLT, Nat.reduceBEq, Nat.reducePow, Int.reduceToNat, Int.reduceLE, Int.reduceLT, Int.reduceNeg, reduceCtorEq, cxP, ne_eq, forall_eq, forall_eq_or_imp, resOne, resA, implies_true, forall_const, eq_self, Int.reduceEq, Int.reduceAdd, Int.reduceSub, Int.reduceMul, Nat.reduceSub, Nat.le_add_right, Out.fg, fgA, txts_gc, nb_u8s, u8s_length, nb_txts, txts_length, mk_bstr, empty_bstr, bytesOf_u8s, bs_size, bs_app, bs_eq, bs_ext, u8_gc, isb6, bstr_toList, u8s_get?]; rfl
  · simp -dsimp -implicitDefEqProofs only [B0, B1, B2, B3, B4, B5, B6, ↓ordOK_f, ↓ordOK_e, ↓ordCalls_f, ↓brB_tt, ↓brB_ff, ↓brB_tf, ↓brB_ft, ↓reduceIte, condWp, opSem, opSem0, tkOp, Out.tokV, retok1, constAV, binSem, unSem, intOp, strOp, loadSem, storeSem, fieldAddrSem, indexAddrSem, fieldSem, indexSem, lenSem, buildSem, buildSliceSem, appendSem, srcA, convSem, sliceSem, bndA, slTok, makeSliceSem, copySem, Res.obj?, cmpOK, cmpParts, tplace, Nat.reduceEqDiff, Nat.reduceAdd, Nat.reduceMul, Nat.reduceLeDiff, Nat.reduceLT, Nat.reduceBEq, Nat.reducePow, Int.reduceToNat, Int.reduceLE, Int.reduceLT, Int.reduceNeg, reduceCtorEq, cxP, ne_eq, forall_eq, forall_eq_or_imp, resOne, resA, implies_true, forall_const, eq_self, Int.reduceEq, Int.reduceAdd, Int.reduceSub, Int.reduceMul, Nat.reduceSub, Nat.le_add_right, Out.fg, fgA, txts_gc, nb_u8s, u8s_length, nb_txts, txts_length, mk_bstr, empty_bstr, bytesOf_u8s, bs_size, bs_app, bs_eq, bs_ext, u8_gc, isb6, bstr_toList, u8s_get?]
  · simp -dsimp -implicitDefEqProofs only [B0, B1, B2, B3, B4, B5, B6, ↓ordOK_f, ↓ordOK_e, ↓ordCalls_f, ↓brB_tt, ↓brB_ff, ↓brB_tf, ↓brB_ft, ↓reduceIte, condWp, opSem, opSem0, tkOp, Out.tokV, retok1, constAV, binSem, unSem, intOp, strOp, loadSem, storeSem, fieldAddrSem, indexAddrSem, fieldSem, indexSem, lenSem, buildSem, buildSliceSem, appendSem, srcA, convSem, sliceSem, bndA, slTok, makeSliceSem, copySem, Res.obj?, cmpOK, cmpParts, tplace, Nat.reduceEqDiff, Nat.reduceAdd, Nat.reduceMul, Nat.reduceLeDiff, Nat.reduceLT, Nat.reduceBEq, Nat.reducePow, Int.reduceToNat, Int.reduceLE, Int.reduceLT, Int.reduceNeg, reduceCtorEq, cxP, ne_eq, forall_eq, forall_eq_or_imp, resOne, resA, implies_true, forall_const, eq_self, Int.reduceEq, Int.reduceAdd, Int.reduceSub, Int.reduceMul, Nat.reduceSub, Nat.le_add_right, Out.fg, fgA, txts_gc, nb_u8s, u8s_length, nb_txts, txts_length, mk_bstr, empty_bstr, bytesOf_u8s, bs_size, bs_app, bs_eq, bs_ext, u8_gc, isb6, bstr_toList, u8s_get?]
  · intro s
    simp -dsimp -implicitDefEqProofs only [B0, B1, B2, B3, B4, B5, B6, ↓ordOK_f, ↓ordOK_e, ↓ordCalls_f, ↓brB_tt, ↓brB_ff, ↓brB_tf, ↓brB_ft, ↓reduceIte, condWp, opSem, opSem0, tkOp, Out.tokV, retok1, constAV, binSem, unSem, intOp, strOp, loadSem, storeSem, fieldAddrSem, indexAddrSem, fieldSem, indexSem, lenSem, buildSem, buildSliceSem, appendSem, srcA, convSem, sliceSem, bndA, slTok, makeSliceSem, copySem, Res.obj?, cmpOK, cmpParts, tplace, Nat.reduceEqDiff, Nat.reduceAdd, Nat.reduceMul, Nat.reduceLeDiff, Nat.reduceLT, Nat.reduceBEq, Nat.reducePow, Int.reduceToNat, Int.reduceLE, Int.reduceLT, Int.reduceNeg, reduceCtorEq, cxP, ne_eq, forall_eq, forall_eq_or_imp, resOne, resA, implies_true, forall_const, eq_self, Int.reduceEq, Int.reduceAdd, Int.reduceSub, Int.reduceMul, Nat.reduceSub, Nat.le_add_right, Out.fg, fgA, txts_gc, nb_u8s, u8s_length, nb_txts, txts_length, mk_bstr, empty_bstr, bytesOf_u8s, bs_size, bs_app, bs_eq, bs_ext, u8_gc, isb6, bstr_toList, u8s_get?]
    omega
  · rintro ⟨i, hi⟩
    have hi : i ≤ w.length := hi
    simp -dsimp -implicitDefEqProofs only [B0, B1, B2, B3, B4, B5, B6, ↓ordOK_f, ↓ordOK_e, ↓ordCalls_f, ↓brB_tt, ↓brB_ff, ↓brB_tf, ↓brB_ft, ↓reduceIte, condWp, opSem, opSem0, tkOp, Out.tokV, retok1, constAV, binSem, unSem, intOp, strOp, loadSem, storeSem, fieldAddrSem, indexAddrSem, fieldSem, indexSem, lenSem, buildSem, buildSliceSem, appendSem, srcA, convSem, sliceSem, bndA, slTok, makeSliceSem, copySem, Res.obj?, cmpOK, cmpParts, tplace, Nat.reduceEqDiff, Nat.reduceAdd, Nat.reduceMul, Nat.reduceLeDiff, Nat.reduceLT, Nat.reduceBEq, Nat.reducePow, Int.reduceToNat, Int.reduceLE, Int.reduceLT, Int.reduceNeg, reduceCtorEq, cxP, ne_eq, forall_eq, forall_eq_or_imp, resOne, resA, implies_true, forall_const, eq_self, Int.reduceEq, Int.reduceAdd, Int.reduceSub, Int.reduceMul, Nat.reduceSub, Nat.le_add_right, Out.fg, fgA, t3, t5, t9, t22, t62, txts_gc, nb_u8s, u8s_length, nb_txts, txts_length, mk_bstr, empty_bstr, bytesOf_u8s, bs_size, bs_app, bs_eq, bs_ext, u8_gc, isb6, bstr_toList, u8s_get?, rowV_len]
    refine brT (fun h => ?_) (fun h => ?_)
    · have hi2 : i < w.length := by omega
      have hj : i / 2 < w.length / 2 := by omega
      have hq2 : IntKind.i64.wrap ((i : Int).tdiv 2) = ((i / 2 : Nat) : Int) := wrapI rfl (by omega)
      have hq3 : IntKind.i64.wrap ((i : Int) + 1) = ((i + 1 : Nat) : Int) := wrapI (by omega) (by omega)
      have hn : ∀ j, j < w.length → ∃ k : Nat, hexv (w.getD j 0) = (k : Int) ∧ k < 16 := fun j hj => by
        have a1 := hall (w.getD j 0) (by rw [List.getD_eq_getElem?_getD, List.getElem?_eq_getElem hj]; exact List.getElem_mem _)
        have a2 := (hexv_bnd (w.getD j 0)).2
        exact ⟨(hexv (w.getD j 0)).toNat, by omega, by omega⟩
      obtain ⟨k, hk, hk2⟩ := hn i hi2
      have hk' : Lib.indexByte hexTabL (w.getD i 0) = (k : Int) := hk
      have hg : (u8s (rowV w i)).getD (i / 2) .undef = .val (.int .u8 ((cellV w i (i / 2)).toNat : Int)) := by
        rw [u8s_get (by rw [rowV_len]; exact hj), rowV_get hj]
      obtain ⟨a, ha, ha2, hv⟩ : ∃ a : Nat, (cellV w i (i / 2)).toNat = a ∧ a < 16 ∧ UInt8.ofNat (a * 16 + k) = cellV w (i + 1) (i / 2) := by
        by_cases he : i % 2 = 0
        · refine ⟨0, ?_, by omega, ?_⟩
          · rw [cellV, if_neg (by omega), if_neg (by omega)]; rfl
          · rw [cellV, if_neg (by omega), if_pos (by omega), show 2 * (i / 2) = i by omega, hk]
            simp
        · obtain ⟨a, ha, ha2⟩ := hn (i - 1) (by omega)
          refine ⟨a, ?_, ha2, ?_⟩
          · rw [cellV, if_neg (by omega), if_pos (by omega), show 2 * (i / 2) = i - 1 by omega, ha]
            simp only [Int.toNat_natCast, UInt8.toNat_ofNat']
            omega
          · rw [cellV, if_pos (by omega), show 2 * (i / 2) + 1 = i by omega, show 2 * (i / 2) = i - 1 by omega, ha, hk]
            simp only [Int.toNat_natCast]
      rw [ha] at hg
      have hor := or_nib ⟨a, ha2⟩ ⟨k, hk2⟩
      simp only at hor
      have hst := rowV_step (i := i) hj hv
      have hset : (u8s (rowV w i)).set (i / 2) (AV.val (Value.int IntKind.u8 ((UInt8.ofNat (a * 16 + k)).toNat : Int))) = u8s (rowV w (i + 1)) := by
        rw [← hst]; simp [u8s, u8, List.map_set]
      repeat' (first | omega | assumption | refine brF (fun _ => ?_) (fun _ => ?_) | refine brT (fun _ => ?_) (fun _ => ?_) | refine brVF (fun _ => ?_) (fun _ => ?_) | refine brVT (fun _ => ?_) (fun _ => ?_) | (with_reducible refine And.intro ?_ ?_) | (refine callK_by (indexByte_spec _ hexTabL _) ?_) | (simp -dsimp -implicitDefEqProofs only [B0, B1, B2, B3, B4, B5, B6, ↓ordOK_f, ↓ordOK_e, ↓ordCalls_f, ↓brB_tt, ↓brB_ff, ↓brB_tf, ↓brB_ft, ↓reduceIte, condWp, opSem, opSem0, tkOp, Out.tokV, retok1, constAV, binSem, unSem, intOp, strOp, loadSem, storeSem, fieldAddrSem, indexAddrSem, fieldSem, indexSem, lenSem, buildSem, buildSliceSem, appendSem, srcA, convSem, sliceSem, bndA, slTok, makeSliceSem, copySem, Res.obj?, cmpOK, cmpParts, tplace, Nat.reduceEqDiff, Nat.reduceAdd, Nat.reduceMul, Nat.reduceLeDiff, Nat.reduceLT, Nat.reduceBEq, Nat.reducePow, Int.reduceToNat, Int.reduceLE, Int.reduceLT, Int.reduceNeg, reduceCtorEq, cxP, ne_eq, forall_eq, forall_eq_or_imp, resOne, resA, implies_true, forall_const, eq_self, Int.reduceEq, Int.reduceAdd, Int.reduceSub, Int.reduceMul, Nat.reduceSub, Nat.le_add_right, Out.fg, fgA, t3, t5, t9, t22, t62, txts_gc, nb_u8s, u8s_length, nb_txts, txts_length, mk_bstr, empty_bstr, bytesOf_u8s, bs_size, bs_app, bs_eq, bs_ext, u8_gc, isb6, bstr_toList, u8s_get?, rowV_len, hk', hq2, hq3, hg]))
      refine ⟨⟨i + 1, hi2⟩, by show w.length - (i + 1) < w.length - i; omega, rfl, ?_⟩
      show _ = some (Res.obj (AV.vec 1 (u8s (rowV w (i + 1)))))
      rw [← hset, ← hor]
      rfl
    · have e : i = w.length := by omega
      subst e
      repeat' (first | omega | assumption | refine brF (fun _ => ?_) (fun _ => ?_) | refine brT (fun _ => ?_) (fun _ => ?_) | refine brVF (fun _ => ?_) (fun _ => ?_) | refine brVT (fun _ => ?_) (fun _ => ?_) | (with_reducible refine And.intro ?_ ?_) | (simp -dsimp -implicitDefEqProofs only [B0, B1, B2, B3, B4, B5, B6, ↓ordOK_f, ↓ordOK_e, ↓ordCalls_f, ↓brB_tt, ↓brB_ff, ↓brB_tf, ↓brB_ft, ↓reduceIte, condWp, opSem, opSem0, tkOp, Out.tokV, retok1, constAV, binSem, unSem, intOp, strOp, loadSem, storeSem, fieldAddrSem, indexAddrSem, fieldSem, indexSem, lenSem, buildSem, buildSliceSem, appendSem, srcA, convSem, sliceSem, bndA, slTok, makeSliceSem, copySem, Res.obj?, cmpOK, cmpParts, tplace, Nat.reduceEqDiff, Nat.reduceAdd, Nat.reduceMul, Nat.reduceLeDiff, Nat.reduceLT, Nat.reduceBEq, Nat.reducePow, Int.reduceToNat, Int.reduceLE, Int.reduceLT, Int.reduceNeg, reduceCtorEq, cxP, ne_eq, forall_eq, forall_eq_or_imp, resOne, resA, implies_true, forall_const, eq_self, Int.reduceEq, Int.reduceAdd, Int.reduceSub, Int.reduceMul, Nat.reduceSub, Nat.le_add_right, Out.fg, fgA, t3, t5, t9, t22, t62, txts_gc, nb_u8s, u8s_length, nb_txts, txts_length, mk_bstr, empty_bstr, bytesOf_u8s, bs_size, bs_app, bs_eq, bs_ext, u8_gc, isb6, bstr_toList, u8s_get?, rowV_len]))

theorem unhex_bad (nx : Nat) (w : List UInt8) (hl : w.length < 2 ^ 40) (h0 : w ≠ [46]) (h1 : ¬ w.length % 2 = 1) (h2 : w ≠ []) (hbad : ∃ j, j < w.length ∧ hexv (w.getD j 0) < 0) :
    FnSpec Tryd.prog 37 nx [txt w] [] (.tup [.sl 0 [] 1, bA false]) [] 0 := by
  have ht : ¬ (w.length : Int).tmod 2 = 1 := by rw [show (w.length : Int).tmod 2 = ((w.length % 2 : Nat) : Int) from rfl]; omega
  have hq : IntKind.i64.wrap ((w.length : Int).tdiv 2) = ((w.length / 2 : Nat) : Int) := wrapI rfl (by omega)
  have hz : List.replicate (w.length / 2) (AV.val (Value.int IntKind.u8 0)) = u8s (rowV w 0) := by rw [rowV_zero]; simp [u8s, u8]
  refine FnSpec.of_code (cx := cx) (an := {mt := [20]}) (rs := [.tmp 2, .tmp 3]) mo Tryd.func37 rfl rfl (by kernel_rfl) (by kernel_rfl) (by show 1 ≤ _; decide) (.inr ⟨_, rfl, by simp [AV.good]⟩) (by simp [allWr, keys, Res.wr]) ?_
  repeat' (first | omega | assumption | refine brF (fun _ => ?_) (fun _ => ?_) | refine brT (fun _ => ?_) (fun _ => ?_) | refine brVF (fun _ => ?_) (fun _ => ?_) | refine brVT (fun _ => ?_) (fun _ => ?_) | (with_reducible refine And.intro ?_ ?_) | (simp -dsimp -implicitDefEqProofs only [B0, B1, B2, B3, B4, B5, B6, ↓ordOK_f, ↓ordOK_e, ↓ordCalls_f, ↓brB_tt, ↓brB_ff, ↓brB_tf, ↓brB_ft, ↓reduceIte, condWp, opSem, opSem0, tkOp, Out.tokV, retok1, constAV, binSem, unSem, intOp, strOp, loadSem, storeSem, fieldAddrSem, indexAddrSem, fieldSem, indexSem, lenSem, buildSem, buildSliceSem, appendSem, srcA, convSem, sliceSem, bndA, slTok, makeSliceSem, copySem, Res.obj?, cmpOK, cmpParts, tplace, Nat.reduceEqDiff, Nat.reduceAdd, Nat.reduceMul, Nat.reduceLeDiff, Nat.reduceLT, Nat.reduceBEq, Nat.reducePow, Int.reduceToNat, Int.reduceLE, Int.reduceLT, Int.reduceNeg, reduceCtorEq, cxP, ne_eq, forall_eq, forall_eq_or_imp, resOne, resA, implies_true, forall_const, eq_self, Int.reduceEq, Int.reduceAdd, Int.reduceSub, Int.reduceMul, Nat.reduceSub, Nat.le_add_right, Out.fg, fgA, t3, t5, t9, t22, t62, txts_gc, nb_u8s, u8s_length, nb_txts, txts_length, mk_bstr, empty_bstr, bytesOf_u8s, bs_size, bs_app, bs_eq, bs_ext, u8_gc, isb6, bstr_toList, u8s_get?, h0, h2, ht, hq, hz]))
  apply loop_keep [0, 4, 22] (fun i : { i : Nat // i ≤ w.length ∧ ∀ j, j < i → 0 ≤ hexv (w.getD j 0) } => [(23, iA i.1)]) (fun i => [(nx + 120, some (.obj (.vec 1 (u8s (rowV w i.1)))))]) (fun i => w.length - i.1) ⟨0, Nat.zero_le _, fun j h => absurd h (by omega)⟩
  · simp -dsimp -implicitDefEqProofs only [B0, B1, B2, B3, B4, B5, B6, ↓ordOK_f, ↓ordOK_e, ↓ordCalls_f, ↓brB_tt, ↓brB_ff, ↓brB_tf, ↓brB_ft, ↓reduceIte, condWp, opSem, opSem0, tkOp, Out.tokV, retok1, constAV, binSem, unSem, intOp, strOp, loadSem, storeSem, fieldAddrSem, indexAddrSem, fieldSem, indexSem, lenSem, buildSem, buildSliceSem, appendSem, srcA, convSem, sliceSem, bndA, slTok, makeSliceSem, copySem, Res.obj?, cmpOK, cmpParts, tplace, Nat.reduceEqDiff, Nat.reduceAdd, Nat.reduceMul, Nat.reduceLeDiff, Nat.reduceLT, Nat.reduceBEq, Nat.reducePow, Int.reduceToNat, Int.reduceLE, Int.reduceLT, Int.reduceNeg, reduceCtorEq, cxP, ne_eq, forall_eq, forall_eq_or_imp, resOne, resA, implies_true, forall_const, eq_self, Int.reduceEq, Int.reduceAdd, Int.reduceSub, Int.reduceMul, Nat.reduceSub, Nat.le_add_right, Out.fg, fgA, txts_gc, nb_u8s, u8s_length, nb_txts, txts_length, mk_bstr, empty_bstr, bytesOf_u8s, bs_size, bs_app, bs_eq, bs_ext, u8_gc, isb6, bstr_toList, u8s_get?]; rfl
  · simp -dsimp -implicitDefEqProofs only [B0, B1, B2, B3, B4, B5, B6, ↓ordOK_f, ↓ordOK_e, ↓ordCalls_f, ↓brB_tt, ↓brB_ff, ↓brB_tf, ↓brB_ft, ↓reduceIte, condWp, opSem, opSem0, tkOp, Out.tokV, retok1, constAV, binSem, unSem, intOp, strOp, loadSem, storeSem, fieldAddrSem, indexAddrSem, fieldSem, indexSem, lenSem, buildSem, buildSliceSem, appendSem, srcA, convSem, sliceSem, bndA, slTok, makeSliceSem, copySem, Res.obj?, cmpOK, cmpParts, tplace, Nat.reduceEqDiff, Nat.reduceAdd, Nat.reduceMul, Nat.reduceLeDiff, Nat.reduceLT, Nat.reduceBEq, Nat.reducePow, Int.reduceToNat, Int.reduceLE, Int.reduceLT, Int.reduceNeg, reduceCtorEq, cxP, ne_eq, forall_eq, forall_eq_or_imp, resOne, resA, implies_true, forall_const, eq_self, Int.reduceEq, Int.reduceAdd, Int.reduceSub, Int.reduceMul, Nat.reduceSub, Nat.le_add_right, Out.fg, fgA, txts_gc, nb_u8s, u8s_length, nb_txts, txts_length, mk_bstr, empty_bstr, bytesOf_u8s, bs_size, bs_app, bs_eq, bs_ext, u8_gc, isb6, bstr_toList, u8s_get?]
  · simp -dsimp -implicitDefEqProofs only [B0, B1, B2, B3, B4, B5, B6, ↓ordOK_f, ↓ordOK_e, ↓ordCalls_f, ↓brB_tt, ↓brB_ff, ↓brB_tf, ↓brB_ft, ↓reduceIte, condWp, opSem, opSem0, tkOp, Out.tokV, retok1, constAV, binSem, unSem, intOp, strOp, loadSem, storeSem, fieldAddrSem, indexAddrSem, fieldSem, indexSem, lenSem, buildSem, buildSliceSem, appendSem, srcA, convSem, sliceSem, bndA, slTok, makeSliceSem, copySem, Res.obj?, cmpOK, cmpParts, tplace, Nat.reduceEqDiff, Nat.reduceAdd, Nat.reduceMul, Nat.reduceLeDiff, Nat.reduceLT, Nat.reduceBEq, Nat.reducePow, Int.reduceToNat, Int.reduceLE, Int.reduceLT, Int.reduceNeg, reduceCtorEq, cxP, ne_eq, forall_eq, forall_eq_or_imp, resOne, resA, implies_true, forall_const, eq_self, Int.reduceEq, Int.reduceAdd, Int.reduceSub, Int.reduceMul, Nat.reduceSub, Nat.le_add_right, Out.fg, fgA, txts_gc, nb_u8s, u8s_length, nb_txts, txts_length, mk_bstr, empty_bstr, bytesOf_u8s, bs_size, bs_app, bs_eq, bs_ext, u8_gc, isb6, bstr_toList, u8s_get?]
  · intro s
    simp -dsimp -implicitDefEqProofs only [B0, B1, B2, B3, B4, B5, B6, ↓ordOK_f, ↓ordOK_e, ↓ordCalls_f, ↓brB_tt, ↓brB_ff, ↓brB_tf, ↓brB_ft, ↓reduceIte, condWp, opSem, opSem0, tkOp, Out.tokV, retok1, constAV, binSem, unSem, intOp, strOp, loadSem, storeSem, fieldAddrSem, indexAddrSem, fieldSem, indexSem, lenSem, buildSem, buildSliceSem, appendSem, srcA, convSem, sliceSem, bndA, slTok, makeSliceSem, copySem, Res.obj?, cmpOK, cmpParts, tplace, Nat.reduceEqDiff, Nat.reduceAdd, Nat.reduceMul, Nat.reduceLeDiff, Nat.reduceLT, Nat.reduceBEq, Nat.reducePow, Int.reduceToNat, Int.reduceLE, Int.reduceLT, Int.reduceNeg, reduceCtorEq, cxP, ne_eq, forall_eq, forall_eq_or_imp, resOne, resA, implies_true, forall_const, eq_self, Int.reduceEq, Int.reduceAdd, Int.reduceSub, Int.reduceMul, Nat.reduceSub, Nat.le_add_right, Out.fg, fgA, txts_gc, nb_u8s, u8s_length, nb_txts, txts_length, mk_bstr, empty_bstr, bytesOf_u8s, bs_size, bs_app, bs_eq, bs_ext, u8_gc, isb6, bstr_toList, u8s_get?]
    omega
  · rintro ⟨i, hi, hall⟩
    have hi : i ≤ w.length := hi
    have hall : ∀ j, j < i → 0 ≤ hexv (w.getD j 0) := hall
    simp -dsimp -implicitDefEqProofs only [B0, B1, B2, B3, B4, B5, B6, ↓ordOK_f, ↓ordOK_e, ↓ordCalls_f, ↓brB_tt, ↓brB_ff, ↓brB_tf, ↓brB_ft, ↓reduceIte, condWp, opSem, opSem0, tkOp, Out.tokV, retok1, constAV, binSem, unSem, intOp, strOp, loadSem, storeSem, fieldAddrSem, indexAddrSem, fieldSem, indexSem, lenSem, buildSem, buildSliceSem, appendSem, srcA, convSem, sliceSem, bndA, slTok, makeSliceSem, copySem, Res.obj?, cmpOK, cmpParts, tplace, Nat.reduceEqDiff, Nat.reduceAdd, Nat.reduceMul, Nat.reduceLeDiff, Nat.reduceLT, Nat.reduceBEq, Nat.reducePow, Int.reduceToNat, Int.reduceLE, Int.reduceLT, Int.reduceNeg, reduceCtorEq, cxP, ne_eq, forall_eq, forall_eq_or_imp, resOne, resA, implies_true, forall_const, eq_self, Int.reduceEq, Int.reduceAdd, Int.reduceSub, Int.reduceMul, Nat.reduceSub, Nat.le_add_right, Out.fg, fgA, t3, t5, t9, t22, t62, txts_gc, nb_u8s, u8s_length, nb_txts, txts_length, mk_bstr, empty_bstr, bytesOf_u8s, bs_size, bs_app, bs_eq, bs_ext, u8_gc, isb6, bstr_toList, u8s_get?, rowV_len]
    refine brT (fun h => ?_) (fun h => ?_)
    · have hi2 : i < w.length := by omega
      have hj : i / 2 < w.length / 2 := by omega
      have hq2 : IntKind.i64.wrap ((i : Int).tdiv 2) = ((i / 2 : Nat) : Int) := wrapI rfl (by omega)
      have hq3 : IntKind.i64.wrap ((i : Int) + 1) = ((i + 1 : Nat) : Int) := wrapI (by omega) (by omega)
      by_cases hx : hexv (w.getD i 0) < 0
      · have hx' : Lib.indexByte hexTabL (w.getD i 0) < 0 := hx
        repeat' (first | omega | assumption | refine brF (fun _ => ?_) (fun _ => ?_) | refine brT (fun _ => ?_) (fun _ => ?_) | refine brVF (fun _ => ?_) (fun _ => ?_) | refine brVT (fun _ => ?_) (fun _ => ?_) | (with_reducible refine And.intro ?_ ?_) | (refine callK_by (indexByte_spec _ hexTabL _) ?_) | (simp -dsimp -implicitDefEqProofs only [B0, B1, B2, B3, B4, B5, B6, ↓ordOK_f, ↓ordOK_e, ↓ordCalls_f, ↓brB_tt, ↓brB_ff, ↓brB_tf, ↓brB_ft, ↓reduceIte, condWp, opSem, opSem0, tkOp, Out.tokV, retok1, constAV, binSem, unSem, intOp, strOp, loadSem, storeSem, fieldAddrSem, indexAddrSem, fieldSem, indexSem, lenSem, buildSem, buildSliceSem, appendSem, srcA, convSem, sliceSem, bndA, slTok, makeSliceSem, copySem, Res.obj?, cmpOK, cmpParts, tplace, Nat.reduceEqDiff, Nat.reduceAdd, Nat.reduceMul, Nat.reduceLeDiff, Nat.reduceLT, Nat.reduceBEq, Nat.reducePow, Int.reduceToNat, Int.reduceLE, Int.reduceLT, Int.reduceNeg, reduceCtorEq, cxP, ne_eq, forall_eq, forall_eq_or_imp, resOne, resA, implies_true, forall_const, eq_self, Int.reduceEq, Int.reduceAdd, Int.reduceSub, Int.reduceMul, Nat.reduceSub, Nat.le_add_right, Out.fg, fgA, t3, t5, t9, t22, t62, txts_gc, nb_u8s, u8s_length, nb_txts, txts_length, mk_bstr, empty_bstr, bytesOf_u8s, bs_size, bs_app, bs_eq, bs_ext, u8_gc, isb6, bstr_toList, u8s_get?, hx']))
      have hall' : ∀ j, j < i + 1 → 0 ≤ hexv (w.getD j 0) := fun j hj => by
        by_cases e : j = i
        · subst e; omega
        · exact hall j (by omega)
      have hn : ∀ j, j < i + 1 → ∃ k : Nat, hexv (w.getD j 0) = (k : Int) ∧ k < 16 := fun j hj => by
        have a1 := hall' j hj
        have a2 := (hexv_bnd (w.getD j 0)).2
        exact ⟨(hexv (w.getD j 0)).toNat, by omega, by omega⟩
      obtain ⟨k, hk, hk2⟩ := hn i (by omega)
      have hk' : Lib.indexByte hexTabL (w.getD i 0) = (k : Int) := hk
      have hg : (u8s (rowV w i)).getD (i / 2) .undef = .val (.int .u8 ((cellV w i (i / 2)).toNat : Int)) := by
        rw [u8s_get (by rw [rowV_len]; exact hj), rowV_get hj]
      obtain ⟨a, ha, ha2, hv⟩ : ∃ a : Nat, (cellV w i (i / 2)).toNat = a ∧ a < 16 ∧ UInt8.ofNat (a * 16 + k) = cellV w (i + 1) (i / 2) := by
        by_cases he : i % 2 = 0
        · refine ⟨0, ?_, by omega, ?_⟩
          · rw [cellV, if_neg (by omega), if_neg (by omega)]; rfl
          · rw [cellV, if_neg (by omega), if_pos (by omega), show 2 * (i / 2) = i by omega, hk]
            simp
        · obtain ⟨a, ha, ha2⟩ := hn (i - 1) (by omega)
          refine ⟨a, ?_, ha2, ?_⟩
          · rw [cellV, if_neg (by omega), if_pos (by omega), show 2 * (i / 2) = i - 1 by omega, ha]
            simp only [Int.toNat_natCast, UInt8.toNat_ofNat']
            omega
          · rw [cellV, if_pos (by omega), show 2 * (i / 2) + 1 = i by omega, show 2 * (i / 2) = i - 1 by omega, ha, hk]
            simp only [Int.toNat_natCast]
      rw [ha] at hg
      have hor := or_nib ⟨a, ha2⟩ ⟨k, hk2⟩
      simp only at hor
      have hst := rowV_step (i := i) hj hv
      have hset : (u8s (rowV w i)).set (i / 2) (AV.val (Value.int IntKind.u8 ((UInt8.ofNat (a * 16 + k)).toNat : Int))) = u8s (rowV w (i + 1)) := by
        rw [← hst]; simp [u8s, u8, List.map_set]
      repeat' (first | omega | assumption | refine brF (fun _ => ?_) (fun _ => ?_) | refine brT (fun _ => ?_) (fun _ => ?_) | refine brVF (fun _ => ?_) (fun _ => ?_) | refine brVT (fun _ => ?_) (fun _ => ?_) | (with_reducible refine And.intro ?_ ?_) | (refine callK_by (indexByte_spec _ hexTabL _) ?_) | (simp -dsimp -implicitDefEqProofs only [B0, B1, B2, B3, B4, B5, B6, ↓ordOK_f, ↓ordOK_e, ↓ordCalls_f, ↓brB_tt, ↓brB_ff, ↓brB_tf, ↓brB_ft, ↓reduceIte, condWp, opSem, opSem0, tkOp, Out.tokV, retok1, constAV, binSem, unSem, intOp, strOp, loadSem, storeSem, fieldAddrSem, indexAddrSem, fieldSem, indexSem, lenSem, buildSem, buildSliceSem, appendSem, srcA, convSem, sliceSem, bndA, slTok, makeSliceSem, copySem, Res.obj?, cmpOK, cmpParts, tplace, Nat.reduceEqDiff, Nat.reduceAdd, Nat.reduceMul, Nat.reduceLeDiff, Nat.reduceLT, Nat.reduceBEq, Nat.reducePow, Int.reduceToNat, Int.reduceLE, Int.reduceLT, Int.reduceNeg, reduceCtorEq, cxP, ne_eq, forall_eq, forall_eq_or_imp, resOne, resA, implies_true, forall_const, eq_self, Int.reduceEq, Int.reduceAdd, Int.reduceSub, Int.reduceMul, Nat.reduceSub, Nat.le_add_right, Out.fg, fgA, t3, t5, t9, t22, t62, txts_gc, nb_u8s, u8s_length, nb_txts, txts_length, mk_bstr, empty_bstr, bytesOf_u8s, bs_size, bs_app, bs_eq, bs_ext, u8_gc, isb6, bstr_toList, u8s_get?, rowV_len, hk', hq2, hq3, hg]))
      refine ⟨⟨i + 1, hi2, hall'⟩, by show w.length - (i + 1) < w.length - i; omega, rfl, ?_⟩
      show _ = some (Res.obj (AV.vec 1 (u8s (rowV w (i + 1)))))
      rw [← hset, ← hor]
      rfl
    · obtain ⟨j, hj, hj2⟩ := hbad
      have := hall j (by omega)
      omega

theorem unhex_spec (nx : Nat) (w : List UInt8) (hl : w.length < 2 ^ 40) : FnSpec Tryd.prog 37 nx [txt w] [] (.tup [.sl 1 (u8s (unhexT w).1) 0, bA (unhexT w).2]) [] 0 := by
  have hnil : ∀ b : Bool, FnSpec Tryd.prog 37 nx [txt w] [] (.tup [.sl 0 [] 1, bA b]) [] 0 → FnSpec Tryd.prog 37 nx [txt w] [] (.tup [.sl 1 (u8s []) 0, bA b]) [] 0 := fun b h => by
    refine h.forget0 ⟨rfl, fun i x y hx hy => ?_⟩ (by simp [AV.nb, AV.nbs, u8s]) (fun n h => by simp [keys] at h)
    match i, hx, hy with
    | 0, hx, hy => injection hx with hx; injection hy with hy; subst hx hy; exact .inr ⟨rfl, rfl, .inr ⟨.inr rfl, .inl rfl⟩⟩
    | 1, hx, hy => injection hx with hx; injection hy with hy; subst hx hy; exact .inl rfl
    | i + 2, hx, hy => simp at hx
  by_cases h0 : w = [46]
  · rw [unhexT, if_pos h0]
    refine hnil true ?_
    refine FnSpec.of_code (cx := cx) (an := {}) (rs := [.tmp 2, .tmp 3]) mo Tryd.func37 rfl rfl (by kernel_rfl) (by kernel_rfl) (by show 1 ≤ _; decide) (.inr ⟨_, rfl, by simp [AV.good]⟩) (by simp [allWr, keys, Res.wr]) ?_
    repeat' (first | omega | assumption | refine brF (fun _ => ?_) (fun _ => ?_) | refine brT (fun _ => ?_) (fun _ => ?_) | refine brVF (fun _ => ?_) (fun _ => ?_) | refine brVT (fun _ => ?_) (fun _ => ?_) | (with_reducible refine And.intro ?_ ?_) | (simp -dsimp -implicitDefEqProofs only [B0, B1, B2, B3, B4, B5, B6, ↓ordOK_f, ↓ordOK_e, ↓ordCalls_f, ↓brB_tt, ↓brB_ff, ↓brB_tf, ↓brB_ft, ↓reduceIte, condWp, opSem, opSem0, tkOp, Out.tokV, retok1, constAV, binSem, unSem, intOp, strOp, loadSem, storeSem, fieldAddrSem, indexAddrSem, fieldSem, indexSem, lenSem, buildSem, buildSliceSem, appendSem, srcA, convSem, sliceSem, bndA, slTok, makeSliceSem, copySem, Res.obj?, cmpOK, cmpParts, tplace, Nat.reduceEqDiff, Nat.reduceAdd, Nat.reduceMul, Nat.reduceLeDiff, Nat.reduceLT, Nat.reduceBEq, Nat.reducePow, Int.reduceToNat, Int.reduceLE, Int.reduceLT, Int.reduceNeg, reduceCtorEq, cxP, ne_eq, forall_eq, forall_eq_or_imp, resOne, resA, implies_true, forall_const, eq_self, Int.reduceEq, Int.reduceAdd, Int.reduceSub, Int.reduceMul, Nat.reduceSub, Nat.le_add_right, Out.fg, fgA, t3, t5, t9, t22, t62, txts_gc, nb_u8s, u8s_length, nb_txts, txts_length, mk_bstr, empty_bstr, bytesOf_u8s, bs_size, bs_app, bs_eq, bs_ext, u8_gc, isb6, bstr_toList, u8s_get?, h0]))
  by_cases h1 : w.length % 2 = 1 ∨ w = []
  · rw [unhexT, if_neg h0, if_pos h1]
    refine hnil false ?_
    refine FnSpec.of_code (cx := cx) (an := {}) (rs := [.tmp 2, .tmp 3]) mo Tryd.func37 rfl rfl (by kernel_rfl) (by kernel_rfl) (by show 1 ≤ _; decide) (.inr ⟨_, rfl, by simp [AV.good]⟩) (by simp [allWr, keys, Res.wr]) ?_
    by_cases h2 : w.length % 2 = 1
    · have ht : (w.length : Int).tmod 2 = 1 := by rw [show (w.length : Int).tmod 2 = ((w.length % 2 : Nat) : Int) from rfl]; omega
      repeat' (first | omega | assumption | refine brF (fun _ => ?_) (fun _ => ?_) | refine brT (fun _ => ?_) (fun _ => ?_) | refine brVF (fun _ => ?_) (fun _ => ?_) | refine brVT (fun _ => ?_) (fun _ => ?_) | (with_reducible refine And.intro ?_ ?_) | (simp -dsimp -implicitDefEqProofs only [B0, B1, B2, B3, B4, B5, B6, ↓ordOK_f, ↓ordOK_e, ↓ordCalls_f, ↓brB_tt, ↓brB_ff, ↓brB_tf, ↓brB_ft, ↓reduceIte, condWp, opSem, opSem0, tkOp, Out.tokV, retok1, constAV, binSem, unSem, intOp, strOp, loadSem, storeSem, fieldAddrSem, indexAddrSem, fieldSem, indexSem, lenSem, buildSem, buildSliceSem, appendSem, srcA, convSem, sliceSem, bndA, slTok, makeSliceSem, copySem, Res.obj?, cmpOK, cmpParts, tplace, Nat.reduceEqDiff, Nat.reduceAdd, Nat.reduceMul, Nat.reduceLeDiff, Nat.reduceLT, Nat.reduceBEq, Nat.reducePow, Int.reduceToNat, Int.reduceLE, Int.reduceLT, Int.reduceNeg, reduceCtorEq, cxP, ne_eq, forall_eq, forall_eq_or_imp, resOne, resA, implies_true, forall_const, eq_self, Int.reduceEq, Int.reduceAdd, Int.reduceSub, Int.reduceMul, Nat.reduceSub, Nat.le_add_right, Out.fg, fgA, t3, t5, t9, t22, t62, txts_gc, nb_u8s, u8s_length, nb_txts, txts_length, mk_bstr, empty_bstr, bytesOf_u8s, bs_size, bs_app, bs_eq, bs_ext, u8_gc, isb6, bstr_toList, u8s_get?, h0, ht]))
    · have h3 : w = [] := h1.resolve_left h2
      subst h3
      repeat' (first | omega | assumption | refine brF (fun _ => ?_) (fun _ => ?_) | refine brT (fun _ => ?_) (fun _ => ?_) | refine brVF (fun _ => ?_) (fun _ => ?_) | refine brVT (fun _ => ?_) (fun _ => ?_) | (with_reducible refine And.intro ?_ ?_) | (simp -dsimp -implicitDefEqProofs only [B0, B1, B2, B3, B4, B5, B6, ↓ordOK_f, ↓ordOK_e, ↓ordCalls_f, ↓brB_tt, ↓brB_ff, ↓brB_tf, ↓brB_ft, ↓reduceIte, condWp, opSem, opSem0, tkOp, Out.tokV, retok1, constAV, binSem, unSem, intOp, strOp, loadSem, storeSem, fieldAddrSem, indexAddrSem, fieldSem, indexSem, lenSem, buildSem, buildSliceSem, appendSem, srcA, convSem, sliceSem, bndA, slTok, makeSliceSem, copySem, Res.obj?, cmpOK, cmpParts, tplace, Nat.reduceEqDiff, Nat.reduceAdd, Nat.reduceMul, Nat.reduceLeDiff, Nat.reduceLT, Nat.reduceBEq, Nat.reducePow, Int.reduceToNat, Int.reduceLE, Int.reduceLT, Int.reduceNeg, reduceCtorEq, cxP, ne_eq, forall_eq, forall_eq_or_imp, resOne, resA, implies_true, forall_const, eq_self, Int.reduceEq, Int.reduceAdd, Int.reduceSub, Int.reduceMul, Nat.reduceSub, Nat.le_add_right, Out.fg, fgA, t3, t5, t9, t22, t62, txts_gc, nb_u8s, u8s_length, nb_txts, txts_length, mk_bstr, empty_bstr, bytesOf_u8s, bs_size, bs_app, bs_eq, bs_ext, u8_gc, isb6, bstr_toList, u8s_get?]))
  have h2 : ¬ w.length % 2 = 1 := fun h => h1 (.inl h)
  have h3 : ¬ w = [] := fun h => h1 (.inr h)
  rw [unhexT, if_neg h0, if_neg h1]
  by_cases hall : w.all (fun c => decide (0 ≤ hexv c)) = true
  · rw [if_pos hall]
    have hall' : ∀ c ∈ w, 0 ≤ hexv c := fun c hc => by simpa using List.all_eq_true.1 hall c hc
    refine (unhex_ok nx w hl h0 h2 h3 hall').stay (n := nx + 120) (sz := 1) (L := u8s (rowV w w.length)) ?_ ?_ ?_ ?_
    · simp [Heap.get]
    · intro m hm; simp [keys] at hm; omega
    · refine ⟨rfl, fun i x y hx hy => ?_⟩
      match i, hx, hy with
      | 0, hx, hy =>
        injection hx with hx; injection hy with hy; subst hx hy
        refine .inr ⟨0, w.length / 2, rfl, ?_, ?_⟩
        · rw [List.drop_zero, List.take_of_length_le (by rw [u8s_length, rowV_len]; omega)]
        · rw [u8s_length, rowV_len]; omega
      | 1, hx, hy => injection hx with hx; injection hy with hy; subst hx hy; exact .inl rfl
      | i + 2, hx, hy => simp at hx
    · simp [AV.nb, AV.nbs, nb_u8s]
  · rw [if_neg hall]
    refine hnil false (unhex_bad nx w hl h0 h2 h3 ?_)
    obtain ⟨c, hc, hn⟩ : ∃ c, c ∈ w ∧ ¬ 0 ≤ hexv c := Classical.byContradiction fun h => hall (by rw [List.all_eq_true]; intro c hc; exact decide_eq_true (Classical.byContradiction fun h2 => h ⟨c, hc, h2⟩))
    obtain ⟨j, hj, e⟩ := List.getElem_of_mem hc
    refine ⟨j, hj, ?_⟩
    rw [List.getD_eq_getElem?_getD, List.getElem?_eq_getElem hj]
    simp only [Option.getD_some, e]
    omega
end Go.Proofs.YtdkcobnhcpgpaaaDoor

/-
  say: numbers as digits.
-/
import Derived.Test.YtdkcobnhcpgpaaaDoorS4
set_option linter.unusedSimpArgs false
set_option linter.unusedVariables false
set_option maxRecDepth 100000
set_option maxHeartbeats 4000000
namespace Go.Proofs.YtdkcobnhcpgpaaaDoor
open Go Go.AL Go.Proofs.YtdkcobnhcpgpaaaDoor.T

/-- a number as digits -/
def dec (n : Nat) : List UInt8 := if n < 10 then [UInt8.ofNat (48 + n)] else dec (n / 10) ++ [UInt8.ofNat (48 + n % 10)]
termination_by n
decreasing_by omega
def decT (n : Int) : List UInt8 := if n < 0 then 45 :: dec n.natAbs else dec n.natAbs
theorem dec_small {n : Nat} (h : n < 10) : dec n = [UInt8.ofNat (48 + n)] := by rw [dec, if_pos h]
theorem dec_big {n : Nat} (h : ¬ n < 10) : dec n = dec (n / 10) ++ [UInt8.ofNat (48 + n % 10)] := by rw [dec, if_neg h]
theorem dec_ne (n : Nat) : dec n ≠ [] := by
  rw [dec]; split <;> simp
theorem dec_len (k : Nat) : ∀ n : Nat, n < 10 ^ (k + 1) → (dec n).length ≤ k + 1 := by
  induction k with
  | zero => intro n h; rw [dec_small (by omega)]; simp
  | succ k ih =>
    intro n h
    by_cases h1 : n < 10
    · rw [dec_small h1]; simp
    · rw [dec_big h1, List.length_append]
      have := ih (n / 10) (by rw [Nat.pow_succ] at h; omega)
      simp; omega

abbrev uA (n : Nat) : AV := .val (.int .u64 n)
theorem wrapU {x : Int} {n : Nat} (h : x = (n : Int)) (hn : n < 2 ^ 64) : IntKind.u64.wrap x = (n : Int) := by rw [IntKind.wrap_u64]; omega
theorem wrapN {v : Nat} (h0 : 0 < v) (hn : v < 2 ^ 63) : IntKind.u64.wrap (0 - ((2 ^ 64 - v : Nat) : Int)) = (v : Int) := by
  rw [show ((2 ^ 64 - v : Nat) : Int) = 2 ^ 64 - (v : Int) by omega, IntKind.wrap_u64]; omega
theorem wrap8 {x : Int} {b : UInt8} (h : x = (b.toNat : Int)) : IntKind.u8.wrap x = (b.toNat : Int) := by
  have := b.toNat_lt
  rw [h]; simp [IntKind.wrap, IntKind.bits, IntKind.signed]; omega

--LOCAL: txts_gc, nb_u8s, u8s_length, nb_txts, txts_length, mk_bstr, empty_bstr, bytesOf_u8s, bs_size, bs_app, bs_eq, u8_gc, isb6, u8_cons, u8_lit, List.length_cons, List.append_nil, u8s_app
def bufA : List UInt8 → AV
  | [] => .sl 0 [] 1
  | x :: t => .sl 1 (u8s (x :: t)) 0
theorem nb_buf {m : Nat} (b : List UInt8) : (bufA b).nb m = True := by cases b <;> simp [bufA, AV.nb, AV.nbs, nb_u8s]
theorem isb6 (bs : List UInt8) : (∀ a, a ∈ u8s bs → isByte a) = True := by simp only [eq_iff_iff, iff_true]; exact isByte_u8s bs
theorem u8_gc (l : List UInt8) : (∀ (u : AV), u ∈ u8s l → u.good = true ∧ u.csize = 1) = True := by
  simp only [eq_iff_iff, iff_true]
  intro u hu
  obtain ⟨a, _, rfl⟩ := List.mem_map.1 hu
  exact ⟨rfl, rfl⟩
theorem u8_cons (b : UInt8) (l : List UInt8) : AV.val (Value.int .u8 (b.toNat : Int)) :: u8s l = u8s (b :: l) := rfl
theorem u8_lit (b : UInt8) : [AV.val (Value.int .u8 (b.toNat : Int))] = u8s [b] := rfl
theorem u8s_app (a b : List UInt8) : u8s a ++ u8s b = u8s (a ++ b) := by simp [u8s]

theorem digits_spec (nx : Nat) (n : Int) (h1 : -(2 ^ 62) < n) (h2 : n < 2 ^ 62) : FnSpec Tryd.prog 19 nx [iA n] [] (txt (decT n)) [] 0 := by
  obtain ⟨v0, hv0⟩ : ∃ v0, v0 = n.natAbs := ⟨_, rfl⟩
  refine FnSpec.of_code (cx := cx) (an := {fg := [18]}) (rs := [.tmp 2]) mo Tryd.func19 rfl rfl (by kernel_rfl) (by kernel_rfl) (by show 1 ≤ _; decide) (.inl rfl) (by simp [allWr, keys, Res.wr]) ?_
  simp -dsimp -implicitDefEqProofs only [B0, B1, B2, B3, B4, B5, B6, ↓ordOK_f, ↓ordOK_e, ↓ordCalls_f, ↓brB_tt, ↓brB_ff, ↓brB_tf, ↓brB_ft, ↓reduceIte, condWp, opSem, opSem0, tkOp, Out.tokV, retok1, constAV, binSem, unSem, intOp, strOp, loadSem, storeSem, fieldAddrSem, indexAddrSem, fieldSem, indexSem, lenSem, buildSem, buildSliceSem, appendSem, srcA, convSem, sliceSem, bndA, slTok, makeSliceSem, copySem, Res.obj?, cmpOK, cmpParts, tplace, Nat.reduceEqDiff, Nat.reduceAdd, Nat.reduceMul, Nat.reduceLeDiff, Nat.reduceLT, Nat.reduceBEq, Nat.reducePow, Int.reduceToNat, Int.reduceLE, Int.reduceLT, Int.reduceNeg, reduceCtorEq, cxP, ne_eq, forall_eq, forall_eq_or_imp, resOne, resA, implies_true, forall_const, eq_self, Int.reduceEq, Int.reduceAdd, Int.reduceSub, Int.reduceMul, Nat.reduceSub, Nat.le_add_right, Out.fg, fgA, t2, t5, t9, t22, t60, txts_gc, nb_u8s, u8s_length, nb_txts, txts_length, mk_bstr, empty_bstr, bytesOf_u8s, bs_size, bs_app, bs_eq, u8_gc, isb6, u8_cons, u8_lit, List.length_cons, List.append_nil, u8s_app]
  refine brT (fun hn => ?_) (fun hn => ?_)
  all_goals simp -dsimp -implicitDefEqProofs only [B0, B1, B2, B3, B4, B5, B6, ↓ordOK_f, ↓ordOK_e, ↓ordCalls_f, ↓brB_tt, ↓brB_ff, ↓brB_tf, ↓brB_ft, ↓reduceIte, condWp, opSem, opSem0, tkOp, Out.tokV, retok1, constAV, binSem, unSem, intOp, strOp, loadSem, storeSem, fieldAddrSem, indexAddrSem, fieldSem, indexSem, lenSem, buildSem, buildSliceSem, appendSem, srcA, convSem, sliceSem, bndA, slTok, makeSliceSem, copySem, Res.obj?, cmpOK, cmpParts, tplace, Nat.reduceEqDiff, Nat.reduceAdd, Nat.reduceMul, Nat.reduceLeDiff, Nat.reduceLT, Nat.reduceBEq, Nat.reducePow, Int.reduceToNat, Int.reduceLE, Int.reduceLT, Int.reduceNeg, reduceCtorEq, cxP, ne_eq, forall_eq, forall_eq_or_imp, resOne, resA, implies_true, forall_const, eq_self, Int.reduceEq, Int.reduceAdd, Int.reduceSub, Int.reduceMul, Nat.reduceSub, Nat.le_add_right, Out.fg, fgA, t2, t5, t9, t22, t60, txts_gc, nb_u8s, u8s_length, nb_txts, txts_length, mk_bstr, empty_bstr, bytesOf_u8s, bs_size, bs_app, bs_eq, u8_gc, isb6, u8_cons, u8_lit, List.length_cons, List.append_nil, u8s_app]
  · have hw1 : IntKind.u64.wrap n = ((2 ^ 64 - v0 : Nat) : Int) := by rw [IntKind.wrap_u64]; omega
    have hw2 : IntKind.u64.wrap (0 - ((2 ^ 64 - v0 : Nat) : Int)) = ((v0 : Nat) : Int) := wrapN (by omega) (by omega)
    simp -dsimp -implicitDefEqProofs only [B0, B1, B2, B3, B4, B5, B6, ↓ordOK_f, ↓ordOK_e, ↓ordCalls_f, ↓brB_tt, ↓brB_ff, ↓brB_tf, ↓brB_ft, ↓reduceIte, condWp, opSem, opSem0, tkOp, Out.tokV, retok1, constAV, binSem, unSem, intOp, strOp, loadSem, storeSem, fieldAddrSem, indexAddrSem, fieldSem, indexSem, lenSem, buildSem, buildSliceSem, appendSem, srcA, convSem, sliceSem, bndA, slTok, makeSliceSem, copySem, Res.obj?, cmpOK, cmpParts, tplace, Nat.reduceEqDiff, Nat.reduceAdd, Nat.reduceMul, Nat.reduceLeDiff, Nat.reduceLT, Nat.reduceBEq, Nat.reducePow, Int.reduceToNat, Int.reduceLE, Int.reduceLT, Int.reduceNeg, reduceCtorEq, cxP, ne_eq, forall_eq, forall_eq_or_imp, resOne, resA, implies_true, forall_const, eq_self, Int.reduceEq, Int.reduceAdd, Int.reduceSub, Int.reduceMul, Nat.reduceSub, Nat.le_add_right, Out.fg, fgA, t2, t5, t9, t22, t60, txts_gc, nb_u8s, u8s_length, nb_txts, txts_length, mk_bstr, empty_bstr, bytesOf_u8s, bs_size, bs_app, bs_eq, u8_gc, isb6, u8_cons, u8_lit, List.length_cons, List.append_nil, u8s_app, hw1, hw2]
    apply loop_keep [3] (fun s : { s : Nat × List UInt8 // dec v0 = dec s.1 ++ s.2 ∧ s.1 ≤ v0 } => [(4, uA s.1.1), (5, bufA s.1.2)]) (fun _ => []) (fun s => s.1.1) ⟨(v0, []), by simp⟩
    · simp -dsimp -implicitDefEqProofs only [B0, B1, B2, B3, B4, B5, B6, ↓ordOK_f, ↓ordOK_e, ↓ordCalls_f, ↓brB_tt, ↓brB_ff, ↓brB_tf, ↓brB_ft, ↓reduceIte, condWp, opSem, opSem0, tkOp, Out.tokV, retok1, constAV, binSem, unSem, intOp, strOp, loadSem, storeSem, fieldAddrSem, indexAddrSem, fieldSem, indexSem, lenSem, buildSem, buildSliceSem, appendSem, srcA, convSem, sliceSem, bndA, slTok, makeSliceSem, copySem, Res.obj?, cmpOK, cmpParts, tplace, Nat.reduceEqDiff, Nat.reduceAdd, Nat.reduceMul, Nat.reduceLeDiff, Nat.reduceLT, Nat.reduceBEq, Nat.reducePow, Int.reduceToNat, Int.reduceLE, Int.reduceLT, Int.reduceNeg, reduceCtorEq, cxP, ne_eq, forall_eq, forall_eq_or_imp, resOne, resA, implies_true, forall_const, eq_self, Int.reduceEq, Int.reduceAdd, Int.reduceSub, Int.reduceMul, Nat.reduceSub, Nat.le_add_right, Out.fg, fgA, txts_gc, nb_u8s, u8s_length, nb_txts, txts_length, mk_bstr, empty_bstr, bytesOf_u8s, bs_size, bs_app, bs_eq, u8_gc, isb6, u8_cons, u8_lit, List.length_cons, List.append_nil, u8s_app]; rfl
    · simp -dsimp -implicitDefEqProofs only [B0, B1, B2, B3, B4, B5, B6, ↓ordOK_f, ↓ordOK_e, ↓ordCalls_f, ↓brB_tt, ↓brB_ff, ↓brB_tf, ↓brB_ft, ↓reduceIte, condWp, opSem, opSem0, tkOp, Out.tokV, retok1, constAV, binSem, unSem, intOp, strOp, loadSem, storeSem, fieldAddrSem, indexAddrSem, fieldSem, indexSem, lenSem, buildSem, buildSliceSem, appendSem, srcA, convSem, sliceSem, bndA, slTok, makeSliceSem, copySem, Res.obj?, cmpOK, cmpParts, tplace, Nat.reduceEqDiff, Nat.reduceAdd, Nat.reduceMul, Nat.reduceLeDiff, Nat.reduceLT, Nat.reduceBEq, Nat.reducePow, Int.reduceToNat, Int.reduceLE, Int.reduceLT, Int.reduceNeg, reduceCtorEq, cxP, ne_eq, forall_eq, forall_eq_or_imp, resOne, resA, implies_true, forall_const, eq_self, Int.reduceEq, Int.reduceAdd, Int.reduceSub, Int.reduceMul, Nat.reduceSub, Nat.le_add_right, Out.fg, fgA, txts_gc, nb_u8s, u8s_length, nb_txts, txts_length, mk_bstr, empty_bstr, bytesOf_u8s, bs_size, bs_app, bs_eq, u8_gc, isb6, u8_cons, u8_lit, List.length_cons, List.append_nil, u8s_app, nb_buf]; rfl
    · simp -dsimp -implicitDefEqProofs only [B0, B1, B2, B3, B4, B5, B6, ↓ordOK_f, ↓ordOK_e, ↓ordCalls_f, ↓brB_tt, ↓brB_ff, ↓brB_tf, ↓brB_ft, ↓reduceIte, condWp, opSem, opSem0, tkOp, Out.tokV, retok1, constAV, binSem, unSem, intOp, strOp, loadSem, storeSem, fieldAddrSem, indexAddrSem, fieldSem, indexSem, lenSem, buildSem, buildSliceSem, appendSem, srcA, convSem, sliceSem, bndA, slTok, makeSliceSem, copySem, Res.obj?, cmpOK, cmpParts, tplace, Nat.reduceEqDiff, Nat.reduceAdd, Nat.reduceMul, Nat.reduceLeDiff, Nat.reduceLT, Nat.reduceBEq, Nat.reducePow, Int.reduceToNat, Int.reduceLE, Int.reduceLT, Int.reduceNeg, reduceCtorEq, cxP, ne_eq, forall_eq, forall_eq_or_imp, resOne, resA, implies_true, forall_const, eq_self, Int.reduceEq, Int.reduceAdd, Int.reduceSub, Int.reduceMul, Nat.reduceSub, Nat.le_add_right, Out.fg, fgA, txts_gc, nb_u8s, u8s_length, nb_txts, txts_length, mk_bstr, empty_bstr, bytesOf_u8s, bs_size, bs_app, bs_eq, u8_gc, isb6, u8_cons, u8_lit, List.length_cons, List.append_nil, u8s_app, bufA]
    · intro s
      simp -dsimp -implicitDefEqProofs only [B0, B1, B2, B3, B4, B5, B6, ↓ordOK_f, ↓ordOK_e, ↓ordCalls_f, ↓brB_tt, ↓brB_ff, ↓brB_tf, ↓brB_ft, ↓reduceIte, condWp, opSem, opSem0, tkOp, Out.tokV, retok1, constAV, binSem, unSem, intOp, strOp, loadSem, storeSem, fieldAddrSem, indexAddrSem, fieldSem, indexSem, lenSem, buildSem, buildSliceSem, appendSem, srcA, convSem, sliceSem, bndA, slTok, makeSliceSem, copySem, Res.obj?, cmpOK, cmpParts, tplace, Nat.reduceEqDiff, Nat.reduceAdd, Nat.reduceMul, Nat.reduceLeDiff, Nat.reduceLT, Nat.reduceBEq, Nat.reducePow, Int.reduceToNat, Int.reduceLE, Int.reduceLT, Int.reduceNeg, reduceCtorEq, cxP, ne_eq, forall_eq, forall_eq_or_imp, resOne, resA, implies_true, forall_const, eq_self, Int.reduceEq, Int.reduceAdd, Int.reduceSub, Int.reduceMul, Nat.reduceSub, Nat.le_add_right, Out.fg, fgA, txts_gc, nb_u8s, u8s_length, nb_txts, txts_length, mk_bstr, empty_bstr, bytesOf_u8s, bs_size, bs_app, bs_eq, u8_gc, isb6, u8_cons, u8_lit, List.length_cons, List.append_nil, u8s_app, nb_buf]
    · rintro ⟨⟨v, b⟩, hs1, hs2⟩
      have hs1 : dec v0 = dec v ++ b := hs1
      have hs2 : v ≤ v0 := hs2
      have hd : IntKind.u8.wrap (IntKind.u64.wrap (48 + (v : Int).tmod 10)) = ((UInt8.ofNat (48 + v % 10)).toNat : Int) := by
        have e1 : (v : Int).tmod 10 = ((v % 10 : Nat) : Int) := rfl
        have e2 : IntKind.u64.wrap (48 + ((v % 10 : Nat) : Int)) = ((48 + v % 10 : Nat) : Int) := wrapU (by omega) (by omega)
        rw [e1, e2]
        refine wrap8 ?_
        simp only [UInt8.toNat_ofNat']
        omega
      have hq : IntKind.u64.wrap ((v : Int).tdiv 10) = ((v / 10 : Nat) : Int) := by
        have e1 : (v : Int).tdiv 10 = ((v / 10 : Nat) : Int) := rfl
        rw [e1]; exact wrapU rfl (by omega)
      have hbl : b.length ≤ 18 := by
        have e1 := dec_len 18 v0 (by omega)
        rw [hs1, List.length_append] at e1
        have e2 := List.length_pos_iff.2 (dec_ne v)
        omega
      have hend : v / 10 = 0 → dec v0 = UInt8.ofNat (48 + v % 10) :: b := fun h => by
        rw [hs1, dec_small (by omega), show v % 10 = v by omega]; rfl
      have hgo : ¬ v / 10 = 0 → dec v0 = dec (v / 10) ++ UInt8.ofNat (48 + v % 10) :: b := fun h => by
        rw [hs1, dec_big (by omega), List.append_assoc]; rfl
      cases b with
      | nil =>
        repeat' (first | omega | assumption | refine brF (fun _ => ?_) (fun _ => ?_) | refine brT (fun _ => ?_) (fun _ => ?_) | refine brVF (fun _ => ?_) (fun _ => ?_) | refine brVT (fun _ => ?_) (fun _ => ?_) | (with_reducible refine And.intro ?_ ?_) | (simp -dsimp -implicitDefEqProofs only [B0, B1, B2, B3, B4, B5, B6, ↓ordOK_f, ↓ordOK_e, ↓ordCalls_f, ↓brB_tt, ↓brB_ff, ↓brB_tf, ↓brB_ft, ↓reduceIte, condWp, opSem, opSem0, tkOp, Out.tokV, retok1, constAV, binSem, unSem, intOp, strOp, loadSem, storeSem, fieldAddrSem, indexAddrSem, fieldSem, indexSem, lenSem, buildSem, buildSliceSem, appendSem, srcA, convSem, sliceSem, bndA, slTok, makeSliceSem, copySem, Res.obj?, cmpOK, cmpParts, tplace, Nat.reduceEqDiff, Nat.reduceAdd, Nat.reduceMul, Nat.reduceLeDiff, Nat.reduceLT, Nat.reduceBEq, Nat.reducePow, Int.reduceToNat, Int.reduceLE, Int.reduceLT, Int.reduceNeg, reduceCtorEq, cxP, ne_eq, forall_eq, forall_eq_or_imp, resOne, resA, implies_true, forall_const, eq_self, Int.reduceEq, Int.reduceAdd, Int.reduceSub, Int.reduceMul, Nat.reduceSub, Nat.le_add_right, Out.fg, fgA, t2, t5, t9, t22, t60, txts_gc, nb_u8s, u8s_length, nb_txts, txts_length, mk_bstr, empty_bstr, bytesOf_u8s, bs_size, bs_app, bs_eq, u8_gc, isb6, u8_cons, u8_lit, List.length_cons, List.append_nil, u8s_app, bufA, hd, hq]))
        all_goals first
          | (simp only [List.length_cons, List.length_nil, bs_size]; omega)
          | (rename_i h; exact ⟨⟨(v / 10, [UInt8.ofNat (48 + v % 10)]), hgo (by omega), by show v / 10 ≤ v0; omega⟩, by show v / 10 < v; omega, rfl, rfl⟩)
          | (rename_i h; rw [decT, if_pos hn, ← hv0, hend (by omega)]; done)
          | (rename_i h; rw [decT, if_pos hn, ← hv0, hend (by omega)]; rfl)
          | skip
      | cons x t =>
        simp only [List.length_cons] at hbl
        repeat' (first | omega | assumption | refine brF (fun _ => ?_) (fun _ => ?_) | refine brT (fun _ => ?_) (fun _ => ?_) | refine brVF (fun _ => ?_) (fun _ => ?_) | refine brVT (fun _ => ?_) (fun _ => ?_) | (with_reducible refine And.intro ?_ ?_) | (simp -dsimp -implicitDefEqProofs only [B0, B1, B2, B3, B4, B5, B6, ↓ordOK_f, ↓ordOK_e, ↓ordCalls_f, ↓brB_tt, ↓brB_ff, ↓brB_tf, ↓brB_ft, ↓reduceIte, condWp, opSem, opSem0, tkOp, Out.tokV, retok1, constAV, binSem, unSem, intOp, strOp, loadSem, storeSem, fieldAddrSem, indexAddrSem, fieldSem, indexSem, lenSem, buildSem, buildSliceSem, appendSem, srcA, convSem, sliceSem, bndA, slTok, makeSliceSem, copySem, Res.obj?, cmpOK, cmpParts, tplace, Nat.reduceEqDiff, Nat.reduceAdd, Nat.reduceMul, Nat.reduceLeDiff, Nat.reduceLT, Nat.reduceBEq, Nat.reducePow, Int.reduceToNat, Int.reduceLE, Int.reduceLT, Int.reduceNeg, reduceCtorEq, cxP, ne_eq, forall_eq, forall_eq_or_imp, resOne, resA, implies_true, forall_const, eq_self, Int.reduceEq, Int.reduceAdd, Int.reduceSub, Int.reduceMul, Nat.reduceSub, Nat.le_add_right, Out.fg, fgA, t2, t5, t9, t22, t60, txts_gc, nb_u8s, u8s_length, nb_txts, txts_length, mk_bstr, empty_bstr, bytesOf_u8s, bs_size, bs_app, bs_eq, u8_gc, isb6, u8_cons, u8_lit, List.length_cons, List.append_nil, u8s_app, bufA, hd, hq]))
        all_goals first
          | (simp only [List.length_cons, List.length_nil, bs_size]; omega)
          | (rename_i h; exact ⟨⟨(v / 10, UInt8.ofNat (48 + v % 10) :: x :: t), hgo (by omega), by show v / 10 ≤ v0; omega⟩, by show v / 10 < v; omega, rfl, rfl⟩)
          | (rename_i h; rw [decT, if_pos hn, ← hv0, hend (by omega)]; done)
          | (rename_i h; rw [decT, if_pos hn, ← hv0, hend (by omega)]; rfl)
          | skip
  · have hw : IntKind.u64.wrap n = ((v0 : Nat) : Int) := wrapU (by omega) (by omega)
    simp -dsimp -implicitDefEqProofs only [B0, B1, B2, B3, B4, B5, B6, ↓ordOK_f, ↓ordOK_e, ↓ordCalls_f, ↓brB_tt, ↓brB_ff, ↓brB_tf, ↓brB_ft, ↓reduceIte, condWp, opSem, opSem0, tkOp, Out.tokV, retok1, constAV, binSem, unSem, intOp, strOp, loadSem, storeSem, fieldAddrSem, indexAddrSem, fieldSem, indexSem, lenSem, buildSem, buildSliceSem, appendSem, srcA, convSem, sliceSem, bndA, slTok, makeSliceSem, copySem, Res.obj?, cmpOK, cmpParts, tplace, Nat.reduceEqDiff, Nat.reduceAdd, Nat.reduceMul, Nat.reduceLeDiff, Nat.reduceLT, Nat.reduceBEq, Nat.reducePow, Int.reduceToNat, Int.reduceLE, Int.reduceLT, Int.reduceNeg, reduceCtorEq, cxP, ne_eq, forall_eq, forall_eq_or_imp, resOne, resA, implies_true, forall_const, eq_self, Int.reduceEq, Int.reduceAdd, Int.reduceSub, Int.reduceMul, Nat.reduceSub, Nat.le_add_right, Out.fg, fgA, t2, t5, t9, t22, t60, txts_gc, nb_u8s, u8s_length, nb_txts, txts_length, mk_bstr, empty_bstr, bytesOf_u8s, bs_size, bs_app, bs_eq, u8_gc, isb6, u8_cons, u8_lit, List.length_cons, List.append_nil, u8s_app, hw]
    apply loop_keep [3] (fun s : { s : Nat × List UInt8 // dec v0 = dec s.1 ++ s.2 ∧ s.1 ≤ v0 } => [(4, uA s.1.1), (5, bufA s.1.2)]) (fun _ => []) (fun s => s.1.1) ⟨(v0, []), by simp⟩
    · simp -dsimp -implicitDefEqProofs only [B0, B1, B2, B3, B4, B5, B6, ↓ordOK_f, ↓ordOK_e, ↓ordCalls_f, ↓brB_tt, ↓brB_ff, ↓brB_tf, ↓brB_ft, ↓reduceIte, condWp, opSem, opSem0, tkOp, Out.tokV, retok1, constAV, binSem, unSem, intOp, strOp, loadSem, storeSem, fieldAddrSem, indexAddrSem, fieldSem, indexSem, lenSem, buildSem, buildSliceSem, appendSem, srcA, convSem, sliceSem, bndA, slTok, makeSliceSem, copySem, Res.obj?, cmpOK, cmpParts, tplace, Nat.reduceEqDiff, Nat.reduceAdd, Nat.reduceMul, Nat.reduceLeDiff, Nat.reduceLT, Nat.reduceBEq, Nat.reducePow, Int.reduceToNat, Int.reduceLE, Int.reduceLT, Int.reduceNeg, reduceCtorEq, cxP, ne_eq, forall_eq, forall_eq_or_imp, resOne, resA, implies_true, forall_const, eq_self, Int.reduceEq, Int.reduceAdd, Int.reduceSub, Int.reduceMul, Nat.reduceSub, Nat.le_add_right, Out.fg, fgA, txts_gc, nb_u8s, u8s_length, nb_txts, txts_length, mk_bstr, empty_bstr, bytesOf_u8s, bs_size, bs_app, bs_eq, u8_gc, isb6, u8_cons, u8_lit, List.length_cons, List.append_nil, u8s_app]; rfl
    · simp -dsimp -implicitDefEqProofs only [B0, B1, B2, B3, B4, B5, B6, ↓ordOK_f, ↓ordOK_e, ↓ordCalls_f, ↓brB_tt, ↓brB_ff, ↓brB_tf, ↓brB_ft, ↓reduceIte, condWp, opSem, opSem0, tkOp, Out.tokV, retok1, constAV, binSem, unSem, intOp, strOp, loadSem, storeSem, fieldAddrSem, indexAddrSem, fieldSem, indexSem, lenSem, buildSem, buildSliceSem, appendSem, srcA, convSem, sliceSem, bndA, slTok, makeSliceSem, copySem, Res.obj?, cmpOK, cmpParts, tplace, Nat.reduceEqDiff, Nat.reduceAdd, Nat.reduceMul, Nat.reduceLeDiff, Nat.reduceLT, Nat.reduceBEq, Nat.reducePow, Int.reduceToNat, Int.reduceLE, Int.reduceLT, Int.reduceNeg, reduceCtorEq, cxP, ne_eq, forall_eq, forall_eq_or_imp, resOne, resA, implies_true, forall_const, eq_self, Int.reduceEq, Int.reduceAdd, Int.reduceSub, Int.reduceMul, Nat.reduceSub, Nat.le_add_right, Out.fg, fgA, txts_gc, nb_u8s, u8s_length, nb_txts, txts_length, mk_bstr, empty_bstr, bytesOf_u8s, bs_size, bs_app, bs_eq, u8_gc, isb6, u8_cons, u8_lit, List.length_cons, List.append_nil, u8s_app, nb_buf]; rfl
    · simp -dsimp -implicitDefEqProofs only [B0, B1, B2, B3, B4, B5, B6, ↓ordOK_f, ↓ordOK_e, ↓ordCalls_f, ↓brB_tt, ↓brB_ff, ↓brB_tf, ↓brB_ft, ↓reduceIte, condWp, opSem, opSem0, tkOp, Out.tokV, retok1, constAV, binSem, unSem, intOp, strOp, loadSem, storeSem, fieldAddrSem, indexAddrSem, fieldSem, indexSem, lenSem, buildSem, buildSliceSem, appendSem, srcA, convSem, sliceSem, bndA, slTok, makeSliceSem, copySem, Res.obj?, cmpOK, cmpParts, tplace, Nat.reduceEqDiff, Nat.reduceAdd, Nat.reduceMul, Nat.reduceLeDiff, Nat.reduceLT, Nat.reduceBEq, Nat.reducePow, Int.reduceToNat, Int.reduceLE, Int.reduceLT, Int.reduceNeg, reduceCtorEq, cxP, ne_eq, forall_eq, forall_eq_or_imp, resOne, resA, implies_true, forall_const, eq_self, Int.reduceEq, Int.reduceAdd, Int.reduceSub, Int.reduceMul, Nat.reduceSub, Nat.le_add_right, Out.fg, fgA, txts_gc, nb_u8s, u8s_length, nb_txts, txts_length, mk_bstr, empty_bstr, bytesOf_u8s, bs_size, bs_app, bs_eq, u8_gc, isb6, u8_cons, u8_lit, List.length_cons, List.append_nil, u8s_app, bufA]
    · intro s
      simp -dsimp -implicitDefEqProofs only [B0, B1, B2, B3, B4, B5, B6, ↓ordOK_f, ↓ordOK_e, ↓ordCalls_f, ↓brB_tt, ↓brB_ff, ↓brB_tf, ↓brB_ft, ↓reduceIte, condWp, opSem, opSem0, tkOp, Out.tokV, retok1, constAV, binSem, unSem, intOp, strOp, loadSem, storeSem, fieldAddrSem, indexAddrSem, fieldSem, indexSem, lenSem, buildSem, buildSliceSem, appendSem, srcA, convSem, sliceSem, bndA, slTok, makeSliceSem, copySem, Res.obj?, cmpOK, cmpParts, tplace, Nat.reduceEqDiff, Nat.reduceAdd, Nat.reduceMul, Nat.reduceLeDiff, Nat.reduceLT, Nat.reduceBEq, Nat.reducePow, Int.reduceToNat, Int.reduceLE, Int.reduceLT, Int.reduceNeg, reduceCtorEq, cxP, ne_eq, forall_eq, forall_eq_or_imp, resOne, resA, implies_true, forall_const, eq_self, Int.reduceEq, Int.reduceAdd, Int.reduceSub, Int.reduceMul, Nat.reduceSub, Nat.le_add_right, Out.fg, fgA, txts_gc, nb_u8s, u8s_length, nb_txts, txts_length, mk_bstr, empty_bstr, bytesOf_u8s, bs_size, bs_app, bs_eq, u8_gc, isb6, u8_cons, u8_lit, List.length_cons, List.append_nil, u8s_app, nb_buf]
    · rintro ⟨⟨v, b⟩, hs1, hs2⟩
      have hs1 : dec v0 = dec v ++ b := hs1
      have hs2 : v ≤ v0 := hs2
      have hd : IntKind.u8.wrap (IntKind.u64.wrap (48 + (v : Int).tmod 10)) = ((UInt8.ofNat (48 + v % 10)).toNat : Int) := by
        have e1 : (v : Int).tmod 10 = ((v % 10 : Nat) : Int) := rfl
        have e2 : IntKind.u64.wrap (48 + ((v % 10 : Nat) : Int)) = ((48 + v % 10 : Nat) : Int) := wrapU (by omega) (by omega)
        rw [e1, e2]
        refine wrap8 ?_
        simp only [UInt8.toNat_ofNat']
        omega
      have hq : IntKind.u64.wrap ((v : Int).tdiv 10) = ((v / 10 : Nat) : Int) := by
        have e1 : (v : Int).tdiv 10 = ((v / 10 : Nat) : Int) := rfl
        rw [e1]; exact wrapU rfl (by omega)
      have hbl : b.length ≤ 18 := by
        have e1 := dec_len 18 v0 (by omega)
        rw [hs1, List.length_append] at e1
        have e2 := List.length_pos_iff.2 (dec_ne v)
        omega
      have hend : v / 10 = 0 → dec v0 = UInt8.ofNat (48 + v % 10) :: b := fun h => by
        rw [hs1, dec_small (by omega), show v % 10 = v by omega]; rfl
      have hgo : ¬ v / 10 = 0 → dec v0 = dec (v / 10) ++ UInt8.ofNat (48 + v % 10) :: b := fun h => by
        rw [hs1, dec_big (by omega), List.append_assoc]; rfl
      cases b with
      | nil =>
        repeat' (first | omega | assumption | refine brF (fun _ => ?_) (fun _ => ?_) | refine brT (fun _ => ?_) (fun _ => ?_) | refine brVF (fun _ => ?_) (fun _ => ?_) | refine brVT (fun _ => ?_) (fun _ => ?_) | (with_reducible refine And.intro ?_ ?_) | (simp -dsimp -implicitDefEqProofs only [B0, B1, B2, B3, B4, B5, B6, ↓ordOK_f, ↓ordOK_e, ↓ordCalls_f, ↓brB_tt, ↓brB_ff, ↓brB_tf, ↓brB_ft, ↓reduceIte, condWp, opSem, opSem0, tkOp, Out.tokV, retok1, constAV, binSem, unSem, intOp, strOp, loadSem, storeSem, fieldAddrSem, indexAddrSem, fieldSem, indexSem, lenSem, buildSem, buildSliceSem, appendSem, srcA, convSem, sliceSem, bndA, slTok, makeSliceSem, copySem, Res.obj?, cmpOK, cmpParts, tplace, Nat.reduceEqDiff, Nat.reduceAdd, Nat.reduceMul, Nat.reduceLeDiff, Nat.reduceLT, Nat.reduceBEq, Nat.reducePow, Int.reduceToNat, Int.reduceLE, Int.reduceLT, Int.reduceNeg, reduceCtorEq, cxP, ne_eq, forall_eq, forall_eq_or_imp, resOne, resA, implies_true, forall_const, eq_self, Int.reduceEq, Int.reduceAdd, Int.reduceSub, Int.reduceMul, Nat.reduceSub, Nat.le_add_right, Out.fg, fgA, t2, t5, t9, t22, t60, txts_gc, nb_u8s, u8s_length, nb_txts, txts_length, mk_bstr, empty_bstr, bytesOf_u8s, bs_size, bs_app, bs_eq, u8_gc, isb6, u8_cons, u8_lit, List.length_cons, List.append_nil, u8s_app, bufA, hd, hq]))
        all_goals first
          | (simp only [List.length_cons, List.length_nil, bs_size]; omega)
          | (rename_i h; exact ⟨⟨(v / 10, [UInt8.ofNat (48 + v % 10)]), hgo (by omega), by show v / 10 ≤ v0; omega⟩, by show v / 10 < v; omega, rfl, rfl⟩)
          | (rename_i h; rw [decT, if_neg hn, ← hv0, hend (by omega)]; done)
          | (rename_i h; rw [decT, if_neg hn, ← hv0, hend (by omega)]; rfl)
          | skip
      | cons x t =>
        simp only [List.length_cons] at hbl
        repeat' (first | omega | assumption | refine brF (fun _ => ?_) (fun _ => ?_) | refine brT (fun _ => ?_) (fun _ => ?_) | refine brVF (fun _ => ?_) (fun _ => ?_) | refine brVT (fun _ => ?_) (fun _ => ?_) | (with_reducible refine And.intro ?_ ?_) | (simp -dsimp -implicitDefEqProofs only [B0, B1, B2, B3, B4, B5, B6, ↓ordOK_f, ↓ordOK_e, ↓ordCalls_f, ↓brB_tt, ↓brB_ff, ↓brB_tf, ↓brB_ft, ↓reduceIte, condWp, opSem, opSem0, tkOp, Out.tokV, retok1, constAV, binSem, unSem, intOp, strOp, loadSem, storeSem, fieldAddrSem, indexAddrSem, fieldSem, indexSem, lenSem, buildSem, buildSliceSem, appendSem, srcA, convSem, sliceSem, bndA, slTok, makeSliceSem, copySem, Res.obj?, cmpOK, cmpParts, tplace, Nat.reduceEqDiff, Nat.reduceAdd, Nat.reduceMul, Nat.reduceLeDiff, Nat.reduceLT, Nat.reduceBEq, Nat.reducePow, Int.reduceToNat, Int.reduceLE, Int.reduceLT, Int.reduceNeg, reduceCtorEq, cxP, ne_eq, forall_eq, forall_eq_or_imp, resOne, resA, implies_true, forall_const, eq_self, Int.reduceEq, Int.reduceAdd, Int.reduceSub, Int.reduceMul, Nat.reduceSub, Nat.le_add_right, Out.fg, fgA, t2, t5, t9, t22, t60, txts_gc, nb_u8s, u8s_length, nb_txts, txts_length, mk_bstr, empty_bstr, bytesOf_u8s, bs_size, bs_app, bs_eq, u8_gc, isb6, u8_cons, u8_lit, List.length_cons, List.append_nil, u8s_app, bufA, hd, hq]))
        all_goals first
          | (simp only [List.length_cons, List.length_nil, bs_size]; omega)
          | (rename_i h; exact ⟨⟨(v / 10, UInt8.ofNat (48 + v % 10) :: x :: t), hgo (by omega), by show v / 10 ≤ v0; omega⟩, by show v / 10 < v; omega, rfl, rfl⟩)
          | (rename_i h; rw [decT, if_neg hn, ← hv0, hend (by omega)]; done)
          | (rename_i h; rw [decT, if_neg hn, ← hv0, hend (by omega)]; rfl)
          | skip
end Go.Proofs.YtdkcobnhcpgpaaaDoor

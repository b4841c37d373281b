/-
  say.Parse.
-/
import Derived.Test.YtdkcobnhcpgpaaaDoorS14
set_option linter.unusedSimpArgs false
set_option linter.unusedVariables false
set_option maxRecDepth 100000
set_option maxHeartbeats 4000000
namespace Go.Proofs.YtdkcobnhcpgpaaaDoor
open Go Go.AL Go.Proofs.YtdkcobnhcpgpaaaDoor.T

/-- the kind that a word is, of the first j ones -/
def kindU (x : List UInt8) : Nat → Int
  | 0 => 0
  | j + 1 => if 0 < j ∧ namesL.getD j [] = x then j else kindU x j
def parseR (s : List UInt8) (x : List UInt8) (t : List (List UInt8)) : Option (Act_ × Nat) :=
  if kindU x 18 = 0 then none else match fillR (kindU x 18) 0 (t, ⟨kindU x 18, 0, 0, []⟩, 1) with
    | none => none
    | some p => if lineT p.1 = s then some p else none
def parseT (s : List UInt8) : Act_ × Int :=
  if 131088 < s.length then (.zero, 3) else match parseR s ((splitC 32 s).headD []) (splitC 32 s).tail with
    | none => (.zero, 23)
    | some p => (p.1, 0)
theorem kindU_bnd (x : List UInt8) : ∀ j : Nat, 0 ≤ kindU x j ∧ kindU x j ≤ j
  | 0 => by simp [kindU]
  | j + 1 => by
    have := kindU_bnd x j
    rw [kindU]; split <;> omega
theorem splitC_ne (c : UInt8) (l : List UInt8) : splitC c l ≠ [] := fun h => by
  have := splitC_len c l
  rw [h] at this; simp at this
theorem splitC_piece (c : UInt8) : ∀ (l : List UInt8), ∀ p ∈ splitC c l, p.length ≤ l.length
  | [], p, h => by simp [splitC] at h; subst h; simp
  | x :: t, p, h => by
    have ih := splitC_piece c t
    rw [splitC] at h
    split at h
    · rcases List.mem_cons.1 h with rfl | h
      · simp
      · have := ih p h; simp; omega
    · rcases List.mem_cons.1 h with rfl | h
      · have : ((splitC c t).headD []).length ≤ t.length := by
          cases hs : splitC c t with
          | nil => simp
          | cons y ys => exact ih y (by rw [hs]; exact List.mem_cons_self)
        simpa using this
      · have := ih p (List.mem_of_mem_tail h); simp; omega

theorem z_k : Act_.zero.k = 0 := rfl
theorem z_i : Act_.zero.i = 0 := rfl
theorem z_n : Act_.zero.n = 0 := rfl
theorem z_d : Act_.zero.d = [] := rfl
theorem u8s_nil : u8s [] = [] := rfl

/-- what stays true while an act is filled -/
def FSok (p : FS) : Prop := (∀ x ∈ p.1, x.length < 2 ^ 40) ∧ p.2.1.d.length < 2 ^ 40 ∧ p.2.2 < 2
theorem unhexT_len (w : List UInt8) : (unhexT w).1.length ≤ w.length := by
  unfold unhexT
  split
  · simp
  · split
    · simp
    · split
      · simp only [rowV_len]; omega
      · simp
theorem stI_ok {k : Int} {p q : FS} (h : stI k p = some q) (hp : FSok p) : FSok q := by
  unfold stI at h
  split at h
  · split at h
    · cases h
    · rename_i x t hw
      split at h
      · injection h with h; subst h; exact ⟨fun y hy => hp.1 y (by rw [hw]; exact List.mem_cons_of_mem _ hy), hp.2⟩
      · cases h
  · injection h with h; subst h; exact hp
theorem stN_ok {k : Int} {p q : FS} (h : stN k p = some q) (hp : FSok p) : FSok q := by
  unfold stN at h
  split at h
  · split at h
    · cases h
    · rename_i x t hw
      split at h
      · injection h with h; subst h; exact ⟨fun y hy => hp.1 y (by rw [hw]; exact List.mem_cons_of_mem _ hy), hp.2⟩
      · cases h
  · injection h with h; subst h; exact hp
theorem stD_ok {k : Int} {p q : FS} (h : stD k p = some q) (hp : FSok p) : FSok q := by
  unfold stD at h
  split at h
  · split at h
    · cases h
    · rename_i x t hw
      split at h
      · injection h with h; subst h
        refine ⟨fun y hy => hp.1 y (by rw [hw]; exact List.mem_cons_of_mem _ hy), ?_, by show 0 < 2; omega⟩
        have := hp.1 x (by rw [hw]; exact List.mem_cons_self)
        have := unhexT_len x
        show (unhexT x).1.length < 2 ^ 40
        omega
      · cases h
  · injection h with h; subst h; exact hp
theorem fillR_ok {k : Int} {p : FS} {b : Act_} {tb : Nat} (h : fillR k 0 p = some (b, tb)) (hp : FSok p) : b.d.length < 2 ^ 40 ∧ tb < 2 := by
  simp only [fillR, fill0, Option.bind_eq_some_iff] at h
  obtain ⟨p1, h1, h⟩ := h
  simp only [fill1, Option.bind_eq_some_iff] at h
  obtain ⟨p2, h2, h⟩ := h
  simp only [fill2, Option.bind_eq_some_iff] at h
  obtain ⟨p3, h3, h⟩ := h
  have := stD_ok h3 (stN_ok h2 (stI_ok h1 hp))
  simp only [fill3] at h
  split at h
  · injection h with h
    have e : p3.2 = (b, tb) := h
    have := this.2
    rw [e] at this
    exact this
  · cases h

--LOCAL: z_k, z_i, z_n, z_d, u8s_nil, txts_gc, nb_u8s, u8s_length, nb_txts, txts_length, mk_bstr, empty_bstr, bytesOf_u8s, bs_size, bs_app, bs_eq, actA, txts_cons, txts_nil, List.length_cons, List.length_nil, txts_takel, drop1, names_len
theorem parse_raw (nx : Nat) (s x : List UInt8) (t : List (List UInt8)) (hs : s.length < 2 ^ 40) (hx : splitC 32 s = x :: t) (hl : ¬ 131088 < s.length) :
    FnSpec Tryd.prog 9 nx [txt s] [] (match parseR s x t with | none => .tup [actA .zero 1, iA 23] | some p => .tup [actA p.1 p.2, iA 0]) [] 0 := by
  have hx1 : ¬ 131088 < (s.length : Int) := by omega
  have hpl : ∀ p ∈ t, p.length < 2 ^ 40 := fun p hp => by
    have := splitC_piece 32 s p (by rw [hx]; exact List.mem_cons_of_mem _ hp)
    omega
  have htl : t.length < 2 ^ 40 := by
    have := splitC_len 32 s
    have h2 : s.count 32 ≤ s.length := List.count_le_length
    rw [hx, List.length_cons] at this
    omega
  rcases hR : parseR s x t with _ | ⟨a', tok'⟩
  · simp only
    refine FnSpec.of_code (cx := cx) (an := {}) (rs := [.cell 2 24, .tmp 3]) mo Tryd.func9 rfl rfl (by kernel_rfl) (by kernel_rfl) (by show 1 ≤ _; decide) (.inr ⟨_, rfl, by simp [AV.good, actA]⟩) (by simp [allWr, keys, Res.wr]) ?_
    repeat' (first | omega | assumption | refine brF (fun _ => ?_) (fun _ => ?_) | refine brT (fun _ => ?_) (fun _ => ?_) | refine brVF (fun _ => ?_) (fun _ => ?_) | refine brVT (fun _ => ?_) (fun _ => ?_) | (with_reducible refine And.intro ?_ ?_) | (refine callK_by (split_spec _ s 32 hs) ?_) | (refine callK_by (names_spec _) ?_) | (simp -dsimp -implicitDefEqProofs only [B0, B1, B2, B3, B4, B5, B6, ↓ordOK_f, ↓ordOK_e, ↓ordCalls_f, ↓brB_tt, ↓brB_ff, ↓brB_tf, ↓brB_ft, ↓reduceIte, condWp, opSem, opSem0, tkOp, Out.tokV, retok1, constAV, binSem, unSem, intOp, strOp, loadSem, storeSem, fieldAddrSem, indexAddrSem, fieldSem, indexSem, lenSem, buildSem, buildSliceSem, appendSem, srcA, convSem, sliceSem, bndA, slTok, makeSliceSem, copySem, Res.obj?, cmpOK, cmpParts, tplace, Nat.reduceEqDiff, Nat.reduceAdd, Nat.reduceMul, Nat.reduceLeDiff, Nat.reduceLT, Nat.reduceBEq, Nat.reducePow, Int.reduceToNat, Int.reduceLE, Int.reduceLT, Int.reduceNeg, reduceCtorEq, cxP, ne_eq, forall_eq, forall_eq_or_imp, resOne, resA, implies_true, forall_const, eq_self, Int.reduceEq, Int.reduceAdd, Int.reduceSub, Int.reduceMul, Nat.reduceSub, Nat.le_add_right, Out.fg, fgA, t2, t3, t4, t5, t9, t22, t24, t41, t48, z_k, z_i, z_n, z_d, u8s_nil, txts_gc, nb_u8s, u8s_length, nb_txts, txts_length, mk_bstr, empty_bstr, bytesOf_u8s, bs_size, bs_app, bs_eq, actA, txts_cons, txts_nil, List.length_cons, List.length_nil, txts_takel, drop1, names_len, hx, hx1]))
    apply loop_keep [0, 2, 4, 5, 14, 15] (fun j : { j : Nat // j ≤ 18 } => [(16, iA j.1)]) (fun j => [(nx + 0, some (.obj (actA .zero 1))), (nx + 64, some (.obj (actA ⟨kindU x j.1, 0, 0, []⟩ 1)))]) (fun j => 18 - j.1) ⟨0, Nat.zero_le _⟩
    · simp -dsimp -implicitDefEqProofs only [B0, B1, B2, B3, B4, B5, B6, ↓ordOK_f, ↓ordOK_e, ↓ordCalls_f, ↓brB_tt, ↓brB_ff, ↓brB_tf, ↓brB_ft, ↓reduceIte, condWp, opSem, opSem0, tkOp, Out.tokV, retok1, constAV, binSem, unSem, intOp, strOp, loadSem, storeSem, fieldAddrSem, indexAddrSem, fieldSem, indexSem, lenSem, buildSem, buildSliceSem, appendSem, srcA, convSem, sliceSem, bndA, slTok, makeSliceSem, copySem, Res.obj?, cmpOK, cmpParts, tplace, Nat.reduceEqDiff, Nat.reduceAdd, Nat.reduceMul, Nat.reduceLeDiff, Nat.reduceLT, Nat.reduceBEq, Nat.reducePow, Int.reduceToNat, Int.reduceLE, Int.reduceLT, Int.reduceNeg, reduceCtorEq, cxP, ne_eq, forall_eq, forall_eq_or_imp, resOne, resA, implies_true, forall_const, eq_self, Int.reduceEq, Int.reduceAdd, Int.reduceSub, Int.reduceMul, Nat.reduceSub, Nat.le_add_right, Out.fg, fgA, z_k, z_i, z_n, z_d, u8s_nil, txts_gc, nb_u8s, u8s_length, nb_txts, txts_length, mk_bstr, empty_bstr, bytesOf_u8s, bs_size, bs_app, bs_eq, actA, txts_cons, txts_nil, List.length_cons, List.length_nil, txts_takel, drop1, names_len]; rfl
    · simp -dsimp -implicitDefEqProofs only [B0, B1, B2, B3, B4, B5, B6, ↓ordOK_f, ↓ordOK_e, ↓ordCalls_f, ↓brB_tt, ↓brB_ff, ↓brB_tf, ↓brB_ft, ↓reduceIte, condWp, opSem, opSem0, tkOp, Out.tokV, retok1, constAV, binSem, unSem, intOp, strOp, loadSem, storeSem, fieldAddrSem, indexAddrSem, fieldSem, indexSem, lenSem, buildSem, buildSliceSem, appendSem, srcA, convSem, sliceSem, bndA, slTok, makeSliceSem, copySem, Res.obj?, cmpOK, cmpParts, tplace, Nat.reduceEqDiff, Nat.reduceAdd, Nat.reduceMul, Nat.reduceLeDiff, Nat.reduceLT, Nat.reduceBEq, Nat.reducePow, Int.reduceToNat, Int.reduceLE, Int.reduceLT, Int.reduceNeg, reduceCtorEq, cxP, ne_eq, forall_eq, forall_eq_or_imp, resOne, resA, implies_true, forall_const, eq_self, Int.reduceEq, Int.reduceAdd, Int.reduceSub, Int.reduceMul, Nat.reduceSub, Nat.le_add_right, Out.fg, fgA, z_k, z_i, z_n, z_d, u8s_nil, txts_gc, nb_u8s, u8s_length, nb_txts, txts_length, mk_bstr, empty_bstr, bytesOf_u8s, bs_size, bs_app, bs_eq, actA, txts_cons, txts_nil, List.length_cons, List.length_nil, txts_takel, drop1, names_len]; try rfl
    · simp -dsimp -implicitDefEqProofs only [B0, B1, B2, B3, B4, B5, B6, ↓ordOK_f, ↓ordOK_e, ↓ordCalls_f, ↓brB_tt, ↓brB_ff, ↓brB_tf, ↓brB_ft, ↓reduceIte, condWp, opSem, opSem0, tkOp, Out.tokV, retok1, constAV, binSem, unSem, intOp, strOp, loadSem, storeSem, fieldAddrSem, indexAddrSem, fieldSem, indexSem, lenSem, buildSem, buildSliceSem, appendSem, srcA, convSem, sliceSem, bndA, slTok, makeSliceSem, copySem, Res.obj?, cmpOK, cmpParts, tplace, Nat.reduceEqDiff, Nat.reduceAdd, Nat.reduceMul, Nat.reduceLeDiff, Nat.reduceLT, Nat.reduceBEq, Nat.reducePow, Int.reduceToNat, Int.reduceLE, Int.reduceLT, Int.reduceNeg, reduceCtorEq, cxP, ne_eq, forall_eq, forall_eq_or_imp, resOne, resA, implies_true, forall_const, eq_self, Int.reduceEq, Int.reduceAdd, Int.reduceSub, Int.reduceMul, Nat.reduceSub, Nat.le_add_right, Out.fg, fgA, z_k, z_i, z_n, z_d, u8s_nil, txts_gc, nb_u8s, u8s_length, nb_txts, txts_length, mk_bstr, empty_bstr, bytesOf_u8s, bs_size, bs_app, bs_eq, actA, txts_cons, txts_nil, List.length_cons, List.length_nil, txts_takel, drop1, names_len]; rfl
    · intro s
      simp -dsimp -implicitDefEqProofs only [B0, B1, B2, B3, B4, B5, B6, ↓ordOK_f, ↓ordOK_e, ↓ordCalls_f, ↓brB_tt, ↓brB_ff, ↓brB_tf, ↓brB_ft, ↓reduceIte, condWp, opSem, opSem0, tkOp, Out.tokV, retok1, constAV, binSem, unSem, intOp, strOp, loadSem, storeSem, fieldAddrSem, indexAddrSem, fieldSem, indexSem, lenSem, buildSem, buildSliceSem, appendSem, srcA, convSem, sliceSem, bndA, slTok, makeSliceSem, copySem, Res.obj?, cmpOK, cmpParts, tplace, Nat.reduceEqDiff, Nat.reduceAdd, Nat.reduceMul, Nat.reduceLeDiff, Nat.reduceLT, Nat.reduceBEq, Nat.reducePow, Int.reduceToNat, Int.reduceLE, Int.reduceLT, Int.reduceNeg, reduceCtorEq, cxP, ne_eq, forall_eq, forall_eq_or_imp, resOne, resA, implies_true, forall_const, eq_self, Int.reduceEq, Int.reduceAdd, Int.reduceSub, Int.reduceMul, Nat.reduceSub, Nat.le_add_right, Out.fg, fgA, z_k, z_i, z_n, z_d, u8s_nil, txts_gc, nb_u8s, u8s_length, nb_txts, txts_length, mk_bstr, empty_bstr, bytesOf_u8s, bs_size, bs_app, bs_eq, actA, txts_cons, txts_nil, List.length_cons, List.length_nil, txts_takel, drop1, names_len]
      try omega
    · rintro ⟨j, hj⟩
      have hj : j ≤ 18 := hj
      simp -dsimp -implicitDefEqProofs only [B0, B1, B2, B3, B4, B5, B6, ↓ordOK_f, ↓ordOK_e, ↓ordCalls_f, ↓brB_tt, ↓brB_ff, ↓brB_tf, ↓brB_ft, ↓reduceIte, condWp, opSem, opSem0, tkOp, Out.tokV, retok1, constAV, binSem, unSem, intOp, strOp, loadSem, storeSem, fieldAddrSem, indexAddrSem, fieldSem, indexSem, lenSem, buildSem, buildSliceSem, appendSem, srcA, convSem, sliceSem, bndA, slTok, makeSliceSem, copySem, Res.obj?, cmpOK, cmpParts, tplace, Nat.reduceEqDiff, Nat.reduceAdd, Nat.reduceMul, Nat.reduceLeDiff, Nat.reduceLT, Nat.reduceBEq, Nat.reducePow, Int.reduceToNat, Int.reduceLE, Int.reduceLT, Int.reduceNeg, reduceCtorEq, cxP, ne_eq, forall_eq, forall_eq_or_imp, resOne, resA, implies_true, forall_const, eq_self, Int.reduceEq, Int.reduceAdd, Int.reduceSub, Int.reduceMul, Nat.reduceSub, Nat.le_add_right, Out.fg, fgA, t2, t3, t4, t5, t9, t22, t24, t41, t48, z_k, z_i, z_n, z_d, u8s_nil, txts_gc, nb_u8s, u8s_length, nb_txts, txts_length, mk_bstr, empty_bstr, bytesOf_u8s, bs_size, bs_app, bs_eq, actA, txts_cons, txts_nil, List.length_cons, List.length_nil, txts_takel, drop1, names_len]
      refine brT (fun h => ?_) (fun h => ?_)
      · have hg := txts_get (l := namesL) (i := j) (by rw [names_len]; omega)
        have w1 : IntKind.i64.wrap ((j : Int) + 1) = ((j + 1 : Nat) : Int) := wrapI (by omega) (by omega)
        by_cases h0 : 0 < j
        · have h0' : 0 < (j : Int) := by omega
          by_cases he : namesL.getD j [] = x
          · have hk : kindU x (j + 1) = j := by rw [kindU, if_pos ⟨h0, he⟩]
            repeat' (first | omega | assumption | refine brF (fun _ => ?_) (fun _ => ?_) | refine brT (fun _ => ?_) (fun _ => ?_) | refine brVF (fun _ => ?_) (fun _ => ?_) | refine brVT (fun _ => ?_) (fun _ => ?_) | (with_reducible refine And.intro ?_ ?_) | (simp -dsimp -implicitDefEqProofs only [B0, B1, B2, B3, B4, B5, B6, ↓ordOK_f, ↓ordOK_e, ↓ordCalls_f, ↓brB_tt, ↓brB_ff, ↓brB_tf, ↓brB_ft, ↓reduceIte, condWp, opSem, opSem0, tkOp, Out.tokV, retok1, constAV, binSem, unSem, intOp, strOp, loadSem, storeSem, fieldAddrSem, indexAddrSem, fieldSem, indexSem, lenSem, buildSem, buildSliceSem, appendSem, srcA, convSem, sliceSem, bndA, slTok, makeSliceSem, copySem, Res.obj?, cmpOK, cmpParts, tplace, Nat.reduceEqDiff, Nat.reduceAdd, Nat.reduceMul, Nat.reduceLeDiff, Nat.reduceLT, Nat.reduceBEq, Nat.reducePow, Int.reduceToNat, Int.reduceLE, Int.reduceLT, Int.reduceNeg, reduceCtorEq, cxP, ne_eq, forall_eq, forall_eq_or_imp, resOne, resA, implies_true, forall_const, eq_self, Int.reduceEq, Int.reduceAdd, Int.reduceSub, Int.reduceMul, Nat.reduceSub, Nat.le_add_right, Out.fg, fgA, t2, t3, t4, t5, t9, t22, t24, t41, t48, z_k, z_i, z_n, z_d, u8s_nil, txts_gc, nb_u8s, u8s_length, nb_txts, txts_length, mk_bstr, empty_bstr, bytesOf_u8s, bs_size, bs_app, bs_eq, actA, txts_cons, txts_nil, List.length_cons, List.length_nil, txts_takel, drop1, names_len, hg, w1, h0', he]))
            exact ⟨⟨j + 1, by omega⟩, by show 18 - (j + 1) < 18 - j; omega, rfl, by rw [hk]⟩
          · have hk : kindU x (j + 1) = kindU x j := by rw [kindU, if_neg (fun e => he e.2)]
            repeat' (first | omega | assumption | refine brF (fun _ => ?_) (fun _ => ?_) | refine brT (fun _ => ?_) (fun _ => ?_) | refine brVF (fun _ => ?_) (fun _ => ?_) | refine brVT (fun _ => ?_) (fun _ => ?_) | (with_reducible refine And.intro ?_ ?_) | (simp -dsimp -implicitDefEqProofs only [B0, B1, B2, B3, B4, B5, B6, ↓ordOK_f, ↓ordOK_e, ↓ordCalls_f, ↓brB_tt, ↓brB_ff, ↓brB_tf, ↓brB_ft, ↓reduceIte, condWp, opSem, opSem0, tkOp, Out.tokV, retok1, constAV, binSem, unSem, intOp, strOp, loadSem, storeSem, fieldAddrSem, indexAddrSem, fieldSem, indexSem, lenSem, buildSem, buildSliceSem, appendSem, srcA, convSem, sliceSem, bndA, slTok, makeSliceSem, copySem, Res.obj?, cmpOK, cmpParts, tplace, Nat.reduceEqDiff, Nat.reduceAdd, Nat.reduceMul, Nat.reduceLeDiff, Nat.reduceLT, Nat.reduceBEq, Nat.reducePow, Int.reduceToNat, Int.reduceLE, Int.reduceLT, Int.reduceNeg, reduceCtorEq, cxP, ne_eq, forall_eq, forall_eq_or_imp, resOne, resA, implies_true, forall_const, eq_self, Int.reduceEq, Int.reduceAdd, Int.reduceSub, Int.reduceMul, Nat.reduceSub, Nat.le_add_right, Out.fg, fgA, t2, t3, t4, t5, t9, t22, t24, t41, t48, z_k, z_i, z_n, z_d, u8s_nil, txts_gc, nb_u8s, u8s_length, nb_txts, txts_length, mk_bstr, empty_bstr, bytesOf_u8s, bs_size, bs_app, bs_eq, actA, txts_cons, txts_nil, List.length_cons, List.length_nil, txts_takel, drop1, names_len, hg, w1, h0', he]))
            exact ⟨⟨j + 1, by omega⟩, by show 18 - (j + 1) < 18 - j; omega, rfl, by rw [hk]⟩
        · have h0' : ¬ 0 < (j : Int) := by omega
          have hk : kindU x (j + 1) = kindU x j := by rw [kindU, if_neg (fun e => h0 e.1)]
          repeat' (first | omega | assumption | refine brF (fun _ => ?_) (fun _ => ?_) | refine brT (fun _ => ?_) (fun _ => ?_) | refine brVF (fun _ => ?_) (fun _ => ?_) | refine brVT (fun _ => ?_) (fun _ => ?_) | (with_reducible refine And.intro ?_ ?_) | (simp -dsimp -implicitDefEqProofs only [B0, B1, B2, B3, B4, B5, B6, ↓ordOK_f, ↓ordOK_e, ↓ordCalls_f, ↓brB_tt, ↓brB_ff, ↓brB_tf, ↓brB_ft, ↓reduceIte, condWp, opSem, opSem0, tkOp, Out.tokV, retok1, constAV, binSem, unSem, intOp, strOp, loadSem, storeSem, fieldAddrSem, indexAddrSem, fieldSem, indexSem, lenSem, buildSem, buildSliceSem, appendSem, srcA, convSem, sliceSem, bndA, slTok, makeSliceSem, copySem, Res.obj?, cmpOK, cmpParts, tplace, Nat.reduceEqDiff, Nat.reduceAdd, Nat.reduceMul, Nat.reduceLeDiff, Nat.reduceLT, Nat.reduceBEq, Nat.reducePow, Int.reduceToNat, Int.reduceLE, Int.reduceLT, Int.reduceNeg, reduceCtorEq, cxP, ne_eq, forall_eq, forall_eq_or_imp, resOne, resA, implies_true, forall_const, eq_self, Int.reduceEq, Int.reduceAdd, Int.reduceSub, Int.reduceMul, Nat.reduceSub, Nat.le_add_right, Out.fg, fgA, t2, t3, t4, t5, t9, t22, t24, t41, t48, z_k, z_i, z_n, z_d, u8s_nil, txts_gc, nb_u8s, u8s_length, nb_txts, txts_length, mk_bstr, empty_bstr, bytesOf_u8s, bs_size, bs_app, bs_eq, actA, txts_cons, txts_nil, List.length_cons, List.length_nil, txts_takel, drop1, names_len, hg, w1, h0']))
          exact ⟨⟨j + 1, by omega⟩, by show 18 - (j + 1) < 18 - j; omega, rfl, by rw [hk]⟩
      · have e : j = 18 := by omega
        subst e
        by_cases hk0 : kindU x 18 = 0
        · repeat' (first | omega | assumption | refine brF (fun _ => ?_) (fun _ => ?_) | refine brT (fun _ => ?_) (fun _ => ?_) | refine brVF (fun _ => ?_) (fun _ => ?_) | refine brVT (fun _ => ?_) (fun _ => ?_) | (with_reducible refine And.intro ?_ ?_) | (simp -dsimp -implicitDefEqProofs only [B0, B1, B2, B3, B4, B5, B6, ↓ordOK_f, ↓ordOK_e, ↓ordCalls_f, ↓brB_tt, ↓brB_ff, ↓brB_tf, ↓brB_ft, ↓reduceIte, condWp, opSem, opSem0, tkOp, Out.tokV, retok1, constAV, binSem, unSem, intOp, strOp, loadSem, storeSem, fieldAddrSem, indexAddrSem, fieldSem, indexSem, lenSem, buildSem, buildSliceSem, appendSem, srcA, convSem, sliceSem, bndA, slTok, makeSliceSem, copySem, Res.obj?, cmpOK, cmpParts, tplace, Nat.reduceEqDiff, Nat.reduceAdd, Nat.reduceMul, Nat.reduceLeDiff, Nat.reduceLT, Nat.reduceBEq, Nat.reducePow, Int.reduceToNat, Int.reduceLE, Int.reduceLT, Int.reduceNeg, reduceCtorEq, cxP, ne_eq, forall_eq, forall_eq_or_imp, resOne, resA, implies_true, forall_const, eq_self, Int.reduceEq, Int.reduceAdd, Int.reduceSub, Int.reduceMul, Nat.reduceSub, Nat.le_add_right, Out.fg, fgA, t2, t3, t4, t5, t9, t22, t24, t41, t48, z_k, z_i, z_n, z_d, u8s_nil, txts_gc, nb_u8s, u8s_length, nb_txts, txts_length, mk_bstr, empty_bstr, bytesOf_u8s, bs_size, bs_app, bs_eq, actA, txts_cons, txts_nil, List.length_cons, List.length_nil, txts_takel, drop1, names_len, hk0]))
        rcases hF : fillR (kindU x 18) 0 (t, ⟨kindU x 18, 0, 0, []⟩, 1) with _ | ⟨b, tb⟩
        · have hfs : ∀ m, nx + 64 < m → FnSpec Tryd.prog 23 m [.ref (nx + 64) 0 [], .sl 1 (txts t) 0] [(nx + 64, some (.obj (actA ⟨kindU x 18, 0, 0, []⟩ 1)))] (bA false) [(nx + 64, none)] 0 := fun m hm => by
            have := fill_spec m (nx + 64) hm t ⟨kindU x 18, 0, 0, []⟩ hpl htl
            simpa [hF] using this
          repeat' (first | omega | assumption | refine brF (fun _ => ?_) (fun _ => ?_) | refine brT (fun _ => ?_) (fun _ => ?_) | refine brVF (fun _ => ?_) (fun _ => ?_) | refine brVT (fun _ => ?_) (fun _ => ?_) | (with_reducible refine And.intro ?_ ?_) | (refine callK_by (hfs _ (by omega)) ?_) | (simp -dsimp -implicitDefEqProofs only [B0, B1, B2, B3, B4, B5, B6, ↓ordOK_f, ↓ordOK_e, ↓ordCalls_f, ↓brB_tt, ↓brB_ff, ↓brB_tf, ↓brB_ft, ↓reduceIte, condWp, opSem, opSem0, tkOp, Out.tokV, retok1, constAV, binSem, unSem, intOp, strOp, loadSem, storeSem, fieldAddrSem, indexAddrSem, fieldSem, indexSem, lenSem, buildSem, buildSliceSem, appendSem, srcA, convSem, sliceSem, bndA, slTok, makeSliceSem, copySem, Res.obj?, cmpOK, cmpParts, tplace, Nat.reduceEqDiff, Nat.reduceAdd, Nat.reduceMul, Nat.reduceLeDiff, Nat.reduceLT, Nat.reduceBEq, Nat.reducePow, Int.reduceToNat, Int.reduceLE, Int.reduceLT, Int.reduceNeg, reduceCtorEq, cxP, ne_eq, forall_eq, forall_eq_or_imp, resOne, resA, implies_true, forall_const, eq_self, Int.reduceEq, Int.reduceAdd, Int.reduceSub, Int.reduceMul, Nat.reduceSub, Nat.le_add_right, Out.fg, fgA, t2, t3, t4, t5, t9, t22, t24, t41, t48, z_k, z_i, z_n, z_d, u8s_nil, txts_gc, nb_u8s, u8s_length, nb_txts, txts_length, mk_bstr, empty_bstr, bytesOf_u8s, bs_size, bs_app, bs_eq, actA, txts_cons, txts_nil, List.length_cons, List.length_nil, txts_takel, drop1, names_len, hk0]))
        · have hfs : ∀ m, nx + 64 < m → FnSpec Tryd.prog 23 m [.ref (nx + 64) 0 [], .sl 1 (txts t) 0] [(nx + 64, some (.obj (actA ⟨kindU x 18, 0, 0, []⟩ 1)))] (bA true) [(nx + 64, some (.obj (actA b tb)))] 0 := fun m hm => by
            have := fill_spec m (nx + 64) hm t ⟨kindU x 18, 0, 0, []⟩ hpl htl
            simpa [hF] using this
          obtain ⟨hb1, hb2⟩ := fillR_ok hF ⟨hpl, by simp, by show 1 < 2; omega⟩
          have hne : ¬ lineT b = s := fun e => by simp [parseR, hk0, hF, e] at hR
          repeat' (first | omega | assumption | refine brF (fun _ => ?_) (fun _ => ?_) | refine brT (fun _ => ?_) (fun _ => ?_) | refine brVF (fun _ => ?_) (fun _ => ?_) | refine brVT (fun _ => ?_) (fun _ => ?_) | (with_reducible refine And.intro ?_ ?_) | (refine callK_by (hfs _ (by omega)) ?_) | (refine callK_by (line_spec _ tb b hb1 (.inl hb2)) ?_) | (simp -dsimp -implicitDefEqProofs only [B0, B1, B2, B3, B4, B5, B6, ↓ordOK_f, ↓ordOK_e, ↓ordCalls_f, ↓brB_tt, ↓brB_ff, ↓brB_tf, ↓brB_ft, ↓reduceIte, condWp, opSem, opSem0, tkOp, Out.tokV, retok1, constAV, binSem, unSem, intOp, strOp, loadSem, storeSem, fieldAddrSem, indexAddrSem, fieldSem, indexSem, lenSem, buildSem, buildSliceSem, appendSem, srcA, convSem, sliceSem, bndA, slTok, makeSliceSem, copySem, Res.obj?, cmpOK, cmpParts, tplace, Nat.reduceEqDiff, Nat.reduceAdd, Nat.reduceMul, Nat.reduceLeDiff, Nat.reduceLT, Nat.reduceBEq, Nat.reducePow, Int.reduceToNat, Int.reduceLE, Int.reduceLT, Int.reduceNeg, reduceCtorEq, cxP, ne_eq, forall_eq, forall_eq_or_imp, resOne, resA, implies_true, forall_const, eq_self, Int.reduceEq, Int.reduceAdd, Int.reduceSub, Int.reduceMul, Nat.reduceSub, Nat.le_add_right, Out.fg, fgA, t2, t3, t4, t5, t9, t22, t24, t41, t48, z_k, z_i, z_n, z_d, u8s_nil, txts_gc, nb_u8s, u8s_length, nb_txts, txts_length, mk_bstr, empty_bstr, bytesOf_u8s, bs_size, bs_app, bs_eq, actA, txts_cons, txts_nil, List.length_cons, List.length_nil, txts_takel, drop1, names_len, hk0, hne]))
  · simp only
    refine FnSpec.of_code (cx := cx) (an := {}) (rs := [.cell 2 24, .tmp 3]) mo Tryd.func9 rfl rfl (by kernel_rfl) (by kernel_rfl) (by show 1 ≤ _; decide) (.inr ⟨_, rfl, by simp [AV.good, actA]⟩) (by simp [allWr, keys, Res.wr]) ?_
    repeat' (first | omega | assumption | refine brF (fun _ => ?_) (fun _ => ?_) | refine brT (fun _ => ?_) (fun _ => ?_) | refine brVF (fun _ => ?_) (fun _ => ?_) | refine brVT (fun _ => ?_) (fun _ => ?_) | (with_reducible refine And.intro ?_ ?_) | (refine callK_by (split_spec _ s 32 hs) ?_) | (refine callK_by (names_spec _) ?_) | (simp -dsimp -implicitDefEqProofs only [B0, B1, B2, B3, B4, B5, B6, ↓ordOK_f, ↓ordOK_e, ↓ordCalls_f, ↓brB_tt, ↓brB_ff, ↓brB_tf, ↓brB_ft, ↓reduceIte, condWp, opSem, opSem0, tkOp, Out.tokV, retok1, constAV, binSem, unSem, intOp, strOp, loadSem, storeSem, fieldAddrSem, indexAddrSem, fieldSem, indexSem, lenSem, buildSem, buildSliceSem, appendSem, srcA, convSem, sliceSem, bndA, slTok, makeSliceSem, copySem, Res.obj?, cmpOK, cmpParts, tplace, Nat.reduceEqDiff, Nat.reduceAdd, Nat.reduceMul, Nat.reduceLeDiff, Nat.reduceLT, Nat.reduceBEq, Nat.reducePow, Int.reduceToNat, Int.reduceLE, Int.reduceLT, Int.reduceNeg, reduceCtorEq, cxP, ne_eq, forall_eq, forall_eq_or_imp, resOne, resA, implies_true, forall_const, eq_self, Int.reduceEq, Int.reduceAdd, Int.reduceSub, Int.reduceMul, Nat.reduceSub, Nat.le_add_right, Out.fg, fgA, t2, t3, t4, t5, t9, t22, t24, t41, t48, z_k, z_i, z_n, z_d, u8s_nil, txts_gc, nb_u8s, u8s_length, nb_txts, txts_length, mk_bstr, empty_bstr, bytesOf_u8s, bs_size, bs_app, bs_eq, actA, txts_cons, txts_nil, List.length_cons, List.length_nil, txts_takel, drop1, names_len, hx, hx1]))
    apply loop_keep [0, 2, 4, 5, 14, 15] (fun j : { j : Nat // j ≤ 18 } => [(16, iA j.1)]) (fun j => [(nx + 0, some (.obj (actA .zero 1))), (nx + 64, some (.obj (actA ⟨kindU x j.1, 0, 0, []⟩ 1)))]) (fun j => 18 - j.1) ⟨0, Nat.zero_le _⟩
    · simp -dsimp -implicitDefEqProofs only [B0, B1, B2, B3, B4, B5, B6, ↓ordOK_f, ↓ordOK_e, ↓ordCalls_f, ↓brB_tt, ↓brB_ff, ↓brB_tf, ↓brB_ft, ↓reduceIte, condWp, opSem, opSem0, tkOp, Out.tokV, retok1, constAV, binSem, unSem, intOp, strOp, loadSem, storeSem, fieldAddrSem, indexAddrSem, fieldSem, indexSem, lenSem, buildSem, buildSliceSem, appendSem, srcA, convSem, sliceSem, bndA, slTok, makeSliceSem, copySem, Res.obj?, cmpOK, cmpParts, tplace, Nat.reduceEqDiff, Nat.reduceAdd, Nat.reduceMul, Nat.reduceLeDiff, Nat.reduceLT, Nat.reduceBEq, Nat.reducePow, Int.reduceToNat, Int.reduceLE, Int.reduceLT, Int.reduceNeg, reduceCtorEq, cxP, ne_eq, forall_eq, forall_eq_or_imp, resOne, resA, implies_true, forall_const, eq_self, Int.reduceEq, Int.reduceAdd, Int.reduceSub, Int.reduceMul, Nat.reduceSub, Nat.le_add_right, Out.fg, fgA, z_k, z_i, z_n, z_d, u8s_nil, txts_gc, nb_u8s, u8s_length, nb_txts, txts_length, mk_bstr, empty_bstr, bytesOf_u8s, bs_size, bs_app, bs_eq, actA, txts_cons, txts_nil, List.length_cons, List.length_nil, txts_takel, drop1, names_len]; rfl
    · simp -dsimp -implicitDefEqProofs only [B0, B1, B2, B3, B4, B5, B6, ↓ordOK_f, ↓ordOK_e, ↓ordCalls_f, ↓brB_tt, ↓brB_ff, ↓brB_tf, ↓brB_ft, ↓reduceIte, condWp, opSem, opSem0, tkOp, Out.tokV, retok1, constAV, binSem, unSem, intOp, strOp, loadSem, storeSem, fieldAddrSem, indexAddrSem, fieldSem, indexSem, lenSem, buildSem, buildSliceSem, appendSem, srcA, convSem, sliceSem, bndA, slTok, makeSliceSem, copySem, Res.obj?, cmpOK, cmpParts, tplace, Nat.reduceEqDiff, Nat.reduceAdd, Nat.reduceMul, Nat.reduceLeDiff, Nat.reduceLT, Nat.reduceBEq, Nat.reducePow, Int.reduceToNat, Int.reduceLE, Int.reduceLT, Int.reduceNeg, reduceCtorEq, cxP, ne_eq, forall_eq, forall_eq_or_imp, resOne, resA, implies_true, forall_const, eq_self, Int.reduceEq, Int.reduceAdd, Int.reduceSub, Int.reduceMul, Nat.reduceSub, Nat.le_add_right, Out.fg, fgA, z_k, z_i, z_n, z_d, u8s_nil, txts_gc, nb_u8s, u8s_length, nb_txts, txts_length, mk_bstr, empty_bstr, bytesOf_u8s, bs_size, bs_app, bs_eq, actA, txts_cons, txts_nil, List.length_cons, List.length_nil, txts_takel, drop1, names_len]; try rfl
    · simp -dsimp -implicitDefEqProofs only [B0, B1, B2, B3, B4, B5, B6, ↓ordOK_f, ↓ordOK_e, ↓ordCalls_f, ↓brB_tt, ↓brB_ff, ↓brB_tf, ↓brB_ft, ↓reduceIte, condWp, opSem, opSem0, tkOp, Out.tokV, retok1, constAV, binSem, unSem, intOp, strOp, loadSem, storeSem, fieldAddrSem, indexAddrSem, fieldSem, indexSem, lenSem, buildSem, buildSliceSem, appendSem, srcA, convSem, sliceSem, bndA, slTok, makeSliceSem, copySem, Res.obj?, cmpOK, cmpParts, tplace, Nat.reduceEqDiff, Nat.reduceAdd, Nat.reduceMul, Nat.reduceLeDiff, Nat.reduceLT, Nat.reduceBEq, Nat.reducePow, Int.reduceToNat, Int.reduceLE, Int.reduceLT, Int.reduceNeg, reduceCtorEq, cxP, ne_eq, forall_eq, forall_eq_or_imp, resOne, resA, implies_true, forall_const, eq_self, Int.reduceEq, Int.reduceAdd, Int.reduceSub, Int.reduceMul, Nat.reduceSub, Nat.le_add_right, Out.fg, fgA, z_k, z_i, z_n, z_d, u8s_nil, txts_gc, nb_u8s, u8s_length, nb_txts, txts_length, mk_bstr, empty_bstr, bytesOf_u8s, bs_size, bs_app, bs_eq, actA, txts_cons, txts_nil, List.length_cons, List.length_nil, txts_takel, drop1, names_len]; rfl
    · intro s
      simp -dsimp -implicitDefEqProofs only [B0, B1, B2, B3, B4, B5, B6, ↓ordOK_f, ↓ordOK_e, ↓ordCalls_f, ↓brB_tt, ↓brB_ff, ↓brB_tf, ↓brB_ft, ↓reduceIte, condWp, opSem, opSem0, tkOp, Out.tokV, retok1, constAV, binSem, unSem, intOp, strOp, loadSem, storeSem, fieldAddrSem, indexAddrSem, fieldSem, indexSem, lenSem, buildSem, buildSliceSem, appendSem, srcA, convSem, sliceSem, bndA, slTok, makeSliceSem, copySem, Res.obj?, cmpOK, cmpParts, tplace, Nat.reduceEqDiff, Nat.reduceAdd, Nat.reduceMul, Nat.reduceLeDiff, Nat.reduceLT, Nat.reduceBEq, Nat.reducePow, Int.reduceToNat, Int.reduceLE, Int.reduceLT, Int.reduceNeg, reduceCtorEq, cxP, ne_eq, forall_eq, forall_eq_or_imp, resOne, resA, implies_true, forall_const, eq_self, Int.reduceEq, Int.reduceAdd, Int.reduceSub, Int.reduceMul, Nat.reduceSub, Nat.le_add_right, Out.fg, fgA, z_k, z_i, z_n, z_d, u8s_nil, txts_gc, nb_u8s, u8s_length, nb_txts, txts_length, mk_bstr, empty_bstr, bytesOf_u8s, bs_size, bs_app, bs_eq, actA, txts_cons, txts_nil, List.length_cons, List.length_nil, txts_takel, drop1, names_len]
      try omega
    · rintro ⟨j, hj⟩
      have hj : j ≤ 18 := hj
      simp -dsimp -implicitDefEqProofs only [B0, B1, B2, B3, B4, B5, B6, ↓ordOK_f, ↓ordOK_e, ↓ordCalls_f, ↓brB_tt, ↓brB_ff, ↓brB_tf, ↓brB_ft, ↓reduceIte, condWp, opSem, opSem0, tkOp, Out.tokV, retok1, constAV, binSem, unSem, intOp, strOp, loadSem, storeSem, fieldAddrSem, indexAddrSem, fieldSem, indexSem, lenSem, buildSem, buildSliceSem, appendSem, srcA, convSem, sliceSem, bndA, slTok, makeSliceSem, copySem, Res.obj?, cmpOK, cmpParts, tplace, Nat.reduceEqDiff, Nat.reduceAdd, Nat.reduceMul, Nat.reduceLeDiff, Nat.reduceLT, Nat.reduceBEq, Nat.reducePow, Int.reduceToNat, Int.reduceLE, Int.reduceLT, Int.reduceNeg, reduceCtorEq, cxP, ne_eq, forall_eq, forall_eq_or_imp, resOne, resA, implies_true, forall_const, eq_self, Int.reduceEq, Int.reduceAdd, Int.reduceSub, Int.reduceMul, Nat.reduceSub, Nat.le_add_right, Out.fg, fgA, t2, t3, t4, t5, t9, t22, t24, t41, t48, z_k, z_i, z_n, z_d, u8s_nil, txts_gc, nb_u8s, u8s_length, nb_txts, txts_length, mk_bstr, empty_bstr, bytesOf_u8s, bs_size, bs_app, bs_eq, actA, txts_cons, txts_nil, List.length_cons, List.length_nil, txts_takel, drop1, names_len]
      refine brT (fun h => ?_) (fun h => ?_)
      · have hg := txts_get (l := namesL) (i := j) (by rw [names_len]; omega)
        have w1 : IntKind.i64.wrap ((j : Int) + 1) = ((j + 1 : Nat) : Int) := wrapI (by omega) (by omega)
        by_cases h0 : 0 < j
        · have h0' : 0 < (j : Int) := by omega
          by_cases he : namesL.getD j [] = x
          · have hk : kindU x (j + 1) = j := by rw [kindU, if_pos ⟨h0, he⟩]
            repeat' (first | omega | assumption | refine brF (fun _ => ?_) (fun _ => ?_) | refine brT (fun _ => ?_) (fun _ => ?_) | refine brVF (fun _ => ?_) (fun _ => ?_) | refine brVT (fun _ => ?_) (fun _ => ?_) | (with_reducible refine And.intro ?_ ?_) | (simp -dsimp -implicitDefEqProofs only [B0, B1, B2, B3, B4, B5, B6, ↓ordOK_f, ↓ordOK_e, ↓ordCalls_f, ↓brB_tt, ↓brB_ff, ↓brB_tf, ↓brB_ft, ↓reduceIte, condWp, opSem, opSem0, tkOp, Out.tokV, retok1, constAV, binSem, unSem, intOp, strOp, loadSem, storeSem, fieldAddrSem, indexAddrSem, fieldSem, indexSem, lenSem, buildSem, buildSliceSem, appendSem, srcA, convSem, sliceSem, bndA, slTok, makeSliceSem, copySem, Res.obj?, cmpOK, cmpParts, tplace, Nat.reduceEqDiff, Nat.reduceAdd, Nat.reduceMul, Nat.reduceLeDiff, Nat.reduceLT, Nat.reduceBEq, Nat.reducePow, Int.reduceToNat, Int.reduceLE, Int.reduceLT, Int.reduceNeg, reduceCtorEq, cxP, ne_eq, forall_eq, forall_eq_or_imp, resOne, resA, implies_true, forall_const, eq_self, Int.reduceEq, Int.reduceAdd, Int.reduceSub, Int.reduceMul, Nat.reduceSub, Nat.le_add_right, Out.fg, fgA, t2, t3, t4, t5, t9, t22, t24, t41, t48, z_k, z_i, z_n, z_d, u8s_nil, txts_gc, nb_u8s, u8s_length, nb_txts, txts_length, mk_bstr, empty_bstr, bytesOf_u8s, bs_size, bs_app, bs_eq, actA, txts_cons, txts_nil, List.length_cons, List.length_nil, txts_takel, drop1, names_len, hg, w1, h0', he]))
            exact ⟨⟨j + 1, by omega⟩, by show 18 - (j + 1) < 18 - j; omega, rfl, by rw [hk]⟩
          · have hk : kindU x (j + 1) = kindU x j := by rw [kindU, if_neg (fun e => he e.2)]
            repeat' (first | omega | assumption | refine brF (fun _ => ?_) (fun _ => ?_) | refine brT (fun _ => ?_) (fun _ => ?_) | refine brVF (fun _ => ?_) (fun _ => ?_) | refine brVT (fun _ => ?_) (fun _ => ?_) | (with_reducible refine And.intro ?_ ?_) | (simp -dsimp -implicitDefEqProofs only [B0, B1, B2, B3, B4, B5, B6, ↓ordOK_f, ↓ordOK_e, ↓ordCalls_f, ↓brB_tt, ↓brB_ff, ↓brB_tf, ↓brB_ft, ↓reduceIte, condWp, opSem, opSem0, tkOp, Out.tokV, retok1, constAV, binSem, unSem, intOp, strOp, loadSem, storeSem, fieldAddrSem, indexAddrSem, fieldSem, indexSem, lenSem, buildSem, buildSliceSem, appendSem, srcA, convSem, sliceSem, bndA, slTok, makeSliceSem, copySem, Res.obj?, cmpOK, cmpParts, tplace, Nat.reduceEqDiff, Nat.reduceAdd, Nat.reduceMul, Nat.reduceLeDiff, Nat.reduceLT, Nat.reduceBEq, Nat.reducePow, Int.reduceToNat, Int.reduceLE, Int.reduceLT, Int.reduceNeg, reduceCtorEq, cxP, ne_eq, forall_eq, forall_eq_or_imp, resOne, resA, implies_true, forall_const, eq_self, Int.reduceEq, Int.reduceAdd, Int.reduceSub, Int.reduceMul, Nat.reduceSub, Nat.le_add_right, Out.fg, fgA, t2, t3, t4, t5, t9, t22, t24, t41, t48, z_k, z_i, z_n, z_d, u8s_nil, txts_gc, nb_u8s, u8s_length, nb_txts, txts_length, mk_bstr, empty_bstr, bytesOf_u8s, bs_size, bs_app, bs_eq, actA, txts_cons, txts_nil, List.length_cons, List.length_nil, txts_takel, drop1, names_len, hg, w1, h0', he]))
            exact ⟨⟨j + 1, by omega⟩, by show 18 - (j + 1) < 18 - j; omega, rfl, by rw [hk]⟩
        · have h0' : ¬ 0 < (j : Int) := by omega
          have hk : kindU x (j + 1) = kindU x j := by rw [kindU, if_neg (fun e => h0 e.1)]
          repeat' (first | omega | assumption | refine brF (fun _ => ?_) (fun _ => ?_) | refine brT (fun _ => ?_) (fun _ => ?_) | refine brVF (fun _ => ?_) (fun _ => ?_) | refine brVT (fun _ => ?_) (fun _ => ?_) | (with_reducible refine And.intro ?_ ?_) | (simp -dsimp -implicitDefEqProofs only [B0, B1, B2, B3, B4, B5, B6, ↓ordOK_f, ↓ordOK_e, ↓ordCalls_f, ↓brB_tt, ↓brB_ff, ↓brB_tf, ↓brB_ft, ↓reduceIte, condWp, opSem, opSem0, tkOp, Out.tokV, retok1, constAV, binSem, unSem, intOp, strOp, loadSem, storeSem, fieldAddrSem, indexAddrSem, fieldSem, indexSem, lenSem, buildSem, buildSliceSem, appendSem, srcA, convSem, sliceSem, bndA, slTok, makeSliceSem, copySem, Res.obj?, cmpOK, cmpParts, tplace, Nat.reduceEqDiff, Nat.reduceAdd, Nat.reduceMul, Nat.reduceLeDiff, Nat.reduceLT, Nat.reduceBEq, Nat.reducePow, Int.reduceToNat, Int.reduceLE, Int.reduceLT, Int.reduceNeg, reduceCtorEq, cxP, ne_eq, forall_eq, forall_eq_or_imp, resOne, resA, implies_true, forall_const, eq_self, Int.reduceEq, Int.reduceAdd, Int.reduceSub, Int.reduceMul, Nat.reduceSub, Nat.le_add_right, Out.fg, fgA, t2, t3, t4, t5, t9, t22, t24, t41, t48, z_k, z_i, z_n, z_d, u8s_nil, txts_gc, nb_u8s, u8s_length, nb_txts, txts_length, mk_bstr, empty_bstr, bytesOf_u8s, bs_size, bs_app, bs_eq, actA, txts_cons, txts_nil, List.length_cons, List.length_nil, txts_takel, drop1, names_len, hg, w1, h0']))
          exact ⟨⟨j + 1, by omega⟩, by show 18 - (j + 1) < 18 - j; omega, rfl, by rw [hk]⟩
      · have e : j = 18 := by omega
        subst e
        by_cases hk0 : kindU x 18 = 0
        · exfalso; simp [parseR, hk0] at hR
        rcases hF : fillR (kindU x 18) 0 (t, ⟨kindU x 18, 0, 0, []⟩, 1) with _ | ⟨b, tb⟩
        · exfalso; simp [parseR, hk0, hF] at hR
        · have hfs : ∀ m, nx + 64 < m → FnSpec Tryd.prog 23 m [.ref (nx + 64) 0 [], .sl 1 (txts t) 0] [(nx + 64, some (.obj (actA ⟨kindU x 18, 0, 0, []⟩ 1)))] (bA true) [(nx + 64, some (.obj (actA b tb)))] 0 := fun m hm => by
            have := fill_spec m (nx + 64) hm t ⟨kindU x 18, 0, 0, []⟩ hpl htl
            simpa [hF] using this
          obtain ⟨hb1, hb2⟩ := fillR_ok hF ⟨hpl, by simp, by show 1 < 2; omega⟩
          have hne : lineT b = s := Classical.byContradiction fun e => by simp [parseR, hk0, hF, e] at hR
          have hbe : b = a' ∧ tb = tok' := by simpa [parseR, hk0, hF, hne] using hR
          obtain ⟨rfl, rfl⟩ := hbe
          repeat' (first | omega | assumption | refine brF (fun _ => ?_) (fun _ => ?_) | refine brT (fun _ => ?_) (fun _ => ?_) | refine brVF (fun _ => ?_) (fun _ => ?_) | refine brVT (fun _ => ?_) (fun _ => ?_) | (with_reducible refine And.intro ?_ ?_) | (refine callK_by (hfs _ (by omega)) ?_) | (refine callK_by (line_spec _ tb b hb1 (.inl hb2)) ?_) | (simp -dsimp -implicitDefEqProofs only [B0, B1, B2, B3, B4, B5, B6, ↓ordOK_f, ↓ordOK_e, ↓ordCalls_f, ↓brB_tt, ↓brB_ff, ↓brB_tf, ↓brB_ft, ↓reduceIte, condWp, opSem, opSem0, tkOp, Out.tokV, retok1, constAV, binSem, unSem, intOp, strOp, loadSem, storeSem, fieldAddrSem, indexAddrSem, fieldSem, indexSem, lenSem, buildSem, buildSliceSem, appendSem, srcA, convSem, sliceSem, bndA, slTok, makeSliceSem, copySem, Res.obj?, cmpOK, cmpParts, tplace, Nat.reduceEqDiff, Nat.reduceAdd, Nat.reduceMul, Nat.reduceLeDiff, Nat.reduceLT, Nat.reduceBEq, Nat.reducePow, Int.reduceToNat, Int.reduceLE, Int.reduceLT, Int.reduceNeg, reduceCtorEq, cxP, ne_eq, forall_eq, forall_eq_or_imp, resOne, resA, implies_true, forall_const, eq_self, Int.reduceEq, Int.reduceAdd, Int.reduceSub, Int.reduceMul, Nat.reduceSub, Nat.le_add_right, Out.fg, fgA, t2, t3, t4, t5, t9, t22, t24, t41, t48, z_k, z_i, z_n, z_d, u8s_nil, txts_gc, nb_u8s, u8s_length, nb_txts, txts_length, mk_bstr, empty_bstr, bytesOf_u8s, bs_size, bs_app, bs_eq, actA, txts_cons, txts_nil, List.length_cons, List.length_nil, txts_takel, drop1, names_len, hk0, hne]))

theorem parse_spec (nx : Nat) (s : List UInt8) (hs : s.length < 2 ^ 40) : FnSpec Tryd.prog 9 nx [txt s] [] (.tup [actA (parseT s).1 0, iA (parseT s).2]) [] 0 := by
  have hle : ∀ (a : Act_) (tok : Nat) (e : Int), outLe (.tup [actA a tok, iA e]) (.tup [actA a 0, iA e]) := fun a tok e =>
    AV.les_cons (show AV.le (.agg 4 _) _ from ⟨_, rfl, AV.les_cons rfl (AV.les_cons rfl (AV.les_cons rfl (AV.les_cons AV.le_tok rfl)))⟩) (AV.les_refl _)
  by_cases hl : 131088 < s.length
  · rw [parseT, if_pos hl]
    have hl' : 131088 < (s.length : Int) := by omega
    refine FnSpec.outle (av := .tup [actA .zero 1, iA 3]) ?_ (hle _ _ _)
    refine FnSpec.of_code (cx := cx) (an := {}) (rs := [.cell 2 24, .tmp 3]) mo Tryd.func9 rfl rfl (by kernel_rfl) (by kernel_rfl) (by show 1 ≤ _; decide) (.inr ⟨_, rfl, by simp [AV.good, actA]⟩) (by simp [allWr, keys, Res.wr]) ?_
    repeat' (first | omega | assumption | refine brF (fun _ => ?_) (fun _ => ?_) | refine brT (fun _ => ?_) (fun _ => ?_) | refine brVF (fun _ => ?_) (fun _ => ?_) | refine brVT (fun _ => ?_) (fun _ => ?_) | (with_reducible refine And.intro ?_ ?_) | (simp -dsimp -implicitDefEqProofs only [B0, B1, B2, B3, B4, B5, B6, ↓ordOK_f, ↓ordOK_e, ↓ordCalls_f, ↓brB_tt, ↓brB_ff, ↓brB_tf, ↓brB_ft, ↓reduceIte, condWp, opSem, opSem0, tkOp, Out.tokV, retok1, constAV, binSem, unSem, intOp, strOp, loadSem, storeSem, fieldAddrSem, indexAddrSem, fieldSem, indexSem, lenSem, buildSem, buildSliceSem, appendSem, srcA, convSem, sliceSem, bndA, slTok, makeSliceSem, copySem, Res.obj?, cmpOK, cmpParts, tplace, Nat.reduceEqDiff, Nat.reduceAdd, Nat.reduceMul, Nat.reduceLeDiff, Nat.reduceLT, Nat.reduceBEq, Nat.reducePow, Int.reduceToNat, Int.reduceLE, Int.reduceLT, Int.reduceNeg, reduceCtorEq, cxP, ne_eq, forall_eq, forall_eq_or_imp, resOne, resA, implies_true, forall_const, eq_self, Int.reduceEq, Int.reduceAdd, Int.reduceSub, Int.reduceMul, Nat.reduceSub, Nat.le_add_right, Out.fg, fgA, t2, t3, t4, t5, t9, t22, t24, t41, t48, z_k, z_i, z_n, z_d, u8s_nil, txts_gc, nb_u8s, u8s_length, nb_txts, txts_length, mk_bstr, empty_bstr, bytesOf_u8s, bs_size, bs_app, bs_eq, actA, txts_cons, txts_nil, List.length_cons, List.length_nil, txts_takel, drop1, names_len, hl']))
  · rw [parseT, if_neg hl]
    obtain ⟨x, t, hx⟩ : ∃ x t, splitC 32 s = x :: t := by
      cases h : splitC 32 s with
      | nil => exact absurd h (splitC_ne 32 s)
      | cons x t => exact ⟨x, t, rfl⟩
    have h := parse_raw nx s x t hs hx hl
    rw [hx]
    simp only [List.headD_cons, List.tail_cons]
    rcases hR : parseR s x t with _ | ⟨a', tok'⟩
    · rw [hR] at h; exact h.outle (hle _ _ _)
    · rw [hR] at h; exact h.outle (hle _ _ _)
end Go.Proofs.YtdkcobnhcpgpaaaDoor

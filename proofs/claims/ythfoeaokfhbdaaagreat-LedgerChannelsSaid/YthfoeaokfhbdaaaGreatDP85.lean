/-
  The example comes to what it says; the law LedgerNobody.
-/
import Derived.Test.YthfoeaokfhbdaaaGreatDP84
set_option linter.unusedSimpArgs false
set_option linter.unusedVariables false
set_option maxRecDepth 100000
set_option maxHeartbeats 4000000
namespace Go.Proofs.YthfoeaokfhbdaaaGreat
open Go Go.AL Go.Proofs.YthfoeaokfhbdaaaGreat.T
attribute [local go_sem] nb_u8s u8s_length nb_sum List.length_replicate zero_sum sum_h u8s_nil txA_good txA_csz txA_agg nb_tx sum_csz sum_agg sumA_good nb_ref refA_good refA_agg refA_csz outA_good outA_agg outA_csz nb_out1 nb_outs
theorem spSign (nx : Nat) :
    FnSpec Tryz.prog 8 nx [.agg 40 [.sl 35 [.agg 35 [.agg 33 [sumA id1, n64 0], n64 0, .sl 1 [] 1]] 1, .sl 2 [outA (toO 2 4)] 1, .agg 37 [n64 0, n64 0, n64 0, n64 0, sumA zeroS, .sl 1 [] 1], .sl 33 [] 1], .sl 1 [n64 1] 1] [] (txA (sp [toO 2 4])) [] 0 := by
  have h := signed_spec nx 1 (tx1 [toO 2 4]) 1 rfl (sp_b [toO 2 4] (by have := outL_to 2 4; simp only [List.flatMap_cons, List.flatMap_nil, List.append_nil]; omega)) (toO_keys 2 4 _ rfl) (.inl (by decide))
  refine h.le ?_
  refine ⟨_, _, rfl, ⟨_, rfl, _, _, rfl, ⟨_, _, rfl, ?_, .inr (.inl rfl)⟩, _, _, rfl, ⟨_, _, rfl, AV.les_refl _, .inr (.inl rfl)⟩, _, _, rfl, ⟨_, rfl, ?_⟩, AV.les_refl _⟩, AV.les_refl _⟩
  · exact ⟨_, _, rfl, ⟨_, rfl, _, _, rfl, AV.le_refl _, _, _, rfl, AV.le_refl _, _, _, rfl, ⟨_, _, rfl, AV.les_refl _, .inr (.inl rfl)⟩, rfl⟩, rfl⟩
  · exact ⟨_, _, rfl, AV.le_refl _, _, _, rfl, AV.le_refl _, _, _, rfl, AV.le_refl _, _, _, rfl, AV.le_refl _, _, _, rfl, AV.le_refl _, _, _, rfl, ⟨_, _, rfl, AV.les_refl _, .inr (.inl rfl)⟩, rfl⟩
theorem new1_spec (nx : Nat) : FnSpec Tryz.prog 68 nx [.sl 2 [outA (toO 1 5)] 1] [] (.tup [.ref (newN (nx + 88)).l 0 [], sumA id1, n64 0]) (ledH (newN (nx + 88)) x0) 4000 := by
  have h := newOk_spec nx 1 [toO 1 5] newE_1 (by simp) (fun o ho => by simp at ho; subst ho; exact ⟨by simp [toO], fun w hw => by simp [toO] at hw; subst hw; simp⟩) (by
    have h1 := numI_len ((1 : Nat) : Int)
    have h5 := numI_len ((0 : Nat) : Int)
    have h3 := outL_to 1 5
    have h4 := opL_le opZ
    simp only [opZ, List.length_nil] at h4
    simp only [bodyL, txO, opZ, List.flatMap_cons, List.flatMap_nil, List.append_nil, List.length_append, List.length_cons, List.length_nil, Nat.zero_add]
    omega) (.inl (by decide))
  rw [newS_1] at h
  exact h
theorem newN_add (N : Nat) : newN (N + 88) = ⟨N + 128, N + 168, N + 152, N + 216, N + 192, N + 200, N + 104, N + 112, N + 121⟩ := rfl
theorem ap1_spec (nx : Nat) (n : LN) (hn : n.ok nx) : FnSpec Tryz.prog 12 nx [.ref n.l 0 [], txA (sp [toO 2 4]), n64 1] (ledI n x0) (n64 0) (ledH (apN (nx + 408) n) x1) 3000 :=
  applyOk_spec nx n x0 (sp [toO 2 4]) 1 hn (sp_ok _ (.inl rfl)) (sp_B _ (.inl rfl)) (by decide) (by decide) x0_co (by show 1 < 2 ^ 40; decide) (x0_done _ id2_ne) 5 (sp_ins _) 0 0 [] [] (eff_none _ _ _ rfl) 5 (by decide) 1 (by show subF 5 [0, 4] = (1, 0); decide)
theorem lawake_spec (nx : Nat) : FnSpec Tryz.prog 18 nx [] [] (bA true) [] 0 := by
  have hto := fun nc k a => to_spec nc k a
  have hn0 := fun nc (q : nx + 400 ≤ nc) => (newN_ok (N := nx + 96 + 88) (nx := nc) (by omega))
  have h1 := ap1_spec (nx + 4400) (newN (nx + 96 + 88)) (hn0 _ (by omega))
  have hn1 := fun nc (q : nx + 7400 ≤ nc) => apN_ok (N := nx + 4808) (nc := nc) (hn0 (nx + 4400) (by omega)) (by omega) (by omega)
  have h2 := fun nc (q : nx + 7400 ≤ nc) => applyTwice_spec nc (apN (nx + 4808) (newN (nx + 96 + 88))) x1 (sp [toO 2 4]) 1 (hn1 nc q) (sp_ok _ (.inl rfl)) (sp_B _ (.inl rfl)) (by decide) (by decide) _ x1_done
  have h3 := fun nc (q : nx + 7400 ≤ nc) => lfees_spec nc (apN (nx + 4808) (newN (nx + 96 + 88))) x1 (hn1 nc q).l
  have h4 := fun nc (q : nx + 7400 ≤ nc) => lworth_one nc (apN (nx + 4808) (newN (nx + 96 + 88))) x1 _ (hn1 nc q) x1_coins (by decide)
  rw [x1_fees] at h3 h4
  have hw : w64 (w64 ((toO 2 4).amount + totT x1.towers) + 1) = 5 := by rw [x1_tow]; decide
  simp only [hw] at h4
  simp only [newN_add, apN, Nat.add_assoc, Nat.reduceAdd] at h1 h2 h3 h4
  simp only [ledI, ledH, ledA] at h1 h2 h3 h4
  refine FnSpec.of_code (cx := cx) (an := {}) (rs := [.tmp 0]) mo Tryz.func18 rfl rfl (by kernel_rfl) (by kernel_rfl) (by show 0 ≤ _; decide) (.inl rfl) (by simp [allWr, keys, Res.wr]) ?_
  repeat' (first | omega | assumption | (show AL.ahead _ _ _ = true; rfl) | refine brF (fun _ => ?_) (fun _ => ?_) | refine brT (fun _ => ?_) (fun _ => ?_) | refine brVF (fun _ => ?_) (fun _ => ?_) | refine brVT (fun _ => ?_) (fun _ => ?_) | (with_reducible refine And.intro ?_ ?_) | (refine callK_by (to_spec _ 1 5) ?_) | (simp -dsimp -implicitDefEqProofs only [go_sem, ↓reduceIte, Nat.reduceEqDiff, Nat.reduceAdd, Nat.reduceMul, Nat.reduceLeDiff, Nat.reduceLT, Nat.reduceBEq, Nat.reducePow, Int.reduceToNat, Int.reduceLE, Int.reduceLT, Int.reduceNeg, reduceCtorEq, Int.reduceEq, Int.reduceAdd, Int.reduceSub, Int.reduceMul, Nat.reduceSub]))
  refine callK_by (new1_spec _) ?_
  repeat' (first | omega | assumption | (show AL.ahead _ _ _ = true; rfl) | refine brF (fun _ => ?_) (fun _ => ?_) | refine brT (fun _ => ?_) (fun _ => ?_) | refine brVF (fun _ => ?_) (fun _ => ?_) | refine brVT (fun _ => ?_) (fun _ => ?_) | (with_reducible refine And.intro ?_ ?_) | (refine callK_by (to_spec _ 2 4) ?_) | (refine callK_by (spSign _) ?_) | (simp -dsimp -implicitDefEqProofs only [go_sem, ↓reduceIte, Nat.reduceEqDiff, Nat.reduceAdd, Nat.reduceMul, Nat.reduceLeDiff, Nat.reduceLT, Nat.reduceBEq, Nat.reducePow, Int.reduceToNat, Int.reduceLE, Int.reduceLT, Int.reduceNeg, reduceCtorEq, Int.reduceEq, Int.reduceAdd, Int.reduceSub, Int.reduceMul, Nat.reduceSub, newN, ledA]))
  refine callK_by h1 ?_
  repeat' (first | omega | assumption | (show AL.ahead _ _ _ = true; rfl) | refine brF (fun _ => ?_) (fun _ => ?_) | refine brT (fun _ => ?_) (fun _ => ?_) | refine brVF (fun _ => ?_) (fun _ => ?_) | refine brVT (fun _ => ?_) (fun _ => ?_) | (with_reducible refine And.intro ?_ ?_) | (simp -dsimp -implicitDefEqProofs only [go_sem, ↓reduceIte, Nat.reduceEqDiff, Nat.reduceAdd, Nat.reduceMul, Nat.reduceLeDiff, Nat.reduceLT, Nat.reduceBEq, Nat.reducePow, Int.reduceToNat, Int.reduceLE, Int.reduceLT, Int.reduceNeg, reduceCtorEq, Int.reduceEq, Int.reduceAdd, Int.reduceSub, Int.reduceMul, Nat.reduceSub]))
  refine callK_by (h2 _ (by omega)) ?_
  repeat' (first | omega | assumption | (show AL.ahead _ _ _ = true; rfl) | refine brF (fun _ => ?_) (fun _ => ?_) | refine brT (fun _ => ?_) (fun _ => ?_) | refine brVF (fun _ => ?_) (fun _ => ?_) | refine brVT (fun _ => ?_) (fun _ => ?_) | (with_reducible refine And.intro ?_ ?_) | (refine callK_by (h3 _ (by omega)) ?_) | (refine callK_by (h4 _ (by omega)) ?_) | (simp -dsimp -implicitDefEqProofs only [go_sem, ↓reduceIte, Nat.reduceEqDiff, Nat.reduceAdd, Nat.reduceMul, Nat.reduceLeDiff, Nat.reduceLT, Nat.reduceBEq, Nat.reducePow, Int.reduceToNat, Int.reduceLE, Int.reduceLT, Int.reduceNeg, reduceCtorEq, Int.reduceEq, Int.reduceAdd, Int.reduceSub, Int.reduceMul, Nat.reduceSub]))
  all_goals trace_state
def rT (r : Ref_) : Tx_ := ⟨[⟨r, 0, []⟩], [], op0, []⟩
theorem rSign (nx : Nat) (r : Ref_) :
    FnSpec Tryz.prog 8 nx [.agg 40 [.sl 35 [.agg 35 [refA r, n64 0, .sl 1 [] 1]] 1, .sl 2 [] 1, .agg 37 [n64 0, n64 0, n64 0, n64 0, sumA zeroS, .sl 1 [] 1], .sl 33 [] 1], .sl 1 [n64 1] 1] [] (txA (signedT (rT r) 1)) [] 0 := by
  have hb : (bodyL true (rT r)).length < 2 ^ 38 := by
    have h1 := numI_len ((1 : Nat) : Int)
    have h5 := numI_len ((0 : Nat) : Int)
    have h2 := inL_le ⟨r, 0, []⟩
    have h4 := opL_le op0
    simp only [op0, List.length_nil] at h4 h2
    simp only [bodyL, rT, op0, List.flatMap_cons, List.flatMap_nil, List.append_nil, List.length_append, List.length_cons, List.length_nil, Nat.zero_add]
    omega
  refine (signed_spec nx 1 (rT r) 1 rfl hb (fun o ho => by simp [rT] at ho) (.inl (by decide))).le ?_
  refine ⟨_, _, rfl, ⟨_, rfl, _, _, rfl, ⟨_, _, rfl, ?_, .inr (.inl rfl)⟩, _, _, rfl, ⟨_, _, rfl, AV.les_refl _, .inr (.inl rfl)⟩, _, _, rfl, ⟨_, rfl, ?_⟩, AV.les_refl _⟩, AV.les_refl _⟩
  · exact ⟨_, _, rfl, ⟨_, rfl, _, _, rfl, AV.le_refl _, _, _, rfl, AV.le_refl _, _, _, rfl, ⟨_, _, rfl, AV.les_refl _, .inr (.inl rfl)⟩, rfl⟩, rfl⟩
  · exact ⟨_, _, rfl, AV.le_refl _, _, _, rfl, AV.le_refl _, _, _, rfl, AV.le_refl _, _, _, rfl, AV.le_refl _, _, _, rfl, AV.le_refl _, _, _, rfl, ⟨_, _, rfl, AV.les_refl _, .inr (.inl rfl)⟩, rfl⟩
theorem lnobody_spec (nx : Nat) (r : Ref_) : FnSpec Tryz.prog 3 nx [refA r] [] (bA true) [] 0 := by
  have hj := fun nc => jkeyW_spec nc 0
  have e : w64 (100 + 0) = 100 := by decide
  rw [e] at hj
  have d1 := fun nc => ldone_nil nc r.tx
  have d2 := fun nc m (q : m < nc) => lspent_zero nc m r q
  have d3 := fun nc => lfacts_nil nc r.tx
  have d4 := fun nc => lapply_nil nc (signedT (rT r) 1) 1
  have d5 := fun nc m (q : m < nc) => lapply_zero nc m (signedT (rT r) 1) 1 q
  have hs := fun nc => rSign nc r
  have d6 := fun nc m (q : m < nc) => lorder_zero nc m q
  have d7 := fun nc m (q : m < nc) => lworth_zero nc m q
  simp only [optD, optS, spendA, facZ, refA, ledZ] at d1 d2 d3 hs
  simp only [ledZ] at d5 d6 d7
  have w0 : IntKind.i64.wrap 0 = 0 := by decide
  refine FnSpec.of_code (cx := cx) (an := {}) (rs := [.tmp 2]) mo Tryz.func3 rfl rfl (by kernel_rfl) (by kernel_rfl) (by show 1 ≤ _; decide) (.inl rfl) (by simp [allWr, keys, Res.wr]) ?_
  repeat' (first | omega | assumption | (show AL.ahead _ _ _ = true; rfl) | refine brF (fun _ => ?_) (fun _ => ?_) | refine brT (fun _ => ?_) (fun _ => ?_) | refine brVF (fun _ => ?_) (fun _ => ?_) | refine brVT (fun _ => ?_) (fun _ => ?_) | (with_reducible refine And.intro ?_ ?_) | (refine callK_by (hs _) ?_) | (refine callK_by (d1 _) ?_) | (refine callK_by (d3 _) ?_) | (refine callK_by (hj _) ?_) | (refine callK_by (d4 _) ?_) | (refine callK_by (lorder_nil _) ?_) | (refine callK_by (lfees_nil _) ?_) | (refine callK_by (lworth_nil _) ?_) | (refine callK_by (lclone_nil _) ?_) | (refine callK_by (lawake_spec _) ?_) | (refine callK_by (d2 _ (nx + 24) (by omega)) ?_) | (refine callK_by (d5 _ (nx + 24) (by omega)) ?_) | (refine callK_by (d6 _ (nx + 24) (by omega)) ?_) | (refine callK_by (d7 _ (nx + 24) (by omega)) ?_) | (simp -dsimp -implicitDefEqProofs only [go_sem, ↓reduceIte, Nat.reduceEqDiff, Nat.reduceAdd, Nat.reduceMul, Nat.reduceLeDiff, Nat.reduceLT, Nat.reduceBEq, Nat.reducePow, Int.reduceToNat, Int.reduceLE, Int.reduceLT, Int.reduceNeg, reduceCtorEq, Int.reduceEq, Int.reduceAdd, Int.reduceSub, Int.reduceMul, Nat.reduceSub, ledZ, refA, w0]))
  all_goals trace_state
end Go.Proofs.YthfoeaokfhbdaaaGreat

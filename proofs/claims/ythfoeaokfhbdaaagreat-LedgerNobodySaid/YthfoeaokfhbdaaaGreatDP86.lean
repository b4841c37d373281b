/-
  The example: a first out, and what spends it.
-/
import Derived.Test.YthfoeaokfhbdaaaGreatDP82
import Derived.Test.YthfoeaokfhbdaaaGreatDP14
import Derived.Test.YthfoeaokfhbdaaaGreatAL24
import Derived.Test.YthfoeaokfhbdaaaGreatRows
set_option linter.unusedSimpArgs false
set_option linter.unusedVariables false
set_option maxRecDepth 100000
set_option maxHeartbeats 2000000
namespace Go.Proofs.YthfoeaokfhbdaaaGreat
open Go Go.AL Go.Proofs.YthfoeaokfhbdaaaGreat.T
theorem badW_one {w : Way_} (h : wayP w) : badW [w] = false := by
  unfold badW idxW
  rw [if_pos (fun q hq => by simp at hq; subst hq; exact h)]
  decide
theorem wayP_to {k : Int} (h0 : 0 ≤ k) (h1 : k ≤ 255) : wayP ⟨[k], zeroS, 0, 0⟩ := by
  refine ⟨by simp, by simp, by simp, by simp, by simp, fun i hi => ?_⟩
  have : i = 0 := by simp at hi; omega
  subst this
  exact ⟨by simpa using h0, by simpa using h1, fun h => absurd h (Nat.lt_irrefl 0)⟩
theorem outB_to {k a : Int} (h0 : 0 ≤ k) (h1 : k ≤ 255) (h2 : 0 ≤ a) (h3 : a ≤ 1125899906842624) : outB (toO k a) = true := by
  unfold outB
  rw [show (toO k a).ways = [⟨[k], zeroS, 0, 0⟩] from rfl, badW_one (wayP_to h0 h1)]
  simp [toO, h2, h3]
noncomputable def x0 : LS := ⟨[(⟨id1, 0⟩, ⟨toO 1 5, 0⟩)], [], [], [(id1, ⟨txO [toO 1 5], 0⟩)], [], [id1], 0⟩
theorem putL_nil {r : Ref_} {o : Out_} {h : Int} (h1 : outB o = true) (h2 : 0 ≤ h) (h3 : h ≤ 1073741824) : putL r o h [] = [(r, ⟨o, h⟩)] := by
  rw [(putL_ok (l := []) h1 h2 h3 rfl).1]; rfl
theorem newS_1 : newS [toO 1 5] = x0 := by
  show comeS id1 (txO [toO 1 5]) 0 ⟨[], [], [], [], [], [], 0⟩ = x0
  simp only [comeS, txO, putAll, setM, List.nil_append]
  rw [putL_nil (outB_to (by decide) (by decide) (by decide) (by decide)) (by decide) (by decide)]
  rfl
theorem newE_1 : newE 0 [toO 1 5] = 0 := by
  have e1 : outB (toO 1 5) = true := outB_to (by decide) (by decide) (by decide) (by decide)
  have e2 : addF 0 [0, (toO 1 5).amount] = (5, 0) := by decide
  simp only [newE, e1, e2]
  decide
/-- what spends it -/
noncomputable def sp (os : List Out_) : Tx_ := signedT (tx1 os) 1
theorem sp_id (os : List Out_) : txS (sp os) = txS (tx1 os) := rfl
theorem sp_keys (os : List Out_) : keysF (sp os) (sp os).signs = [1] := by
  show keysF (sp os) [⟨1, txS (tx1 os)⟩] = [1]
  simp only [keysF]
  rw [if_pos (sp_id os).symm]
theorem sp_ins (os : List Out_) : insF (keysF (sp os) (sp os).signs) 1 x0.coins 0 (sp os).ins = (5, 0) := by
  rw [sp_keys]
  show insF [1] 1 [(⟨id1, 0⟩, ⟨toO 1 5, 0⟩)] 0 [⟨⟨id1, 0⟩, 0, []⟩] = (5, 0)
  have hl : lookM (⟨id1, 0⟩ : Ref_) [((⟨id1, 0⟩ : Ref_), (⟨toO 1 5, 0⟩ : Coin_))] = some ⟨toO 1 5, 0⟩ := by simp [lookM]
  have ho : opensB (⟨[1], zeroS, 0, 0⟩ : Way_) [1] [] 1 (w64 (1 - 0)) = true := opensB_t ⟨fun k hk => hk, .inl rfl, by decide, by decide⟩
  have e2 : addF 0 [0, (toO 1 5).amount] = (5, 0) := by decide
  simp only [insF, hl]
  rw [if_neg (by
    rintro (h | h)
    · simp [toO] at h
    · have : (([] : List Int).length : Int) = 0 := rfl
      rw [show (toO 1 5).ways.getD (0 : Int).toNat wayZ = ⟨[1], zeroS, 0, 0⟩ from rfl, ho] at h
      exact absurd h (by decide)), if_pos (by rw [e2]), e2]
theorem sp_b (os : List Out_) (h : (os.flatMap outL).length < 2 ^ 30) : (bodyL true (sp os)).length < 2 ^ 38 := by
  have h1 := numI_len ((1 : Nat) : Int)
  have h5 := numI_len (os.length : Int)
  have h2 := inL_le ⟨⟨id1, 0⟩, 0, []⟩
  have h4 := opL_le opZ
  simp only [opZ, List.length_nil] at h4 h2
  show (bodyL true (tx1 os)).length < 2 ^ 38
  simp only [bodyL, tx1, opZ, List.flatMap_cons, List.flatMap_nil, List.append_nil, List.length_append, List.length_cons, List.length_nil, Nat.zero_add]
  omega
theorem sp_ok (os : List Out_) (h : os = [toO 2 4] ∨ os = []) : TxOk (sp os) := by
  have hL : ∀ o ∈ os, o.ways.length < 2 ^ 40 ∧ ∀ w ∈ o.ways, w.keys.length < 2 ^ 32 := by
    rcases h with h | h <;> subst h
    · intro o ho
      simp at ho; subst ho
      exact ⟨by simp [toO], fun w hw => by simp [toO] at hw; subst hw; simp⟩
    · intro o ho; simp at ho
  have hlen : os.length ≤ 1 := by rcases h with h | h <;> subst h <;> simp
  have hb : (os.flatMap outL).length < 2 ^ 30 := by
    rcases h with h | h <;> subst h
    · have := outL_to 2 4; simp only [List.flatMap_cons, List.flatMap_nil, List.append_nil]; omega
    · simp
  refine ⟨⟨fun y hy => ?_, ?_, ?_, ?_, ?_, fun o ho => ⟨(hL o ho).1, fun w hw => Nat.lt_trans ((hL o ho).2 w hw) (by decide)⟩⟩, sp_b os hb, fun o ho => (hL o ho).2, fun y hy => ?_⟩
  · simp [sp, signedT, tx1] at hy; subst hy; simp
  · simp [sp, signedT, tx1, opZ]
  · simp [sp, signedT, tx1]
  · show os.length < _; omega
  · simp [sp, signedT, tx1]
  · simp [sp, signedT, tx1] at hy; subst hy; simp
theorem sp_B (os : List Out_) (h : os = [toO 2 4] ∨ os = []) : txB (sp os) = true := by
  have hany : os.any badO = false := by
    rcases h with h | h <;> subst h
    · simp [badO, outB_to]
    · rfl
  have hlen : os.length ≤ 1 := by rcases h with h | h <;> subst h <;> simp
  have hp : txP (sp os) := by
    refine ⟨by simp [sp, signedT, tx1], by show os.length ≤ 16; omega, by simp [sp, signedT, tx1], ?_, by simp [sp, signedT, tx1], fun i hi _ => ?_, fun i hi _ => ?_, hany⟩
    · show opB op0 = true
      unfold opB
      rw [if_pos (show op0.kind = 0 from rfl)]
      simp [op0, eqB_yes]
    · have e : i = 0 := by simp [sp, signedT, tx1] at hi; omega
      subst e
      exact ⟨by show (0 : Int) ≤ 0 ∧ (0 : Int) < 16 ∧ (0 : Int) ≤ 0 ∧ (0 : Int) < 16 ∧ 0 ≤ 64; decide, by simp [sp, signedT, tx1]⟩
    · have e : i = 0 := by simp [sp, signedT, tx1] at hi; omega
      subst e
      exact ⟨by show (0 : Int) ≤ 1; decide, by show (1 : Int) ≤ 255; decide, fun h0 => absurd h0 (Nat.lt_irrefl 0)⟩
  have := txB_yes hp
  injection this with this
  injection this
/-- the ledger behind it -/
noncomputable def x1 : LS := applyS (sp [toO 2 4]) 1 1 [] [] x0
theorem x1_done : lookM (txS (sp [toO 2 4])) x1.done = some ⟨sp [toO 2 4], 1⟩ := by
  show lookM (txS (sp [toO 2 4])) (setM (txS (sp [toO 2 4])) _ _) = _
  rw [lookM_set, if_pos rfl]
theorem x1_fees : x1.fees = 1 := by show w64 (0 + 1) = 1; decide
theorem x1_tow : x1.towers = [] := rfl
theorem x1_coins : x1.coins = [(⟨txS (sp [toO 2 4]), 0⟩, ⟨toO 2 4, 1⟩)] := by
  show putAll (txS (sp [toO 2 4])) 1 [toO 2 4] 0 (delM ⟨id1, 0⟩ [(⟨id1, 0⟩, ⟨toO 1 5, 0⟩)]) = _
  have hd : delM (⟨id1, 0⟩ : Ref_) [((⟨id1, 0⟩ : Ref_), (⟨toO 1 5, 0⟩ : Coin_))] = [] := by simp [delM]
  rw [hd]
  simp only [putAll]
  rw [putL_nil (outB_to (by decide) (by decide) (by decide) (by decide)) (by decide) (by decide)]
  rfl
theorem x0_co : CoOk x0.coins := by
  intro p hp
  simp [x0] at hp
  subst hp
  exact ⟨by simp [toO], fun w hw => by simp [toO] at hw; subst hw; simp⟩
theorem x0_done (os : List Out_) (h : txS (tx1 os) ≠ id1) : lookM (txS (sp os)) x0.done = none := by
  rw [sp_id]
  show lookM (txS (tx1 os)) [(id1, _)] = none
  simp [lookM, h]
end Go.Proofs.YthfoeaokfhbdaaaGreat

/-
  The example comes to what it says; the law LedgerNobody.
-/
set_option linter.unusedSimpArgs false
set_option linter.unusedVariables false
set_option maxRecDepth 100000
set_option maxHeartbeats 4000000
namespace Go.Proofs.YthfoeaokfhbdaaaGreat
open Go Go.AL Go.Proofs.YthfoeaokfhbdaaaGreat.T
attribute [local go_sem] nb_u8s u8s_length nb_sum List.length_replicate zero_sum sum_h u8s_nil txA_good txA_csz txA_agg nb_tx sum_csz sum_agg sumA_good nb_ref refA_good refA_agg refA_csz outA_good outA_agg outA_csz nb_out1 nb_outs
theorem spSign (nx : Nat) :
    FnSpec Tryz.prog 8 nx [.agg 40 [.sl 35 [.agg 35 [.agg 33 [sumA id1, n64 0], n64 0, .sl 1 [] 1]] 1, .sl 2 [outA (toO 2 4)] 1, .agg 37 [n64 0, n64 0, n64 0, n64 0, sumA zeroS, .sl 1 [] 1], .sl 33 [] 1], .sl 1 [n64 1] 1] [] (txA (sp [toO 2 4])) [] 0 := by
  have h := signed_spec nx 1 (tx1 [toO 2 4]) 1 rfl (sp_b [toO 2 4] (by have := outL_to 2 4; simp only [List.flatMap_cons, List.flatMap_nil, List.append_nil]; omega)) (toO_keys 2 4 _ rfl) (.inl (by decide))
  refine h.le ?_
  refine ⟨_, _, rfl, ⟨_, rfl, _, _, rfl, ⟨_, _, rfl, ?_, .inr (.inl rfl)⟩, _, _, rfl, ⟨_, _, rfl, AV.les_refl _, .inr (.inl rfl)⟩, _, _, rfl, ⟨_, rfl, ?_⟩, AV.les_refl _⟩, AV.les_refl _⟩
  · exact ⟨_, _, rfl, ⟨_, rfl, _, _, rfl, AV.le_refl _, _, _, rfl, AV.le_refl _, _, _, rfl, ⟨_, _, rfl, AV.les_refl _, .inr (.inl rfl)⟩, rfl⟩, rfl⟩
  · exact ⟨_, _, rfl, AV.le_refl _, _, _, rfl, AV.le_refl _, _, _, rfl, AV.le_refl _, _, _, rfl, AV.le_refl _, _, _, rfl, AV.le_refl _, _, _, rfl, ⟨_, _, rfl, AV.les_refl _, .inr (.inl rfl)⟩, rfl⟩
theorem new1_spec (nx : Nat) : FnSpec Tryz.prog 68 nx [.sl 2 [outA (toO 1 5)] 1] [] (.tup [.ref (newN (nx + 88)).l 0 [], sumA id1, n64 0]) (ledH (newN (nx + 88)) x0) 4000 := by
  have h := newOk_spec nx 1 [toO 1 5] newE_1 (by simp) (fun o ho => by simp at ho; subst ho; exact ⟨by simp [toO], fun w hw => by simp [toO] at hw; subst hw; simp⟩) (by
    have h1 := numI_len ((1 : Nat) : Int)
    have h5 := numI_len ((0 : Nat) : Int)
    have h3 := outL_to 1 5
    have h4 := opL_le opZ
    simp only [opZ, List.length_nil] at h4
    simp only [bodyL, txO, opZ, List.flatMap_cons, List.flatMap_nil, List.append_nil, List.length_append, List.length_cons, List.length_nil, Nat.zero_add]
    omega) (.inl (by decide))
  rw [newS_1] at h
  exact h
theorem newN_add (N : Nat) : newN (N + 88) = ⟨N + 128, N + 168, N + 152, N + 216, N + 192, N + 200, N + 104, N + 112, N + 121⟩ := rfl
theorem ap1_spec (nx : Nat) (n : LN) (hn : n.ok nx) : FnSpec Tryz.prog 12 nx [.ref n.l 0 [], txA (sp [toO 2 4]), n64 1] (ledI n x0) (n64 0) (ledH (apN (nx + 408) n) x1) 3000 :=
  applyOk_spec nx n x0 (sp [toO 2 4]) 1 hn (sp_ok _ (.inl rfl)) (sp_B _ (.inl rfl)) (by decide) (by decide) x0_co (by show 1 < 2 ^ 40; decide) (x0_done _ id2_ne) 5 (sp_ins _) 0 0 [] [] (eff_none _ _ _ rfl) 5 (by decide) 1 (by show subF 5 [0, 4] = (1, 0); decide)
theorem lawake_spec (nx : Nat) : FnSpec Tryz.prog 18 nx [] [] (bA true) [] 0 := by
  have hto := fun nc k a => to_spec nc k a
  have hn0 := fun nc (q : nx + 400 ≤ nc) => (newN_ok (N := nx + 96 + 88) (nx := nc) (by omega))
  have h1 := ap1_spec (nx + 4400) (newN (nx + 96 + 88)) (hn0 _ (by omega))
  have hn1 := fun nc (q : nx + 7400 ≤ nc) => apN_ok (N := nx + 4808) (nc := nc) (hn0 (nx + 4400) (by omega)) (by omega) (by omega)
  have h2 := fun nc (q : nx + 7400 ≤ nc) => applyTwice_spec nc (apN (nx + 4808) (newN (nx + 96 + 88))) x1 (sp [toO 2 4]) 1 (hn1 nc q) (sp_ok _ (.inl rfl)) (sp_B _ (.inl rfl)) (by decide) (by decide) _ x1_done
  have h3 := fun nc (q : nx + 7400 ≤ nc) => lfees_spec nc (apN (nx + 4808) (newN (nx + 96 + 88))) x1 (hn1 nc q).l
  have h4 := fun nc (q : nx + 7400 ≤ nc) => lworth_one nc (apN (nx + 4808) (newN (nx + 96 + 88))) x1 _ (hn1 nc q) x1_coins (by decide)
  rw [x1_fees] at h3 h4
  have hw : w64 (w64 ((toO 2 4).amount + totT x1.towers) + 1) = 5 := by rw [x1_tow]; decide
  simp only [hw] at h4
  simp only [newN_add, apN, Nat.add_assoc, Nat.reduceAdd] at h1 h2 h3 h4
  simp only [ledI, ledH, ledA] at h1 h2 h3 h4
  refine FnSpec.of_code (cx := cx) (an := {}) (rs := [.tmp 0]) mo Tryz.func18 rfl rfl (by kernel_rfl) (by kernel_rfl) (by show 0 ≤ _; decide) (.inl rfl) (by simp [allWr, keys, Res.wr]) ?_
  repeat' (first | omega | assumption | (show AL.ahead _ _ _ = true; rfl) | refine brF (fun _ => ?_) (fun _ => ?_) | refine brT (fun _ => ?_) (fun _ => ?_) | refine brVF (fun _ => ?_) (fun _ => ?_) | refine brVT (fun _ => ?_) (fun _ => ?_) | (with_reducible refine And.intro ?_ ?_) | (refine callK_by (to_spec _ 1 5) ?_) | (simp -dsimp -implicitDefEqProofs only [go_sem, ↓reduceIte, Nat.reduceEqDiff, Nat.reduceAdd, Nat.reduceMul, Nat.reduceLeDiff, Nat.reduceLT, Nat.reduceBEq, Nat.reducePow, Int.reduceToNat, Int.reduceLE, Int.reduceLT, Int.reduceNeg, reduceCtorEq, Int.reduceEq, Int.reduceAdd, Int.reduceSub, Int.reduceMul, Nat.reduceSub]))
  refine callK_by (new1_spec _) ?_
  repeat' (first | omega | assumption | (show AL.ahead _ _ _ = true; rfl) | refine brF (fun _ => ?_) (fun _ => ?_) | refine brT (fun _ => ?_) (fun _ => ?_) | refine brVF (fun _ => ?_) (fun _ => ?_) | refine brVT (fun _ => ?_) (fun _ => ?_) | (with_reducible refine And.intro ?_ ?_) | (refine callK_by (to_spec _ 2 4) ?_) | (refine callK_by (spSign _) ?_) | (simp -dsimp -implicitDefEqProofs only [go_sem, ↓reduceIte, Nat.reduceEqDiff, Nat.reduceAdd, Nat.reduceMul, Nat.reduceLeDiff, Nat.reduceLT, Nat.reduceBEq, Nat.reducePow, Int.reduceToNat, Int.reduceLE, Int.reduceLT, Int.reduceNeg, reduceCtorEq, Int.reduceEq, Int.reduceAdd, Int.reduceSub, Int.reduceMul, Nat.reduceSub, newN, ledA]))
  refine callK_by h1 ?_
  repeat' (first | omega | assumption | (show AL.ahead _ _ _ = true; rfl) | refine brF (fun _ => ?_) (fun _ => ?_) | refine brT (fun _ => ?_) (fun _ => ?_) | refine brVF (fun _ => ?_) (fun _ => ?_) | refine brVT (fun _ => ?_) (fun _ => ?_) | (with_reducible refine And.intro ?_ ?_) | (simp -dsimp -implicitDefEqProofs only [go_sem, ↓reduceIte, Nat.reduceEqDiff, Nat.reduceAdd, Nat.reduceMul, Nat.reduceLeDiff, Nat.reduceLT, Nat.reduceBEq, Nat.reducePow, Int.reduceToNat, Int.reduceLE, Int.reduceLT, Int.reduceNeg, reduceCtorEq, Int.reduceEq, Int.reduceAdd, Int.reduceSub, Int.reduceMul, Nat.reduceSub]))
  refine callK_by (h2 _ (by omega)) ?_
  repeat' (first | omega | assumption | (show AL.ahead _ _ _ = true; rfl) | refine brF (fun _ => ?_) (fun _ => ?_) | refine brT (fun _ => ?_) (fun _ => ?_) | refine brVF (fun _ => ?_) (fun _ => ?_) | refine brVT (fun _ => ?_) (fun _ => ?_) | (with_reducible refine And.intro ?_ ?_) | (refine callK_by (h3 _ (by omega)) ?_) | (refine callK_by (h4 _ (by omega)) ?_) | (simp -dsimp -implicitDefEqProofs only [go_sem, ↓reduceIte, Nat.reduceEqDiff, Nat.reduceAdd, Nat.reduceMul, Nat.reduceLeDiff, Nat.reduceLT, Nat.reduceBEq, Nat.reducePow, Int.reduceToNat, Int.reduceLE, Int.reduceLT, Int.reduceNeg, reduceCtorEq, Int.reduceEq, Int.reduceAdd, Int.reduceSub, Int.reduceMul, Nat.reduceSub]))
  all_goals trace_state
def rT (r : Ref_) : Tx_ := ⟨[⟨r, 0, []⟩], [], op0, []⟩
theorem rSign (nx : Nat) (r : Ref_) :
    FnSpec Tryz.prog 8 nx [.agg 40 [.sl 35 [.agg 35 [refA r, n64 0, .sl 1 [] 1]] 1, .sl 2 [] 1, .agg 37 [n64 0, n64 0, n64 0, n64 0, sumA zeroS, .sl 1 [] 1], .sl 33 [] 1], .sl 1 [n64 1] 1] [] (txA (signedT (rT r) 1)) [] 0 := by
  have hb : (bodyL true (rT r)).length < 2 ^ 38 := by
    have h1 := numI_len ((1 : Nat) : Int)
    have h5 := numI_len ((0 : Nat) : Int)
    have h2 := inL_le ⟨r, 0, []⟩
    have h4 := opL_le op0
    simp only [op0, List.length_nil] at h4 h2
    simp only [bodyL, rT, op0, List.flatMap_cons, List.flatMap_nil, List.append_nil, List.length_append, List.length_cons, List.length_nil, Nat.zero_add]
    omega
  refine (signed_spec nx 1 (rT r) 1 rfl hb (fun o ho => by simp [rT] at ho) (.inl (by decide))).le ?_
  refine ⟨_, _, rfl, ⟨_, rfl, _, _, rfl, ⟨_, _, rfl, ?_, .inr (.inl rfl)⟩, _, _, rfl, ⟨_, _, rfl, AV.les_refl _, .inr (.inl rfl)⟩, _, _, rfl, ⟨_, rfl, ?_⟩, AV.les_refl _⟩, AV.les_refl _⟩
  · exact ⟨_, _, rfl, ⟨_, rfl, _, _, rfl, AV.le_refl _, _, _, rfl, AV.le_refl _, _, _, rfl, ⟨_, _, rfl, AV.les_refl _, .inr (.inl rfl)⟩, rfl⟩, rfl⟩
  · exact ⟨_, _, rfl, AV.le_refl _, _, _, rfl, AV.le_refl _, _, _, rfl, AV.le_refl _, _, _, rfl, AV.le_refl _, _, _, rfl, AV.le_refl _, _, _, rfl, ⟨_, _, rfl, AV.les_refl _, .inr (.inl rfl)⟩, rfl⟩
theorem lnobody_spec (nx : Nat) (r : Ref_) : FnSpec Tryz.prog 3 nx [refA r] [] (bA true) [] 0 := by
  have hj := fun nc => jkeyW_spec nc 0
  have e : w64 (100 + 0) = 100 := by decide
  rw [e] at hj
  have d1 := fun nc => ldone_nil nc r.tx
  have d2 := fun nc m (q : m < nc) => lspent_zero nc m r q
  have d3 := fun nc => lfacts_nil nc r.tx
  have d4 := fun nc => lapply_nil nc (signedT (rT r) 1) 1
  have d5 := fun nc m (q : m < nc) => lapply_zero nc m (signedT (rT r) 1) 1 q
  have hs := fun nc => rSign nc r
  have d6 := fun nc m (q : m < nc) => lorder_zero nc m q
  have d7 := fun nc m (q : m < nc) => lworth_zero nc m q
  simp only [optD, optS, spendA, facZ, refA, ledZ] at d1 d2 d3 hs
  simp only [ledZ] at d5 d6 d7
  have w0 : IntKind.i64.wrap 0 = 0 := by decide
  refine FnSpec.of_code (cx := cx) (an := {}) (rs := [.tmp 2]) mo Tryz.func3 rfl rfl (by kernel_rfl) (by kernel_rfl) (by show 1 ≤ _; decide) (.inl rfl) (by simp [allWr, keys, Res.wr]) ?_
  repeat' (first | omega | assumption | (show AL.ahead _ _ _ = true; rfl) | refine brF (fun _ => ?_) (fun _ => ?_) | refine brT (fun _ => ?_) (fun _ => ?_) | refine brVF (fun _ => ?_) (fun _ => ?_) | refine brVT (fun _ => ?_) (fun _ => ?_) | (with_reducible refine And.intro ?_ ?_) | (refine callK_by (hs _) ?_) | (refine callK_by (d1 _) ?_) | (refine callK_by (d3 _) ?_) | (refine callK_by (hj _) ?_) | (refine callK_by (d4 _) ?_) | (refine callK_by (lorder_nil _) ?_) | (refine callK_by (lfees_nil _) ?_) | (refine callK_by (lworth_nil _) ?_) | (refine callK_by (lclone_nil _) ?_) | (refine callK_by (lawake_spec _) ?_) | (refine callK_by (d2 _ (nx + 24) (by omega)) ?_) | (refine callK_by (d5 _ (nx + 24) (by omega)) ?_) | (refine callK_by (d6 _ (nx + 24) (by omega)) ?_) | (refine callK_by (d7 _ (nx + 24) (by omega)) ?_) | (simp -dsimp -implicitDefEqProofs only [go_sem, ↓reduceIte, Nat.reduceEqDiff, Nat.reduceAdd, Nat.reduceMul, Nat.reduceLeDiff, Nat.reduceLT, Nat.reduceBEq, Nat.reducePow, Int.reduceToNat, Int.reduceLE, Int.reduceLT, Int.reduceNeg, reduceCtorEq, Int.reduceEq, Int.reduceAdd, Int.reduceSub, Int.reduceMul, Nat.reduceSub, ledZ, refA, w0]))
  all_goals trace_state
end Go.Proofs.YthfoeaokfhbdaaaGreat

/-
  bartizanlaw31.TowerNobody: for every input it returns true, and the input reads behind the call as it read before. No condition.
-/
set_option linter.unusedSimpArgs false
set_option linter.unusedVariables false
set_option maxRecDepth 100000
set_option maxHeartbeats 1000000
namespace Go.Proofs.YthfoeaokfhbdaaaGreat
open Go Go.AL Go.Proofs.YthfoeaokfhbdaaaGreat.T Go.ChangeShapes Go.WideShapes Go.ChangeAt Go.RowKit

theorem Tryz.own : ownKnob Tryz.prog.godebug = none := by kernel_rfl
theorem Tryz.laidOut : laidOutB Tryz.prog = true := by kernel_rfl
theorem toNat_ofNat' {n : Nat} (h : n < 256) : (UInt8.ofNat n).toNat = n := by
  rw [UInt8.toNat_ofNat']; omega
theorem ty_byte {n : Nat} {a : AV} (h : Ty Tryz.prog (n + 1) 5 a) : ∃ b, a = u8 b ∧ True := by
  obtain ⟨x, rfl, h1, h2⟩ := h.int_inv Tryz.underlying5
  have h1' : (0 : Int) ≤ x := h1
  have h2' : x ≤ 255 := h2
  refine ⟨UInt8.ofNat x.toNat, ?_, trivial⟩
  rw [u8, toNat_ofNat' (by omega)]
  congr 2; omega
theorem ty_sum {n : Nat} {a : AV} (h : Ty Tryz.prog (n + 2) 23 a) : ∃ s, a = sumA s := by
  obtain ⟨L, rfl, hl, k⟩ := h.arr_inv Tryz.underlying23 (m := 1) (by kernel_rfl)
  obtain ⟨l, rfl, _⟩ := list_inv (f := u8) (p := fun _ => True) (fun x hx => ty_byte (k x hx))
  rw [List.length_map] at hl
  exact ⟨⟨l, hl⟩, rfl⟩
theorem ty_int {n : Nat} {a : AV} (h : Ty Tryz.prog (n + 1) 3 a) : ∃ x, a = n64 x := by
  obtain ⟨x, rfl, _⟩ := h.int_inv Tryz.underlying3
  exact ⟨x, rfl⟩
theorem ty_int64 {n : Nat} {a : AV} (h : Ty Tryz.prog (n + 1) 2 a) : ∃ x, a = n64 x := by
  obtain ⟨x, rfl, _⟩ := h.int_inv Tryz.underlying2
  exact ⟨x, rfl⟩
theorem ty_ref {n : Nat} {a : AV} (h : Ty Tryz.prog (n + 3) 25 a) : ∃ r, a = refA r := by
  obtain ⟨L, rfl, k⟩ := h.struct_inv Tryz.underlying25 (m := 33) (ts := [23, 3]) (by kernel_rfl) rfl
  obtain ⟨a0, _, rfl, h0, k⟩ := k.cons_inv
  obtain ⟨a1, _, rfl, h1, k⟩ := k.cons_inv
  cases k.nil_inv
  obtain ⟨x0, rfl⟩ := ty_sum h0
  obtain ⟨x1, rfl⟩ := ty_int h1
  exact ⟨⟨x0, x1⟩, rfl⟩
theorem ty_chan {n : Nat} {a : AV} (h : Ty Tryz.prog (n + 4) 66 a) : ∃ c, a = chanA c := by
  obtain ⟨L, rfl, k⟩ := h.struct_inv Tryz.underlying66 (m := 39) (ts := [3, 3, 3, 25, 2, 3, 3]) (by kernel_rfl) rfl
  obtain ⟨a0, _, rfl, h0, k⟩ := k.cons_inv
  obtain ⟨a1, _, rfl, h1, k⟩ := k.cons_inv
  obtain ⟨a2, _, rfl, h2, k⟩ := k.cons_inv
  obtain ⟨a3, _, rfl, h3, k⟩ := k.cons_inv
  obtain ⟨a4, _, rfl, h4, k⟩ := k.cons_inv
  obtain ⟨a5, _, rfl, h5, k⟩ := k.cons_inv
  obtain ⟨a6, _, rfl, h6, k⟩ := k.cons_inv
  cases k.nil_inv
  obtain ⟨x0, rfl⟩ := ty_int h0
  obtain ⟨x1, rfl⟩ := ty_int h1
  obtain ⟨x2, rfl⟩ := ty_int h2
  obtain ⟨x3, rfl⟩ := ty_ref h3
  obtain ⟨x4, rfl⟩ := ty_int64 h4
  obtain ⟨x5, rfl⟩ := ty_int h5
  obtain ⟨x6, rfl⟩ := ty_int h6
  exact ⟨⟨x0, x1, x2, x3, x4, x5, x6⟩, rfl⟩

end Go.Proofs.YthfoeaokfhbdaaaGreat

/-
  bartizanlaw18.LedgerNobody: for every input it returns true, and the input reads behind the call as it read before. No condition.
-/
set_option linter.unusedSimpArgs false
set_option linter.unusedVariables false
set_option maxRecDepth 100000
set_option maxHeartbeats 1000000
namespace Go.Proofs.YthfoeaokfhbdaaaGreat
open Go Go.AL Go.Proofs.YthfoeaokfhbdaaaGreat.T Go.ChangeShapes Go.WideShapes Go.ChangeAt Go.RowKit
theorem ln_args (xs : List AV) (h : TyF (Ty Tryz.prog 8) Tryz.f3.params.toList xs) : FnSpec Tryz.prog 3 0 xs [] (.val (.bool true)) [] 0 := by
  have hp : Tryz.f3.params.toList = [25] := rfl
  rw [hp] at h
  obtain ⟨a0, _, rfl, h0, h⟩ := h.cons_inv
  cases h.nil_inv
  obtain ⟨x0, rfl⟩ := ty_ref h0
  exact lnobody_spec 0 x0

theorem ln_lifted (os : Os) (started : os.Started) (H : Type) (enc : TypeId × Value → H) :
    ReturnsInHanded {} Tryz.checked os 3 .any (Rows.ledgerNobodySpec.pre6 enc Tryz.prog Tryz.f3 Rows.ledgerNobodyRow.domain false) (Rows.ledgerNobodySpec.post enc Tryz.prog Tryz.f3 false true false false) := by
  refine returnsInHanded_of_change (C := Tryz.checked) Tryz.own started (by kernel_rfl) Tryz.func3
    (ChangeSpec.witness6 (enc := enc) (C := Tryz.checked) false ⟨#[], #[.agg #[.int .u8 0, .int .u8 0, .int .u8 0, .int .u8 0, .int .u8 0, .int .u8 0, .int .u8 0, .int .u8 0, .int .u8 0, .int .u8 0, .int .u8 0, .int .u8 0, .int .u8 0, .int .u8 0, .int .u8 0, .int .u8 0, .int .u8 0, .int .u8 0, .int .u8 0, .int .u8 0, .int .u8 0, .int .u8 0, .int .u8 0, .int .u8 0, .int .u8 0, .int .u8 0, .int .u8 0, .int .u8 0, .int .u8 0, .int .u8 0, .int .u8 0, .int .u8 0, .int .i64 0]], []⟩ 8 (by kernel_rfl) (by kernel_rfl) (by kernel_rfl) (by kernel_rfl)) ?_
  intro W base args ds gs before hval0 hW hcnd _
  exact post_of_spec (P := Tryz.prog) (n := 8) (tb := 4) Tryz.laidOut rfl (fun ds hl => by
    match ds, hl with
    | [d1], _ => rfl) (by kernel_rfl) (by kernel_rfl) rfl Tryz.underlying4 ln_args W base args ds gs before hval0 hW

theorem ln_holds : Rows.LedgerNobodySaid :=
  OpenClaim.holds_of_wide 3 Tryz.f3 rfl rfl rfl rfl rfl rfl rfl ⟨rfl, rfl, rfl, rfl, rfl⟩ rfl rfl rfl rfl rfl (by kernel_rfl) Tryz.func3 (by kernel_rfl)
    (of_decide_eq_true (by kernel_rfl)) (by unfold Func.isWrapper; first | (rw [if_pos (by decide +kernel)]; kernel_rfl) | (rw [if_neg (by decide +kernel)]; exact ⟨rfl, rfl⟩))
    (fun os started H enc _ => ln_lifted os started H enc)
#print axioms ln_holds
end Go.Proofs.YthfoeaokfhbdaaaGreat

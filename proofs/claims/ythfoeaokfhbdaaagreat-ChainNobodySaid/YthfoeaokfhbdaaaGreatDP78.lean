/-
  Ledgers: a new one.
-/
import Derived.Test.YthfoeaokfhbdaaaGreatDP74
set_option linter.unusedSimpArgs false
set_option linter.unusedVariables false
set_option maxRecDepth 100000
set_option maxHeartbeats 2000000
namespace Go.Proofs.YthfoeaokfhbdaaaGreat
open Go Go.AL Go.Proofs.YthfoeaokfhbdaaaGreat.T
def opZ : Op_ := ⟨0, 0, 0, 0, zeroS, []⟩
def txO (os : List Out_) : Tx_ := ⟨[], os, opZ, []⟩
def txOA (os : List Out_) : AV := .agg 40 [.sl 35 [] 1, .sl 2 (outsA os) 0, .agg 37 [n64 0, n64 0, n64 0, n64 0, sumA zeroS, .sl 1 [] 1], .sl 33 [] 1]
theorem txO_le (os : List Out_) : AV.le (txOA os) (txA (txO os)) :=
  ⟨_, rfl, _, _, rfl, ⟨_, _, rfl, AV.les_refl _, .inr (.inl rfl)⟩, _, _, rfl, AV.le_refl _, _, _, rfl, ⟨_, rfl, _, _, rfl, AV.le_refl _, _, _, rfl, AV.le_refl _, _, _, rfl, AV.le_refl _, _, _, rfl, AV.le_refl _, _, _, rfl, AV.le_refl _, _, _, rfl, ⟨_, _, rfl, AV.les_refl _, .inr (.inl rfl)⟩, rfl⟩, _, _, rfl, ⟨_, _, rfl, AV.les_refl _, .inr (.inl rfl)⟩, rfl⟩
/-- why outs are no ledger's first ones -/
noncomputable def newE : Int → List Out_ → Int
  | _, [] => 0
  | s, o :: r => if outB o = false then 1 else if (addF 0 [s, o.amount]).2 ≠ 0 then (addF 0 [s, o.amount]).2 else newE (addF 0 [s, o.amount]).1 r
noncomputable def newS (os : List Out_) : LS := comeS (txS (txO os)) (txO os) 0 ⟨[], [], [], [], [], [], 0⟩
/-- the names of a new ledger's parts -/
def newN (N : Nat) : LN := ⟨N + 40, N + 80, N + 64, N + 128, N + 104, N + 112, N + 16, N + 24, N + 33⟩
theorem newN_ok {N nx : Nat} (h : N + 128 < nx) : (newN N).ok nx := by
  refine ⟨?_, ?_, ?_, ?_, ?_, ?_, ?_, ?_, ?_, ?_⟩
  all_goals first | (simp only [newN]; omega) | skip
  simp [newN]
attribute [local go_sem] nb_u8s u8s_length nb_sum List.length_replicate zero_sum sum_h u8s_nil sum_csz sum_agg sumA_good outs_len nb_outs nb_out1 outA_good outA_agg outA_csz txA_good txA_csz txA_agg nb_tx sums_len nb_sums nbK_ref nbK_int nbK_pair nbK_sum nbV_coin nbV_tow nbV_hold nbV_done nbV_spend
theorem cloneO_nil (nx t : Nat) : FnSpec Tryz.prog 132 nx [.sl 2 [] t] [] (.sl 2 [] 0) [] 0 := by
  refine FnSpec.empty fun b n => ?_
  cases b with
  | none =>
    have h : FnSpec Tryz.prog 132 nx [.val (.slice none 0 n)] [] (.sl 0 [] 1) [] 0 := by
      refine FnSpec.of_code (cx := cx) (an := {}) (rs := [.tmp 2]) mo Tryz.func132 rfl rfl (by kernel_rfl) (by kernel_rfl) (by show 1 ≤ _; decide) (.inl rfl) (by simp [allWr, keys, Res.wr]) ?_
      repeat' (first | omega | assumption | (show AL.ahead _ _ _ = true; rfl) | refine brF (fun _ => ?_) (fun _ => ?_) | refine brT (fun _ => ?_) (fun _ => ?_) | refine brVF (fun _ => ?_) (fun _ => ?_) | refine brVT (fun _ => ?_) (fun _ => ?_) | (with_reducible refine And.intro ?_ ?_) | (simp -dsimp -implicitDefEqProofs only [go_sem, ↓reduceIte, Nat.reduceEqDiff, Nat.reduceAdd, Nat.reduceMul, Nat.reduceLeDiff, Nat.reduceLT, Nat.reduceBEq, Nat.reducePow, Int.reduceToNat, Int.reduceLE, Int.reduceLT, Int.reduceNeg, reduceCtorEq, Int.reduceEq, Int.reduceAdd, Int.reduceSub, Int.reduceMul, Nat.reduceSub, Option.isNone_none]))
    exact h.forget0 ⟨rfl, .inr ⟨.inr rfl, .inl rfl⟩⟩ (by simp [AV.nb, AV.nbs]) (by simp [keys])
  | some a =>
    have h : FnSpec Tryz.prog 132 nx [.val (.slice (some a) 0 n)] [] (.sl 2 [] (nx + 42)) [(nx + 40, some (.tail 0))] 60 := by
      refine FnSpec.of_code (cx := cx) (an := {}) (rs := [.tmp 2]) mo Tryz.func132 rfl rfl (by kernel_rfl) (by kernel_rfl) (by show 1 ≤ _; decide) (.inl rfl) (by simp [allWr, keys, Res.wr]) ?_
      repeat' (first | omega | assumption | (show AL.ahead _ _ _ = true; rfl) | refine brF (fun _ => ?_) (fun _ => ?_) | refine brT (fun _ => ?_) (fun _ => ?_) | refine brVF (fun _ => ?_) (fun _ => ?_) | refine brVT (fun _ => ?_) (fun _ => ?_) | (with_reducible refine And.intro ?_ ?_) | (simp -dsimp -implicitDefEqProofs only [go_sem, ↓reduceIte, Nat.reduceEqDiff, Nat.reduceAdd, Nat.reduceMul, Nat.reduceLeDiff, Nat.reduceLT, Nat.reduceBEq, Nat.reducePow, Int.reduceToNat, Int.reduceLE, Int.reduceLT, Int.reduceNeg, reduceCtorEq, Int.reduceEq, Int.reduceAdd, Int.reduceSub, Int.reduceMul, Nat.reduceSub, Option.isNone_some]))
    exact h.forget0 ⟨rfl, .inr ⟨.inl rfl, .inl rfl⟩⟩ (by simp [AV.nb, AV.nbs]) (by simp [keys])
theorem cloneO_spec (nx t : Nat) (l : List Out_) (hl : l.length < 2 ^ 40) (ht : t < 2 ∨ t - 2 < nx) : FnSpec Tryz.prog 132 nx [.sl 2 (outsA l) t] [] (.sl 2 (outsA l) 0) [] 0 := by
  cases l with
  | nil => exact cloneO_nil nx t
  | cons a l =>
    have e : outsA (a :: l) = outA a :: outsA l := rfl
    simp only [List.length_cons] at hl
    have h : FnSpec Tryz.prog 132 nx [.sl 2 (outsA (a :: l)) t] [] (.sl 2 (outsA (a :: l)) (nx + 42)) [(nx + 40, some (.tail (outsA (a :: l)).length))] 60 := by
      rw [e]
      refine FnSpec.of_code (cx := cx) (an := {}) (rs := [.tmp 2]) mo Tryz.func132 rfl rfl (by kernel_rfl) (by kernel_rfl) (by show 1 ≤ _; decide) (.inl rfl) (by simp [allWr, keys, Res.wr]) ?_
      repeat' (first | omega | assumption | (show AL.ahead _ _ _ = true; rfl) | refine brF (fun _ => ?_) (fun _ => ?_) | refine brT (fun _ => ?_) (fun _ => ?_) | refine brVF (fun _ => ?_) (fun _ => ?_) | refine brVT (fun _ => ?_) (fun _ => ?_) | (with_reducible refine And.intro ?_ ?_) | (simp -dsimp -implicitDefEqProofs only [go_sem, ↓reduceIte, Nat.reduceEqDiff, Nat.reduceAdd, Nat.reduceMul, Nat.reduceLeDiff, Nat.reduceLT, Nat.reduceBEq, Nat.reducePow, Int.reduceToNat, Int.reduceLE, Int.reduceLT, Int.reduceNeg, reduceCtorEq, Int.reduceEq, Int.reduceAdd, Int.reduceSub, Int.reduceMul, Nat.reduceSub]))
      all_goals trace_state
    exact h.forget0 ⟨rfl, .inr ⟨.inl rfl, .inl rfl⟩⟩ (by simp [AV.nb, nb_outs]) (by simp [keys])
theorem newOk_spec (nx tok : Nat) (os : List Out_) (hE : newE 0 os = 0) (hl : os.length ≤ 16) (hL : ∀ o ∈ os, o.ways.length < 2 ^ 40 ∧ ∀ w ∈ o.ways, w.keys.length < 2 ^ 32) (hb : (bodyL true (txO os)).length < 2 ^ 38) (ht : tok < 2 ∨ tok - 2 < nx) :
    FnSpec Tryz.prog 68 nx [.sl 2 (outsA os) tok] [] (.tup [.ref (newN (nx + 88)).l 0 [], sumA (txS (txO os)), n64 0]) (ledH (newN (nx + 88)) (newS os)) 4000 := by
  have hcl := fun nc (q : nx ≤ nc) => cloneO_spec nc tok os (by omega) (by omega)
  have hsm := fun nc => (txSum_spec nc (txO os) hb (fun o ho w hw => (hL o ho).2 w hw)).le (args := [txOA os]) ⟨_, _, rfl, txO_le os, rfl⟩
  refine FnSpec.of_code (cx := cx) (an := {tk := [(45, [([4], 32)])], mt := [46]}) (rs := [.tmp 2, .cell 3 23, .tmp 4]) mo Tryz.func68 rfl rfl (by kernel_rfl) (by kernel_rfl) (by show 1 ≤ _; decide) (.inr ⟨_, rfl, by simp [AV.good, sumA]⟩) (by simp [allWr, keys, Res.wr]) ?_
  repeat' (first | omega | assumption | (show AL.ahead _ _ _ = true; rfl) | refine brF (fun _ => ?_) (fun _ => ?_) | refine brT (fun _ => ?_) (fun _ => ?_) | refine brVF (fun _ => ?_) (fun _ => ?_) | refine brVT (fun _ => ?_) (fun _ => ?_) | (with_reducible refine And.intro ?_ ?_) | (simp -dsimp -implicitDefEqProofs only [go_sem, ↓reduceIte, Nat.reduceEqDiff, Nat.reduceAdd, Nat.reduceMul, Nat.reduceLeDiff, Nat.reduceLT, Nat.reduceBEq, Nat.reducePow, Int.reduceToNat, Int.reduceLE, Int.reduceLT, Int.reduceNeg, reduceCtorEq, Int.reduceEq, Int.reduceAdd, Int.reduceSub, Int.reduceMul, Nat.reduceSub]))
  apply loop_keep [0, 3, 13, 14] (fun p : { p : Nat × Int // p.1 ≤ os.length ∧ newE p.2 (os.drop p.1) = 0 } => [(5, n64 p.1.2), (15, n64 p.1.1)]) (fun p => [(nx + 8, some (.obj (sumA zeroS)))]) (fun p => os.length - p.1.1) ⟨(0, 0), Nat.zero_le _, hE⟩
  · simp -dsimp -implicitDefEqProofs only [go_sem, ↓reduceIte, Nat.reduceEqDiff, Nat.reduceAdd, Nat.reduceMul, Nat.reduceLeDiff, Nat.reduceLT, Nat.reduceBEq, Nat.reducePow, Int.reduceToNat, Int.reduceLE, Int.reduceLT, Int.reduceNeg, reduceCtorEq, Int.reduceEq, Int.reduceAdd, Int.reduceSub, Int.reduceMul, Nat.reduceSub]; try rfl
  · simp -dsimp -implicitDefEqProofs only [go_sem, ↓reduceIte, Nat.reduceEqDiff, Nat.reduceAdd, Nat.reduceMul, Nat.reduceLeDiff, Nat.reduceLT, Nat.reduceBEq, Nat.reducePow, Int.reduceToNat, Int.reduceLE, Int.reduceLT, Int.reduceNeg, reduceCtorEq, Int.reduceEq, Int.reduceAdd, Int.reduceSub, Int.reduceMul, Nat.reduceSub]; try rfl
  · simp -dsimp -implicitDefEqProofs only [go_sem, ↓reduceIte, Nat.reduceEqDiff, Nat.reduceAdd, Nat.reduceMul, Nat.reduceLeDiff, Nat.reduceLT, Nat.reduceBEq, Nat.reducePow, Int.reduceToNat, Int.reduceLE, Int.reduceLT, Int.reduceNeg, reduceCtorEq, Int.reduceEq, Int.reduceAdd, Int.reduceSub, Int.reduceMul, Nat.reduceSub]; try rfl
  · intro s
    simp -dsimp -implicitDefEqProofs only [go_sem, ↓reduceIte, Nat.reduceEqDiff, Nat.reduceAdd, Nat.reduceMul, Nat.reduceLeDiff, Nat.reduceLT, Nat.reduceBEq, Nat.reducePow, Int.reduceToNat, Int.reduceLE, Int.reduceLT, Int.reduceNeg, reduceCtorEq, Int.reduceEq, Int.reduceAdd, Int.reduceSub, Int.reduceMul, Nat.reduceSub]
    try omega
  · rintro ⟨⟨i, s⟩, hi, hall⟩
    have hi : i ≤ os.length := hi
    simp only at hall
    simp -dsimp -implicitDefEqProofs only [go_sem, ↓reduceIte, Nat.reduceEqDiff, Nat.reduceAdd, Nat.reduceMul, Nat.reduceLeDiff, Nat.reduceLT, Nat.reduceBEq, Nat.reducePow, Int.reduceToNat, Int.reduceLE, Int.reduceLT, Int.reduceNeg, reduceCtorEq, Int.reduceEq, Int.reduceAdd, Int.reduceSub, Int.reduceMul, Nat.reduceSub]
    refine brT (fun hc => ?_) (fun hc => ?_)
    · have hi2 : i < os.length := by omega
      have q1 := outs_get hi2
      have hd := List.drop_eq_getElem_cons hi2
      rw [hd] at hall
      obtain ⟨l1, l2⟩ := hL _ (List.getElem_mem hi2)
      generalize os[i] = y at *
      have w1 : IntKind.i64.wrap ((i : Int) + 1) = ((i + 1 : Nat) : Int) := wrapE (by omega) (by omega)
      have hob := fun nc => outR_spec nc y l1 (fun w hw => Nat.lt_trans (l2 w hw) (by decide))
      have had := fun nc => add_spec nc [s, y.amount] (by simp)
      simp only [vals, List.map_cons, List.map_nil] at had
      simp only [newE] at hall
      have e1 : outB y = true := by
        rcases Bool.eq_false_or_eq_true (outB y) with q | q
        · exact q
        · rw [if_pos q] at hall; exact absurd hall (by decide)
      rw [if_neg (by rw [e1]; decide)] at hall
      have e2 : (addF 0 [s, y.amount]).2 = 0 := by
        rcases Classical.em ((addF 0 [s, y.amount]).2 = 0) with q | q
        · exact q
        · rw [if_pos q] at hall; exact hall
      rw [if_neg (fun q => q e2)] at hall
      rw [e1] at hob
      rw [e2] at had
      repeat' (first | omega | assumption | (show AL.ahead _ _ _ = true; rfl) | refine brF (fun _ => ?_) (fun _ => ?_) | refine brT (fun _ => ?_) (fun _ => ?_) | refine brVF (fun _ => ?_) (fun _ => ?_) | refine brVT (fun _ => ?_) (fun _ => ?_) | (with_reducible refine And.intro ?_ ?_) | (refine callK_by (hob _) ?_) | (refine callK_by (had _) ?_) | (simp -dsimp -implicitDefEqProofs only [go_sem, ↓reduceIte, Nat.reduceEqDiff, Nat.reduceAdd, Nat.reduceMul, Nat.reduceLeDiff, Nat.reduceLT, Nat.reduceBEq, Nat.reducePow, Int.reduceToNat, Int.reduceLE, Int.reduceLT, Int.reduceNeg, reduceCtorEq, Int.reduceEq, Int.reduceAdd, Int.reduceSub, Int.reduceMul, Nat.reduceSub, q1, w1, outA]))
      all_goals first
        | exact ⟨⟨(i + 1, (addF 0 [s, y.amount]).1), hi2, hall⟩, by show os.length - (i + 1) < os.length - i; omega, rfl, rfl⟩
        | trace_state
    · have hgt : ((16 : Int) < (os.length : Int)) = False := eq_false (by omega)
      have hcm := fun nc (q : nx + 300 ≤ nc) => (come_spec nc (newN (nx + 88)) ⟨[], [], [], [], [], [], 0⟩ (txS (txO os)) (txO os) 0 (newN_ok (by omega)) (show os.length < 2 ^ 40 by omega) (fun o ho => ⟨(hL o ho).1, fun w hw => Nat.lt_trans ((hL o ho).2 w hw) (by decide)⟩) (by show 0 < _; decide)).le (args := [.ref (newN (nx + 88)).l 0 [], sumA (txS (txO os)), txOA os, n64 0]) ⟨_, _, rfl, AV.le_refl _, _, _, rfl, AV.le_refl _, _, _, rfl, txO_le os, _, _, rfl, AV.le_refl _, rfl⟩
      simp only [newN, ledA, txOA, Nat.add_assoc, Nat.reduceAdd, sumsA, List.map_nil, enc_nil, List.length_nil] at hcm
      repeat' (first | omega | assumption | (show AL.ahead _ _ _ = true; rfl) | refine brF (fun _ => ?_) (fun _ => ?_) | refine brT (fun _ => ?_) (fun _ => ?_) | refine brVF (fun _ => ?_) (fun _ => ?_) | refine brVT (fun _ => ?_) (fun _ => ?_) | (with_reducible refine And.intro ?_ ?_) | (refine callK_by (newv_spec _) ?_) | (refine callK_by (newb_spec _) ?_) | (refine callK_by (hcl _ (by omega)) ?_) | (refine callK_by (hsm _) ?_) | (refine callK_by (hcm _ (by omega)) ?_) | (simp -dsimp -implicitDefEqProofs only [go_sem, ↓reduceIte, Nat.reduceEqDiff, Nat.reduceAdd, Nat.reduceMul, Nat.reduceLeDiff, Nat.reduceLT, Nat.reduceBEq, Nat.reducePow, Int.reduceToNat, Int.reduceLE, Int.reduceLT, Int.reduceNeg, reduceCtorEq, Int.reduceEq, Int.reduceAdd, Int.reduceSub, Int.reduceMul, Nat.reduceSub, hgt, gt_iff_lt, enc_nil, newN, ledA, newS, boardA]))
      all_goals first | rfl | trace_state
end Go.Proofs.YthfoeaokfhbdaaaGreat

/-
  A view of one coin: all its coins, and how much they are.
-/
set_option linter.unusedSimpArgs false
set_option linter.unusedVariables false
set_option maxRecDepth 100000
set_option maxHeartbeats 2000000
namespace Go.Proofs.YthfoeaokfhbdaaaGreat
open Go Go.AL Go.Proofs.YthfoeaokfhbdaaaGreat.T
def rowA (p : Ref_ × Coin_) : AV := .agg 36 [refA p.1, coinA p.2]
theorem rowA_good (r : Ref_ × Coin_) : (rowA r).good = true := rfl
theorem rowA_agg (r : Ref_ × Coin_) : (rowA r).isAgg = true := rfl
theorem rowA_csz (r : Ref_ × Coin_) : (rowA r).csize = 36 := rfl
theorem nb_row {m : Nat} (r : Ref_ × Coin_) : AV.nb m (rowA r) = True := by simp [rowA, AV.nb, AV.nbs, nb_ref, nb_coin]
attribute [local go_sem] nb_u8s u8s_length nb_sum List.length_replicate zero_sum sum_h u8s_nil rowA_good rowA_agg rowA_csz nb_row nb_ref nb_coin refA_good refA_agg refA_csz coinA_good coinA_agg coinA_csz nbK_ref nbV_coin kk_ref k1_ref
theorem len64_one (nx : Nat) : FnSpec Tryz.prog 229 nx [.val (.int .u64 1)] [] (n64 1) [] 0 := by
  refine FnSpec.of_code (cx := cx) (an := {}) (rs := [.tmp 2]) mo Tryz.func229 rfl rfl (by kernel_rfl) (by kernel_rfl) (by show 1 ≤ _; decide) (.inl rfl) (by simp [allWr, keys, Res.wr]) ?_
  repeat' (first | omega | assumption | (show AL.ahead _ _ _ = true; rfl) | refine brF (fun _ => ?_) (fun _ => ?_) | refine brT (fun _ => ?_) (fun _ => ?_) | refine brVF (fun _ => ?_) (fun _ => ?_) | refine brVT (fun _ => ?_) (fun _ => ?_) | (with_reducible refine And.intro ?_ ?_) | (simp -dsimp -implicitDefEqProofs only [go_sem, ↓reduceIte, Nat.reduceEqDiff, Nat.reduceAdd, Nat.reduceMul, Nat.reduceLeDiff, Nat.reduceLT, Nat.reduceBEq, Nat.reducePow, Int.reduceToNat, Int.reduceLE, Int.reduceLT, Int.reduceNeg, reduceCtorEq, Int.reduceEq, Int.reduceAdd, Int.reduceSub, Int.reduceMul, Nat.reduceSub]))
  all_goals first | kernel_rfl | decide +kernel | trace_state
theorem len_one (nx : Nat) : FnSpec Tryz.prog 204 nx [.val (.int .u64 1)] [] (n64 1) [] 0 := by
  refine FnSpec.of_code (cx := cx) (an := {}) (rs := [.tmp 2]) mo Tryz.func204 rfl rfl (by kernel_rfl) (by kernel_rfl) (by show 1 ≤ _; decide) (.inl rfl) (by simp [allWr, keys, Res.wr]) ?_
  repeat' (first | omega | assumption | (show AL.ahead _ _ _ = true; rfl) | refine brF (fun _ => ?_) (fun _ => ?_) | refine brT (fun _ => ?_) (fun _ => ?_) | refine brVF (fun _ => ?_) (fun _ => ?_) | refine brVT (fun _ => ?_) (fun _ => ?_) | (with_reducible refine And.intro ?_ ?_) | (refine callK_by (len64_one _) ?_) | (simp -dsimp -implicitDefEqProofs only [go_sem, ↓reduceIte, Nat.reduceEqDiff, Nat.reduceAdd, Nat.reduceMul, Nat.reduceLeDiff, Nat.reduceLT, Nat.reduceBEq, Nat.reducePow, Int.reduceToNat, Int.reduceLE, Int.reduceLT, Int.reduceNeg, reduceCtorEq, Int.reduceEq, Int.reduceAdd, Int.reduceSub, Int.reduceMul, Nat.reduceSub]))
  all_goals trace_state
theorem insRow_spec (nx t : Nat) (x : AV) (f : Nat) (hx : ∀ m, x.nb m) (ht : t < 2 ∨ t - 2 < nx) : FnSpec Tryz.prog 220 nx [.sl 36 [x] t, n64 0, n64 1, .clos f []] [] (.tup []) [] 0 := by
  refine FnSpec.of_code (cx := cx) (an := {}) (rs := []) mo Tryz.func220 rfl rfl (by kernel_rfl) (by kernel_rfl) (by show 4 ≤ _; decide) (.inr ⟨_, rfl, by simp [AV.good]⟩) (by simp [allWr, keys, Res.wr]) ?_
  repeat' (first | omega | assumption | (show AL.ahead _ _ _ = true; rfl) | refine brF (fun _ => ?_) (fun _ => ?_) | refine brT (fun _ => ?_) (fun _ => ?_) | refine brVF (fun _ => ?_) (fun _ => ?_) | refine brVT (fun _ => ?_) (fun _ => ?_) | (with_reducible refine And.intro ?_ ?_) | (simp -dsimp -implicitDefEqProofs only [go_sem, ↓reduceIte, Nat.reduceEqDiff, Nat.reduceAdd, Nat.reduceMul, Nat.reduceLeDiff, Nat.reduceLT, Nat.reduceBEq, Nat.reducePow, Int.reduceToNat, Int.reduceLE, Int.reduceLT, Int.reduceNeg, reduceCtorEq, Int.reduceEq, Int.reduceAdd, Int.reduceSub, Int.reduceMul, Nat.reduceSub, w1_64]))
  apply loop_keep [0, 1, 2, 3] (fun _ : Unit => [(8, n64 1)]) (fun _ => []) (fun _ => 0) ()
  · simp -dsimp -implicitDefEqProofs only [go_sem, ↓reduceIte, Nat.reduceEqDiff, Nat.reduceAdd, Nat.reduceMul, Nat.reduceLeDiff, Nat.reduceLT, Nat.reduceBEq, Nat.reducePow, Int.reduceToNat, Int.reduceLE, Int.reduceLT, Int.reduceNeg, reduceCtorEq, Int.reduceEq, Int.reduceAdd, Int.reduceSub, Int.reduceMul, Nat.reduceSub]; rfl
  · simp -dsimp -implicitDefEqProofs only [go_sem, ↓reduceIte, Nat.reduceEqDiff, Nat.reduceAdd, Nat.reduceMul, Nat.reduceLeDiff, Nat.reduceLT, Nat.reduceBEq, Nat.reducePow, Int.reduceToNat, Int.reduceLE, Int.reduceLT, Int.reduceNeg, reduceCtorEq, Int.reduceEq, Int.reduceAdd, Int.reduceSub, Int.reduceMul, Nat.reduceSub]; try rfl
  · simp -dsimp -implicitDefEqProofs only [go_sem, ↓reduceIte, Nat.reduceEqDiff, Nat.reduceAdd, Nat.reduceMul, Nat.reduceLeDiff, Nat.reduceLT, Nat.reduceBEq, Nat.reducePow, Int.reduceToNat, Int.reduceLE, Int.reduceLT, Int.reduceNeg, reduceCtorEq, Int.reduceEq, Int.reduceAdd, Int.reduceSub, Int.reduceMul, Nat.reduceSub]; try rfl
  · intro s
    simp -dsimp -implicitDefEqProofs only [go_sem, ↓reduceIte, Nat.reduceEqDiff, Nat.reduceAdd, Nat.reduceMul, Nat.reduceLeDiff, Nat.reduceLT, Nat.reduceBEq, Nat.reducePow, Int.reduceToNat, Int.reduceLE, Int.reduceLT, Int.reduceNeg, reduceCtorEq, Int.reduceEq, Int.reduceAdd, Int.reduceSub, Int.reduceMul, Nat.reduceSub, hx]
    try omega
  · rintro ⟨⟩
    repeat' (first | omega | assumption | (show AL.ahead _ _ _ = true; rfl) | refine brF (fun _ => ?_) (fun _ => ?_) | refine brT (fun _ => ?_) (fun _ => ?_) | refine brVF (fun _ => ?_) (fun _ => ?_) | refine brVT (fun _ => ?_) (fun _ => ?_) | (with_reducible refine And.intro ?_ ?_) | (simp -dsimp -implicitDefEqProofs only [go_sem, ↓reduceIte, Nat.reduceEqDiff, Nat.reduceAdd, Nat.reduceMul, Nat.reduceLeDiff, Nat.reduceLT, Nat.reduceBEq, Nat.reducePow, Int.reduceToNat, Int.reduceLE, Int.reduceLT, Int.reduceNeg, reduceCtorEq, Int.reduceEq, Int.reduceAdd, Int.reduceSub, Int.reduceMul, Nat.reduceSub, w1_64]))
theorem pdqRow_spec (nx t : Nat) (x : AV) (f : Nat) (hx : ∀ m, x.nb m) (ht : t < 2 ∨ t - 2 < nx) : FnSpec Tryz.prog 203 nx [.sl 36 [x] t, n64 0, n64 1, n64 1, .clos f []] [] (.tup []) [] 0 := by
  refine FnSpec.of_code (cx := cx) (an := {}) (rs := []) mo Tryz.func203 rfl rfl (by kernel_rfl) (by kernel_rfl) (by show 5 ≤ _; decide) (.inr ⟨_, rfl, by simp [AV.good]⟩) (by simp [allWr, keys, Res.wr]) ?_
  repeat' (first | omega | assumption | (show AL.ahead _ _ _ = true; rfl) | refine brF (fun _ => ?_) (fun _ => ?_) | refine brT (fun _ => ?_) (fun _ => ?_) | refine brVF (fun _ => ?_) (fun _ => ?_) | refine brVT (fun _ => ?_) (fun _ => ?_) | (with_reducible refine And.intro ?_ ?_) | (simp -dsimp -implicitDefEqProofs only [go_sem, ↓reduceIte, Nat.reduceEqDiff, Nat.reduceAdd, Nat.reduceMul, Nat.reduceLeDiff, Nat.reduceLT, Nat.reduceBEq, Nat.reducePow, Int.reduceToNat, Int.reduceLE, Int.reduceLT, Int.reduceNeg, reduceCtorEq, Int.reduceEq, Int.reduceAdd, Int.reduceSub, Int.reduceMul, Nat.reduceSub, w1_64]))
  apply loop_keep [0, 4] (fun _ : Unit => [(1, n64 0), (2, n64 1), (3, n64 1), (10, bA true), (11, bA true)]) (fun _ => []) (fun _ => 0) ()
  · simp -dsimp -implicitDefEqProofs only [go_sem, ↓reduceIte, Nat.reduceEqDiff, Nat.reduceAdd, Nat.reduceMul, Nat.reduceLeDiff, Nat.reduceLT, Nat.reduceBEq, Nat.reducePow, Int.reduceToNat, Int.reduceLE, Int.reduceLT, Int.reduceNeg, reduceCtorEq, Int.reduceEq, Int.reduceAdd, Int.reduceSub, Int.reduceMul, Nat.reduceSub]; rfl
  · simp -dsimp -implicitDefEqProofs only [go_sem, ↓reduceIte, Nat.reduceEqDiff, Nat.reduceAdd, Nat.reduceMul, Nat.reduceLeDiff, Nat.reduceLT, Nat.reduceBEq, Nat.reducePow, Int.reduceToNat, Int.reduceLE, Int.reduceLT, Int.reduceNeg, reduceCtorEq, Int.reduceEq, Int.reduceAdd, Int.reduceSub, Int.reduceMul, Nat.reduceSub]; try rfl
  · simp -dsimp -implicitDefEqProofs only [go_sem, ↓reduceIte, Nat.reduceEqDiff, Nat.reduceAdd, Nat.reduceMul, Nat.reduceLeDiff, Nat.reduceLT, Nat.reduceBEq, Nat.reducePow, Int.reduceToNat, Int.reduceLE, Int.reduceLT, Int.reduceNeg, reduceCtorEq, Int.reduceEq, Int.reduceAdd, Int.reduceSub, Int.reduceMul, Nat.reduceSub]; try rfl
  · intro s
    simp -dsimp -implicitDefEqProofs only [go_sem, ↓reduceIte, Nat.reduceEqDiff, Nat.reduceAdd, Nat.reduceMul, Nat.reduceLeDiff, Nat.reduceLT, Nat.reduceBEq, Nat.reducePow, Int.reduceToNat, Int.reduceLE, Int.reduceLT, Int.reduceNeg, reduceCtorEq, Int.reduceEq, Int.reduceAdd, Int.reduceSub, Int.reduceMul, Nat.reduceSub, hx]
    try omega
  · rintro ⟨⟩
    repeat' (first | omega | assumption | (show AL.ahead _ _ _ = true; rfl) | refine brF (fun _ => ?_) (fun _ => ?_) | refine brT (fun _ => ?_) (fun _ => ?_) | refine brVF (fun _ => ?_) (fun _ => ?_) | refine brVT (fun _ => ?_) (fun _ => ?_) | (with_reducible refine And.intro ?_ ?_) | (refine callK_by (insRow_spec _ t x f hx (by omega)) ?_) | (simp -dsimp -implicitDefEqProofs only [go_sem, ↓reduceIte, Nat.reduceEqDiff, Nat.reduceAdd, Nat.reduceMul, Nat.reduceLeDiff, Nat.reduceLT, Nat.reduceBEq, Nat.reducePow, Int.reduceToNat, Int.reduceLE, Int.reduceLT, Int.reduceNeg, reduceCtorEq, Int.reduceEq, Int.reduceAdd, Int.reduceSub, Int.reduceMul, Nat.reduceSub, w1_64]))
    all_goals trace_state
theorem sortRow_spec (nx t : Nat) (x : AV) (f : Nat) (hx : ∀ m, x.nb m) (ht : t < 2 ∨ t - 2 < nx) : FnSpec Tryz.prog 171 nx [.sl 36 [x] t, .clos f []] [] (.tup []) [] 0 := by
  refine FnSpec.of_code (cx := cx) (an := {}) (rs := []) mo Tryz.func171 rfl rfl (by kernel_rfl) (by kernel_rfl) (by show 2 ≤ _; decide) (.inr ⟨_, rfl, by simp [AV.good]⟩) (by simp [allWr, keys, Res.wr]) ?_
  repeat' (first | omega | assumption | (show AL.ahead _ _ _ = true; rfl) | refine brF (fun _ => ?_) (fun _ => ?_) | refine brT (fun _ => ?_) (fun _ => ?_) | refine brVF (fun _ => ?_) (fun _ => ?_) | refine brVT (fun _ => ?_) (fun _ => ?_) | (with_reducible refine And.intro ?_ ?_) | (refine callK_by (pdqRow_spec _ t x f hx (by omega)) ?_) | (refine callK_by (len_one _) ?_) | (simp -dsimp -implicitDefEqProofs only [go_sem, ↓reduceIte, Nat.reduceEqDiff, Nat.reduceAdd, Nat.reduceMul, Nat.reduceLeDiff, Nat.reduceLT, Nat.reduceBEq, Nat.reducePow, Int.reduceToNat, Int.reduceLE, Int.reduceLT, Int.reduceNeg, reduceCtorEq, Int.reduceEq, Int.reduceAdd, Int.reduceSub, Int.reduceMul, Nat.reduceSub]))
  all_goals trace_state
theorem perm_one {α : Type} {a : α} {l : List α} (h : l.Perm [a]) : l = [a] := List.perm_singleton.1 h
/-- what was seen of one entry: nothing, or it -/
theorem seen_one (se : Seen 1) : se.1 = [] ∨ se.1 = [0] := by
  obtain ⟨se, h1, h2⟩ := se
  cases se with
  | nil => exact .inl rfl
  | cons a r =>
    right
    have ha := h2 a List.mem_cons_self
    have : a = 0 := by omega
    subst this
    cases r with
    | nil => rfl
    | cons b r =>
      have hb := h2 b (List.mem_cons_of_mem _ List.mem_cons_self)
      have : b = 0 := by omega
      subst this
      simp at h1
noncomputable def cn0 : Ref_ × Coin_ := (⟨zeroS, 0⟩, ⟨⟨0, []⟩, 0⟩)
theorem vall_one (nx v vm : Nat) (p : Ref_ × Coin_) (hv : v < nx) (hm : vm < nx) (hne : v ≠ vm) :
    FnSpec Tryz.prog 129 nx [.ref v 0 []] (viewR v vm [p]) (.sl 36 [rowA p] 0) [] 0 := by
  have x1 := ltF hv
  have x2 := ltF hm
  have x3 := neF hne
  have hso := fun nc (q : nx + 25 < nc) => sortRow_spec nc (nx + 27) (rowA p) 172 (fun m => by rw [nb_row]; trivial) (by omega)
  have hnb : ∀ (m : Nat) (se : List Nat), AV.nbs m (se.map fun _ => rowA p) = True := fun m se => by
    simp only [eq_iff_iff, iff_true]
    exact nbs_map (fun s => by rw [nb_row]; trivial) se
  have h : FnSpec Tryz.prog 129 nx [.ref v 0 []] (viewR v vm [p]) (.sl 36 [rowA p] (nx + 27)) [(nx + 25, some (.tail 1))] 2000 := by
    refine FnSpec.of_code (cx := cx) (an := {tk := [(3, [([], 36)])], vw := [4], nxt := [5]}) (rs := [.tmp 2]) mo Tryz.func129 rfl rfl (by kernel_rfl) (by kernel_rfl) (by show 1 ≤ _; decide) (.inl rfl) (by simp [allWr, keys, Res.wr]) ?_
    repeat' (first | omega | assumption | (show AL.ahead _ _ _ = true; rfl) | refine brF (fun _ => ?_) (fun _ => ?_) | refine brT (fun _ => ?_) (fun _ => ?_) | refine brVF (fun _ => ?_) (fun _ => ?_) | refine brVT (fun _ => ?_) (fun _ => ?_) | (with_reducible refine And.intro ?_ ?_) | (refine callK_by (vnone_spec _ v vm (by omega)) ?_) | (simp -dsimp -implicitDefEqProofs only [go_sem, ↓reduceIte, Nat.reduceEqDiff, Nat.reduceAdd, Nat.reduceMul, Nat.reduceLeDiff, Nat.reduceLT, Nat.reduceBEq, Nat.reducePow, Int.reduceToNat, Int.reduceLE, Int.reduceLT, Int.reduceNeg, reduceCtorEq, Int.reduceEq, Int.reduceAdd, Int.reduceSub, Int.reduceMul, Nat.reduceSub, x1, x2, x3]))
    refine view_enc (kA := refA) (vA := coinA) vm [p] (by simp only [Heap.get, x2, x3, if_true, if_false]) (fun l' bs clk hp => ?_)
    obtain rfl := perm_one hp
    repeat' (first | omega | assumption | (show AL.ahead _ _ _ = true; rfl) | refine brF (fun _ => ?_) (fun _ => ?_) | refine brT (fun _ => ?_) (fun _ => ?_) | refine brVF (fun _ => ?_) (fun _ => ?_) | refine brVT (fun _ => ?_) (fun _ => ?_) | (with_reducible refine And.intro ?_ ?_) | (simp -dsimp -implicitDefEqProofs only [go_sem, ↓reduceIte, Nat.reduceEqDiff, Nat.reduceAdd, Nat.reduceMul, Nat.reduceLeDiff, Nat.reduceLT, Nat.reduceBEq, Nat.reducePow, Int.reduceToNat, Int.reduceLE, Int.reduceLT, Int.reduceNeg, reduceCtorEq, Int.reduceEq, Int.reduceAdd, Int.reduceSub, Int.reduceMul, Nat.reduceSub, x1, x2, x3]))
    apply loop_keep [12] (fun se : Seen 1 => [(3, .sl 36 (se.1.map fun _ => rowA p) (nx + 27))]) (fun se => [(nx + 25, some (.tail se.1.length)), (nx + 64, some (.itr vm bs clk se.1)), (vm, some (.xmp (coinsE [p]) bs clk))]) (fun se => 1 - se.1.length) Seen.nil
    · simp -dsimp -implicitDefEqProofs only [go_sem, ↓reduceIte, Nat.reduceEqDiff, Nat.reduceAdd, Nat.reduceMul, Nat.reduceLeDiff, Nat.reduceLT, Nat.reduceBEq, Nat.reducePow, Int.reduceToNat, Int.reduceLE, Int.reduceLT, Int.reduceNeg, reduceCtorEq, Int.reduceEq, Int.reduceAdd, Int.reduceSub, Int.reduceMul, Nat.reduceSub]; try rfl
    · simp -dsimp -implicitDefEqProofs only [go_sem, ↓reduceIte, Nat.reduceEqDiff, Nat.reduceAdd, Nat.reduceMul, Nat.reduceLeDiff, Nat.reduceLT, Nat.reduceBEq, Nat.reducePow, Int.reduceToNat, Int.reduceLE, Int.reduceLT, Int.reduceNeg, reduceCtorEq, Int.reduceEq, Int.reduceAdd, Int.reduceSub, Int.reduceMul, Nat.reduceSub]; try rfl
    · simp -dsimp -implicitDefEqProofs only [go_sem, ↓reduceIte, Nat.reduceEqDiff, Nat.reduceAdd, Nat.reduceMul, Nat.reduceLeDiff, Nat.reduceLT, Nat.reduceBEq, Nat.reducePow, Int.reduceToNat, Int.reduceLE, Int.reduceLT, Int.reduceNeg, reduceCtorEq, Int.reduceEq, Int.reduceAdd, Int.reduceSub, Int.reduceMul, Nat.reduceSub, x1, x2, x3]; try exact ⟨rfl, rfl⟩
    · intro s
      simp -dsimp -implicitDefEqProofs only [go_sem, ↓reduceIte, Nat.reduceEqDiff, Nat.reduceAdd, Nat.reduceMul, Nat.reduceLeDiff, Nat.reduceLT, Nat.reduceBEq, Nat.reducePow, Int.reduceToNat, Int.reduceLE, Int.reduceLT, Int.reduceNeg, reduceCtorEq, Int.reduceEq, Int.reduceAdd, Int.reduceSub, Int.reduceMul, Nat.reduceSub, hnb]
      try omega
    · intro se
      simp -dsimp -implicitDefEqProofs only [go_sem, ↓reduceIte, Nat.reduceEqDiff, Nat.reduceAdd, Nat.reduceMul, Nat.reduceLeDiff, Nat.reduceLT, Nat.reduceBEq, Nat.reducePow, Int.reduceToNat, Int.reduceLE, Int.reduceLT, Int.reduceNeg, reduceCtorEq, Int.reduceEq, Int.reduceAdd, Int.reduceSub, Int.reduceMul, Nat.reduceSub, x1, x2, x3]
      refine steps_by (fun j hj => se.2.2 j hj) (fun hall => ?_) (fun i hi hni => ?_)
      · have h0 : 0 ∈ se.1 := hall 0 (by rw [enc_len]; exact Nat.zero_lt_one)
        have h1 : se.1 = [0] := (seen_one se).resolve_left (fun q => by rw [q] at h0; simp at h0)
        have h2 : se.1.map (fun _ => rowA p) = [rowA p] := by rw [h1]; rfl
        have h3 : se.1.length = 1 := by rw [h1]; rfl
        repeat' (first | omega | assumption | (show AL.ahead _ _ _ = true; rfl) | refine brF (fun _ => ?_) (fun _ => ?_) | refine brT (fun _ => ?_) (fun _ => ?_) | refine brVF (fun _ => ?_) (fun _ => ?_) | refine brVT (fun _ => ?_) (fun _ => ?_) | (with_reducible refine And.intro ?_ ?_) | (refine callK_by (hso _ (by omega)) ?_) | (simp -dsimp -implicitDefEqProofs only [go_sem, ↓reduceIte, Nat.reduceEqDiff, Nat.reduceAdd, Nat.reduceMul, Nat.reduceLeDiff, Nat.reduceLT, Nat.reduceBEq, Nat.reducePow, Int.reduceToNat, Int.reduceLE, Int.reduceLT, Int.reduceNeg, reduceCtorEq, Int.reduceEq, Int.reduceAdd, Int.reduceSub, Int.reduceMul, Nat.reduceSub, h2, h3]))
        all_goals first | exact ⟨rfl, rfl⟩ | rfl | trace_state
      · rw [enc_len] at hi
        have hi0 : i = 0 := by simpa using hi
        subst hi0
        have h1 : se.1 = [] := (seen_one se).resolve_right (fun q => hni (by rw [q]; simp))
        have h2 : se.1.map (fun _ => rowA p) = [] := by rw [h1]; rfl
        have h3 : se.1.length = 0 := by rw [h1]; rfl
        have hg := enc_get (kA := refA) (vA := coinA) (d := cn0) hi
        have hp0 : (([p] : List (Ref_ × Coin_)).getD 0 cn0) = p := rfl
        rw [hp0] at hg
        repeat' (first | omega | assumption | (show AL.ahead _ _ _ = true; rfl) | refine brF (fun _ => ?_) (fun _ => ?_) | refine brT (fun _ => ?_) (fun _ => ?_) | refine brVF (fun _ => ?_) (fun _ => ?_) | refine brVT (fun _ => ?_) (fun _ => ?_) | (with_reducible refine And.intro ?_ ?_) | (simp -dsimp -implicitDefEqProofs only [go_sem, ↓reduceIte, Nat.reduceEqDiff, Nat.reduceAdd, Nat.reduceMul, Nat.reduceLeDiff, Nat.reduceLT, Nat.reduceBEq, Nat.reducePow, Int.reduceToNat, Int.reduceLE, Int.reduceLT, Int.reduceNeg, reduceCtorEq, Int.reduceEq, Int.reduceAdd, Int.reduceSub, Int.reduceMul, Nat.reduceSub, x1, x2, x3, hg, h2, h3, List.append_eq, List.cons_append, List.nil_append]))
        all_goals first
          | exact ⟨⟨[0], by decide⟩, by decide, rfl, rfl, by rw [h1]⟩
          | trace_state
  exact h.forget ⟨rfl, .inr ⟨.inl rfl, .inl rfl⟩⟩ (by simp [AV.nb, AV.nbs, nb_row]) trivial (fun n hn => by simp [keys] at hn) (fun m hm _ => by
    simp [keys] at hm; subst hm; exact ⟨by simp [Heap.get, x1, x2], by omega⟩)
theorem vtotal_one (nx v vm : Nat) (p : Ref_ × Coin_) (hv : v < nx) (hm : vm < nx) (hne : v ≠ vm) (ha : addF 0 [0, p.2.out.amount] = (p.2.out.amount, 0)) :
    FnSpec Tryz.prog 65 nx [.ref v 0 []] (viewR v vm [p]) (.tup [n64 p.2.out.amount, n64 0]) [] 0 := by
  have x1 := ltF hv
  have x2 := ltF hm
  have x3 := neF hne
  have had := fun nc => add_spec nc [0, p.2.out.amount] (by simp)
  rw [ha] at had
  simp only [vals, List.map_cons, List.map_nil] at had
  have hal := fun nc (q1 : v < nc) (q2 : vm < nc) => vall_one nc v vm p q1 q2 hne
  obtain ⟨s, hs⟩ : ∃ s : Bool → Int, s = fun b => if b = true then p.2.out.amount else 0 := ⟨_, rfl⟩
  have s0 : s false = 0 := by rw [hs]; rfl
  have s1 : s true = p.2.out.amount := by rw [hs]; rfl
  refine FnSpec.of_code (cx := cx) (an := {}) (rs := [.tmp 2, .tmp 3]) mo Tryz.func65 rfl rfl (by kernel_rfl) (by kernel_rfl) (by show 1 ≤ _; decide) (.inr ⟨_, rfl, by simp [AV.good]⟩) (by simp [allWr, keys, Res.wr]) ?_
  repeat' (first | omega | assumption | (show AL.ahead _ _ _ = true; rfl) | refine brF (fun _ => ?_) (fun _ => ?_) | refine brT (fun _ => ?_) (fun _ => ?_) | refine brVF (fun _ => ?_) (fun _ => ?_) | refine brVT (fun _ => ?_) (fun _ => ?_) | (with_reducible refine And.intro ?_ ?_) | (refine callK_by (hal _ (by omega) (by omega)) ?_) | (simp -dsimp -implicitDefEqProofs only [go_sem, ↓reduceIte, Nat.reduceEqDiff, Nat.reduceAdd, Nat.reduceMul, Nat.reduceLeDiff, Nat.reduceLT, Nat.reduceBEq, Nat.reducePow, Int.reduceToNat, Int.reduceLE, Int.reduceLT, Int.reduceNeg, reduceCtorEq, Int.reduceEq, Int.reduceAdd, Int.reduceSub, Int.reduceMul, Nat.reduceSub, x1, x2, x3]))
  apply loop_keep [10, 11] (fun b : Bool => [(4, n64 (s b)), (12, n64 (sn b))]) (fun _ => []) (fun b => 1 - sk b) false
  · simp -dsimp -implicitDefEqProofs only [go_sem, ↓reduceIte, Nat.reduceEqDiff, Nat.reduceAdd, Nat.reduceMul, Nat.reduceLeDiff, Nat.reduceLT, Nat.reduceBEq, Nat.reducePow, Int.reduceToNat, Int.reduceLE, Int.reduceLT, Int.reduceNeg, reduceCtorEq, Int.reduceEq, Int.reduceAdd, Int.reduceSub, Int.reduceMul, Nat.reduceSub]; try rfl
  · simp -dsimp -implicitDefEqProofs only [go_sem, ↓reduceIte, Nat.reduceEqDiff, Nat.reduceAdd, Nat.reduceMul, Nat.reduceLeDiff, Nat.reduceLT, Nat.reduceBEq, Nat.reducePow, Int.reduceToNat, Int.reduceLE, Int.reduceLT, Int.reduceNeg, reduceCtorEq, Int.reduceEq, Int.reduceAdd, Int.reduceSub, Int.reduceMul, Nat.reduceSub, s0, sn_f]; try rfl
  · simp -dsimp -implicitDefEqProofs only [go_sem, ↓reduceIte, Nat.reduceEqDiff, Nat.reduceAdd, Nat.reduceMul, Nat.reduceLeDiff, Nat.reduceLT, Nat.reduceBEq, Nat.reducePow, Int.reduceToNat, Int.reduceLE, Int.reduceLT, Int.reduceNeg, reduceCtorEq, Int.reduceEq, Int.reduceAdd, Int.reduceSub, Int.reduceMul, Nat.reduceSub, x1, x2, x3]; try rfl
  · intro b
    simp -dsimp -implicitDefEqProofs only [go_sem, ↓reduceIte, Nat.reduceEqDiff, Nat.reduceAdd, Nat.reduceMul, Nat.reduceLeDiff, Nat.reduceLT, Nat.reduceBEq, Nat.reducePow, Int.reduceToNat, Int.reduceLE, Int.reduceLT, Int.reduceNeg, reduceCtorEq, Int.reduceEq, Int.reduceAdd, Int.reduceSub, Int.reduceMul, Nat.reduceSub]
    try omega
  · rintro (_ | _)
    · repeat' (first | omega | assumption | (show AL.ahead _ _ _ = true; rfl) | refine brF (fun _ => ?_) (fun _ => ?_) | refine brT (fun _ => ?_) (fun _ => ?_) | refine brVF (fun _ => ?_) (fun _ => ?_) | refine brVT (fun _ => ?_) (fun _ => ?_) | (with_reducible refine And.intro ?_ ?_) | (refine callK_by (had _) ?_) | (simp -dsimp -implicitDefEqProofs only [go_sem, ↓reduceIte, Nat.reduceEqDiff, Nat.reduceAdd, Nat.reduceMul, Nat.reduceLeDiff, Nat.reduceLT, Nat.reduceBEq, Nat.reducePow, Int.reduceToNat, Int.reduceLE, Int.reduceLT, Int.reduceNeg, reduceCtorEq, Int.reduceEq, Int.reduceAdd, Int.reduceSub, Int.reduceMul, Nat.reduceSub, s0, sn_f, sk_f, w1_64, rowA, coinA, outA, nb_ways, refA]))
      all_goals first | exact ⟨true, by decide, by rw [s1], rfl⟩ | trace_state
    · repeat' (first | omega | assumption | (show AL.ahead _ _ _ = true; rfl) | refine brF (fun _ => ?_) (fun _ => ?_) | refine brT (fun _ => ?_) (fun _ => ?_) | refine brVF (fun _ => ?_) (fun _ => ?_) | refine brVT (fun _ => ?_) (fun _ => ?_) | (with_reducible refine And.intro ?_ ?_) | (simp -dsimp -implicitDefEqProofs only [go_sem, ↓reduceIte, Nat.reduceEqDiff, Nat.reduceAdd, Nat.reduceMul, Nat.reduceLeDiff, Nat.reduceLT, Nat.reduceBEq, Nat.reducePow, Int.reduceToNat, Int.reduceLE, Int.reduceLT, Int.reduceNeg, reduceCtorEq, Int.reduceEq, Int.reduceAdd, Int.reduceSub, Int.reduceMul, Nat.reduceSub, s1, sn_t, sk_t, w1_64]))
      all_goals trace_state
theorem lworth_one (nx : Nat) (n : LN) (x : LS) (p : Ref_ × Coin_) (hn : n.ok nx) (hc : x.coins = [p]) (ha : addF 0 [0, p.2.out.amount] = (p.2.out.amount, 0)) :
    FnSpec Tryz.prog 15 nx [.ref n.l 0 []] [(n.l, some (.robj (ledA n x))), (n.v, some (.robj (.agg 1 [.map n.vm]))), (n.vm, some (.rmp (coinsE x.coins))), (n.b, some (.robj (boardA n.tm n.hm))), (n.tm, some (.rmp (towsE x.towers)))] (n64 (w64 (w64 (p.2.out.amount + totT x.towers) + x.fees))) [] 0 := by
  have xf := hn.xf
  have yf := hn.nf
  have hlt := hn.lt
  have b1 := hn.ne.2.1.1
  have b2 := hn.ne.2.2.2.1.1
  have htv := fun nc (q1 : n.v < nc) (q2 : n.vm < nc) => vtotal_one nc n.v n.vm p q1 q2 b1 ha
  have hbt := fun nc (q1 : n.b < nc) (q2 : n.tm < nc) => btotal_spec nc n.b n.tm n.hm x.towers q1 q2 b2
  rw [hc]
  refine FnSpec.of_code (cx := cx) (an := {}) (rs := [.tmp 2]) mo Tryz.func15 rfl rfl (by kernel_rfl) (by kernel_rfl) (by show 1 ≤ _; decide) (.inl rfl) (by simp [allWr, keys, Res.wr]) ?_
  repeat' (first | omega | assumption | (show AL.ahead _ _ _ = true; rfl) | refine brF (fun _ => ?_) (fun _ => ?_) | refine brT (fun _ => ?_) (fun _ => ?_) | refine brVF (fun _ => ?_) (fun _ => ?_) | refine brVT (fun _ => ?_) (fun _ => ?_) | (with_reducible refine And.intro ?_ ?_) | (refine callK_by (lnone_spec _ n x (by omega)) ?_) | (refine callK_by (htv _ (by omega) (by omega)) ?_) | (refine callK_by (hbt _ (by omega) (by omega)) ?_) | (simp -dsimp -implicitDefEqProofs only [go_sem, ↓reduceIte, Nat.reduceEqDiff, Nat.reduceAdd, Nat.reduceMul, Nat.reduceLeDiff, Nat.reduceLT, Nat.reduceBEq, Nat.reducePow, Int.reduceToNat, Int.reduceLE, Int.reduceLT, Int.reduceNeg, reduceCtorEq, Int.reduceEq, Int.reduceAdd, Int.reduceSub, Int.reduceMul, Nat.reduceSub, xf, yf, ledA]))
  all_goals first | rfl | trace_state
end Go.Proofs.YthfoeaokfhbdaaaGreat

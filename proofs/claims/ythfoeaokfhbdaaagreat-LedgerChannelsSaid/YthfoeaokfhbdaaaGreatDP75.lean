/-
  Amounts: what is left; and the op that is none.
-/
import Derived.Test.YthfoeaokfhbdaaaGreatDP73
set_option linter.unusedSimpArgs false
set_option linter.unusedVariables false
set_option maxRecDepth 100000
set_option maxHeartbeats 2000000
namespace Go.Proofs.YthfoeaokfhbdaaaGreat
open Go Go.AL Go.Proofs.YthfoeaokfhbdaaaGreat.T
attribute [local go_sem] nb_u8s u8s_length nb_sum List.length_replicate zero_sum sum_h nb_vals vals_len u8s_nil txA_good txA_csz txA_agg nb_tx tA_len
theorem addG_spec (nx tok : Nat) (l : List Int) (hl : l.length < 2 ^ 40) (ht : tok < 2 ∨ tok - 2 < nx) : FnSpec Tryz.prog 60 nx [.sl 1 (vals .i64 l) tok] [] (.tup [n64 (addF 0 l).1, n64 (addF 0 l).2]) [] 0 := by
  obtain ⟨R, hR⟩ : ∃ R, R = addF 0 l := ⟨_, rfl⟩
  rw [← hR]
  refine FnSpec.of_code (cx := cx) (an := {}) (rs := [.tmp 2, .tmp 3]) mo Tryz.func60 rfl rfl (by kernel_rfl) (by kernel_rfl) (by show 1 ≤ _; decide) (.inr ⟨_, rfl, by simp [AV.good]⟩) (by simp [allWr, keys, Res.wr]) ?_
  repeat' (first | omega | assumption | (show AL.ahead _ _ _ = true; rfl) | refine brF (fun _ => ?_) (fun _ => ?_) | refine brT (fun _ => ?_) (fun _ => ?_) | refine brVF (fun _ => ?_) (fun _ => ?_) | refine brVT (fun _ => ?_) (fun _ => ?_) | (with_reducible refine And.intro ?_ ?_) | (simp -dsimp -implicitDefEqProofs only [go_sem, ↓reduceIte, Nat.reduceEqDiff, Nat.reduceAdd, Nat.reduceMul, Nat.reduceLeDiff, Nat.reduceLT, Nat.reduceBEq, Nat.reducePow, Int.reduceToNat, Int.reduceLE, Int.reduceLT, Int.reduceNeg, reduceCtorEq, Int.reduceEq, Int.reduceAdd, Int.reduceSub, Int.reduceMul, Nat.reduceSub]))
  apply loop_keep [7, 8] (fun p : { p : Nat × Int // p.1 ≤ l.length ∧ 0 ≤ p.2 ∧ p.2 ≤ 1125899906842624 ∧ addF p.2 (l.drop p.1) = R } => [(4, n64 p.1.2), (9, n64 p.1.1)]) (fun _ => []) (fun p => l.length - p.1.1) ⟨(0, 0), Nat.zero_le _, Int.le_refl _, by decide, by rw [hR]; rfl⟩
  · simp -dsimp -implicitDefEqProofs only [go_sem, ↓reduceIte, Nat.reduceEqDiff, Nat.reduceAdd, Nat.reduceMul, Nat.reduceLeDiff, Nat.reduceLT, Nat.reduceBEq, Nat.reducePow, Int.reduceToNat, Int.reduceLE, Int.reduceLT, Int.reduceNeg, reduceCtorEq, Int.reduceEq, Int.reduceAdd, Int.reduceSub, Int.reduceMul, Nat.reduceSub]; try rfl
  · simp -dsimp -implicitDefEqProofs only [go_sem, ↓reduceIte, Nat.reduceEqDiff, Nat.reduceAdd, Nat.reduceMul, Nat.reduceLeDiff, Nat.reduceLT, Nat.reduceBEq, Nat.reducePow, Int.reduceToNat, Int.reduceLE, Int.reduceLT, Int.reduceNeg, reduceCtorEq, Int.reduceEq, Int.reduceAdd, Int.reduceSub, Int.reduceMul, Nat.reduceSub]; try rfl
  · simp -dsimp -implicitDefEqProofs only [go_sem, ↓reduceIte, Nat.reduceEqDiff, Nat.reduceAdd, Nat.reduceMul, Nat.reduceLeDiff, Nat.reduceLT, Nat.reduceBEq, Nat.reducePow, Int.reduceToNat, Int.reduceLE, Int.reduceLT, Int.reduceNeg, reduceCtorEq, Int.reduceEq, Int.reduceAdd, Int.reduceSub, Int.reduceMul, Nat.reduceSub]; try rfl
  · intro s
    simp -dsimp -implicitDefEqProofs only [go_sem, ↓reduceIte, Nat.reduceEqDiff, Nat.reduceAdd, Nat.reduceMul, Nat.reduceLeDiff, Nat.reduceLT, Nat.reduceBEq, Nat.reducePow, Int.reduceToNat, Int.reduceLE, Int.reduceLT, Int.reduceNeg, reduceCtorEq, Int.reduceEq, Int.reduceAdd, Int.reduceSub, Int.reduceMul, Nat.reduceSub]
    try omega
  · rintro ⟨⟨i, x⟩, hi, hx0, hx1, hall⟩
    have hi : i ≤ l.length := hi
    simp only at hx0 hx1 hall
    simp -dsimp -implicitDefEqProofs only [go_sem, ↓reduceIte, Nat.reduceEqDiff, Nat.reduceAdd, Nat.reduceMul, Nat.reduceLeDiff, Nat.reduceLT, Nat.reduceBEq, Nat.reducePow, Int.reduceToNat, Int.reduceLE, Int.reduceLT, Int.reduceNeg, reduceCtorEq, Int.reduceEq, Int.reduceAdd, Int.reduceSub, Int.reduceMul, Nat.reduceSub]
    refine brT (fun hc => ?_) (fun hc => ?_)
    · have hi2 : i < l.length := by omega
      have q1 := vals_get (k := .i64) hi2
      have hd := List.drop_eq_getElem_cons hi2
      have hg : l.getD i 0 = l[i] := by rw [List.getD_eq_getElem?_getD, List.getElem?_eq_getElem hi2]; rfl
      rw [hd] at hall
      rw [hg] at q1
      generalize l[i] = y at *
      have w1 : IntKind.i64.wrap ((i : Int) + 1) = ((i + 1 : Nat) : Int) := wrapE (by omega) (by omega)
      by_cases hy : 0 ≤ y ∧ y ≤ 1125899906842624
      · have w2 : IntKind.i64.wrap (x + y) = x + y := by rw [IntKind.wrap_i64]; omega
        rw [addF, if_pos hy] at hall
        repeat' (first | omega | assumption | (show AL.ahead _ _ _ = true; rfl) | refine brF (fun _ => ?_) (fun _ => ?_) | refine brT (fun _ => ?_) (fun _ => ?_) | refine brVF (fun _ => ?_) (fun _ => ?_) | refine brVT (fun _ => ?_) (fun _ => ?_) | (with_reducible refine And.intro ?_ ?_) | (refine callK_by (coinRight_spec _ y) ?_) | (simp -dsimp -implicitDefEqProofs only [go_sem, ↓reduceIte, Nat.reduceEqDiff, Nat.reduceAdd, Nat.reduceMul, Nat.reduceLeDiff, Nat.reduceLT, Nat.reduceBEq, Nat.reducePow, Int.reduceToNat, Int.reduceLE, Int.reduceLT, Int.reduceNeg, reduceCtorEq, Int.reduceEq, Int.reduceAdd, Int.reduceSub, Int.reduceMul, Nat.reduceSub, q1, w1, w2, decide_eq_true hy]))
        · rename_i hx
          rw [if_pos hx] at hall
          rw [← hall]
        · rename_i hx
          rw [if_neg hx] at hall
          exact ⟨⟨(i + 1, x + y), hi2, by show 0 ≤ x + y; omega, by show x + y ≤ _; omega, hall⟩, by show l.length - (i + 1) < l.length - i; omega, ⟨rfl, rfl⟩⟩
      · rw [addF, if_neg hy] at hall
        repeat' (first | omega | assumption | (show AL.ahead _ _ _ = true; rfl) | refine brF (fun _ => ?_) (fun _ => ?_) | refine brT (fun _ => ?_) (fun _ => ?_) | refine brVF (fun _ => ?_) (fun _ => ?_) | refine brVT (fun _ => ?_) (fun _ => ?_) | (with_reducible refine And.intro ?_ ?_) | (refine callK_by (coinRight_spec _ y) ?_) | (simp -dsimp -implicitDefEqProofs only [go_sem, ↓reduceIte, Nat.reduceEqDiff, Nat.reduceAdd, Nat.reduceMul, Nat.reduceLeDiff, Nat.reduceLT, Nat.reduceBEq, Nat.reducePow, Int.reduceToNat, Int.reduceLE, Int.reduceLT, Int.reduceNeg, reduceCtorEq, Int.reduceEq, Int.reduceAdd, Int.reduceSub, Int.reduceMul, Nat.reduceSub, q1, w1, decide_eq_false hy]))
        rw [← hall]
    · have e : i = l.length := by omega
      subst e
      rw [List.drop_length, addF] at hall
      repeat' (first | omega | assumption | (show AL.ahead _ _ _ = true; rfl) | refine brF (fun _ => ?_) (fun _ => ?_) | refine brT (fun _ => ?_) (fun _ => ?_) | refine brVF (fun _ => ?_) (fun _ => ?_) | refine brVT (fun _ => ?_) (fun _ => ?_) | (with_reducible refine And.intro ?_ ?_) | (simp -dsimp -implicitDefEqProofs only [go_sem, ↓reduceIte, Nat.reduceEqDiff, Nat.reduceAdd, Nat.reduceMul, Nat.reduceLeDiff, Nat.reduceLT, Nat.reduceBEq, Nat.reducePow, Int.reduceToNat, Int.reduceLE, Int.reduceLT, Int.reduceNeg, reduceCtorEq, Int.reduceEq, Int.reduceAdd, Int.reduceSub, Int.reduceMul, Nat.reduceSub]))
      rw [← hall]
def subF (a : Int) (l : List Int) : Int × Int :=
  if ¬ (0 ≤ a ∧ a ≤ 1125899906842624) then (0, 5) else if (addF 0 l).2 ≠ 0 then (0, (addF 0 l).2) else if a < (addF 0 l).1 then (0, 14) else (w64 (a - (addF 0 l).1), 0)
theorem sub_spec (nx tok : Nat) (a : Int) (l : List Int) (hl : l.length < 2 ^ 40) (ht : tok < 2 ∨ tok - 2 < nx) : FnSpec Tryz.prog 61 nx [n64 a, .sl 1 (vals .i64 l) tok] [] (.tup [n64 (subF a l).1, n64 (subF a l).2]) [] 0 := by
  have had := fun nc (q : nx ≤ nc) => addG_spec nc tok l hl (by omega)
  have hcr := fun nc => coinRight_spec nc a
  by_cases h1 : 0 ≤ a ∧ a ≤ 1125899906842624
  · rw [decide_eq_true h1] at hcr
    by_cases h2 : (addF 0 l).2 = 0
    · rw [h2] at had
      by_cases h3 : a < (addF 0 l).1
      · have e : subF a l = (0, 14) := by unfold subF; rw [if_neg (fun q => q h1), if_neg (fun q => q h2), if_pos h3]
        rw [e]
        have e2 := eq_true h3
        refine FnSpec.of_code (cx := cx) (an := {}) (rs := [.tmp 4, .tmp 5]) mo Tryz.func61 rfl rfl (by kernel_rfl) (by kernel_rfl) (by show 2 ≤ _; decide) (.inr ⟨_, rfl, by simp [AV.good]⟩) (by simp [allWr, keys, Res.wr]) ?_
        repeat' (first | omega | assumption | (show AL.ahead _ _ _ = true; rfl) | refine brF (fun _ => ?_) (fun _ => ?_) | refine brT (fun _ => ?_) (fun _ => ?_) | refine brVF (fun _ => ?_) (fun _ => ?_) | refine brVT (fun _ => ?_) (fun _ => ?_) | (with_reducible refine And.intro ?_ ?_) | (refine callK_by (had _ (by omega)) ?_) | (refine callK_by (hcr _) ?_) | (simp -dsimp -implicitDefEqProofs only [go_sem, ↓reduceIte, Nat.reduceEqDiff, Nat.reduceAdd, Nat.reduceMul, Nat.reduceLeDiff, Nat.reduceLT, Nat.reduceBEq, Nat.reducePow, Int.reduceToNat, Int.reduceLE, Int.reduceLT, Int.reduceNeg, reduceCtorEq, Int.reduceEq, Int.reduceAdd, Int.reduceSub, Int.reduceMul, Nat.reduceSub, e2, gt_iff_lt]))
        all_goals trace_state
      · have e : subF a l = (w64 (a - (addF 0 l).1), 0) := by unfold subF; rw [if_neg (fun q => q h1), if_neg (fun q => q h2), if_neg h3]
        rw [e]
        have e2 := eq_false h3
        refine FnSpec.of_code (cx := cx) (an := {}) (rs := [.tmp 4, .tmp 5]) mo Tryz.func61 rfl rfl (by kernel_rfl) (by kernel_rfl) (by show 2 ≤ _; decide) (.inr ⟨_, rfl, by simp [AV.good]⟩) (by simp [allWr, keys, Res.wr]) ?_
        repeat' (first | omega | assumption | (show AL.ahead _ _ _ = true; rfl) | refine brF (fun _ => ?_) (fun _ => ?_) | refine brT (fun _ => ?_) (fun _ => ?_) | refine brVF (fun _ => ?_) (fun _ => ?_) | refine brVT (fun _ => ?_) (fun _ => ?_) | (with_reducible refine And.intro ?_ ?_) | (refine callK_by (had _ (by omega)) ?_) | (refine callK_by (hcr _) ?_) | (simp -dsimp -implicitDefEqProofs only [go_sem, ↓reduceIte, Nat.reduceEqDiff, Nat.reduceAdd, Nat.reduceMul, Nat.reduceLeDiff, Nat.reduceLT, Nat.reduceBEq, Nat.reducePow, Int.reduceToNat, Int.reduceLE, Int.reduceLT, Int.reduceNeg, reduceCtorEq, Int.reduceEq, Int.reduceAdd, Int.reduceSub, Int.reduceMul, Nat.reduceSub, e2, gt_iff_lt]))
        all_goals trace_state
    · have e : subF a l = (0, (addF 0 l).2) := by unfold subF; rw [if_neg (fun q => q h1), if_pos h2]
      rw [e]
      have e2 := eq_false h2
      refine FnSpec.of_code (cx := cx) (an := {}) (rs := [.tmp 4, .tmp 5]) mo Tryz.func61 rfl rfl (by kernel_rfl) (by kernel_rfl) (by show 2 ≤ _; decide) (.inr ⟨_, rfl, by simp [AV.good]⟩) (by simp [allWr, keys, Res.wr]) ?_
      repeat' (first | omega | assumption | (show AL.ahead _ _ _ = true; rfl) | refine brF (fun _ => ?_) (fun _ => ?_) | refine brT (fun _ => ?_) (fun _ => ?_) | refine brVF (fun _ => ?_) (fun _ => ?_) | refine brVT (fun _ => ?_) (fun _ => ?_) | (with_reducible refine And.intro ?_ ?_) | (refine callK_by (had _ (by omega)) ?_) | (refine callK_by (hcr _) ?_) | (simp -dsimp -implicitDefEqProofs only [go_sem, ↓reduceIte, Nat.reduceEqDiff, Nat.reduceAdd, Nat.reduceMul, Nat.reduceLeDiff, Nat.reduceLT, Nat.reduceBEq, Nat.reducePow, Int.reduceToNat, Int.reduceLE, Int.reduceLT, Int.reduceNeg, reduceCtorEq, Int.reduceEq, Int.reduceAdd, Int.reduceSub, Int.reduceMul, Nat.reduceSub, e2]))
      all_goals trace_state
  · have e : subF a l = (0, 5) := by unfold subF; rw [if_pos h1]
    rw [e]
    rw [decide_eq_false h1] at hcr
    refine FnSpec.of_code (cx := cx) (an := {}) (rs := [.tmp 4, .tmp 5]) mo Tryz.func61 rfl rfl (by kernel_rfl) (by kernel_rfl) (by show 2 ≤ _; decide) (.inr ⟨_, rfl, by simp [AV.good]⟩) (by simp [allWr, keys, Res.wr]) ?_
    repeat' (first | omega | assumption | (show AL.ahead _ _ _ = true; rfl) | refine brF (fun _ => ?_) (fun _ => ?_) | refine brT (fun _ => ?_) (fun _ => ?_) | refine brVF (fun _ => ?_) (fun _ => ?_) | refine brVT (fun _ => ?_) (fun _ => ?_) | (with_reducible refine And.intro ?_ ?_) | (refine callK_by (had _ (by omega)) ?_) | (refine callK_by (hcr _) ?_) | (simp -dsimp -implicitDefEqProofs only [go_sem, ↓reduceIte, Nat.reduceEqDiff, Nat.reduceAdd, Nat.reduceMul, Nat.reduceLeDiff, Nat.reduceLT, Nat.reduceBEq, Nat.reducePow, Int.reduceToNat, Int.reduceLE, Int.reduceLT, Int.reduceNeg, reduceCtorEq, Int.reduceEq, Int.reduceAdd, Int.reduceSub, Int.reduceMul, Nat.reduceSub]))
    all_goals trace_state
theorem oA_p2 (t : Tx_) : (txA t).parts.getD 2 .undef = opT t.op := rfl
theorem oA_off2 (t : Tx_) : (txA t).partOff 2 = 2 := rfl
/-- no op: nothing goes in, nothing comes out -/
theorem effNone_spec (nx : Nat) (n : LN) (x : LS) (t : Tx_) (h : Int) (b tm hm : Nat) (h0 : t.op.kind = 0) (ht : tm < nx) (hh : hm < nx) (hne : tm ≠ hm) :
    FnSpec Tryz.prog 59 nx [.ref n.l 0 [], .ref b 0 [], txA t, n64 h] [(tm, some (.mp (towsE x.towers))), (hm, some (.mp (holdsE x.holds)))] (.tup [n64 0, n64 0, n64 0]) [(tm, some (.mp (towsE x.towers))), (hm, some (.mp (holdsE x.holds)))] 0 := by
  have x1 := ltF ht
  have x2 := ltF hh
  have x3 := neF hne
  refine FnSpec.of_code (cx := cx) (an := {}) (rs := [.tmp 8, .tmp 9, .tmp 10]) mo Tryz.func59 rfl rfl (by kernel_rfl) (by kernel_rfl) (by show 4 ≤ _; decide) (.inr ⟨_, rfl, by simp [AV.good]⟩) (by simp [allWr, keys, Res.wr]) ?_
  repeat' (first | omega | assumption | (show AL.ahead _ _ _ = true; rfl) | refine brF (fun _ => ?_) (fun _ => ?_) | refine brT (fun _ => ?_) (fun _ => ?_) | refine brVF (fun _ => ?_) (fun _ => ?_) | refine brVT (fun _ => ?_) (fun _ => ?_) | (with_reducible refine And.intro ?_ ?_) | (simp -dsimp -implicitDefEqProofs only [go_sem, ↓reduceIte, Nat.reduceEqDiff, Nat.reduceAdd, Nat.reduceMul, Nat.reduceLeDiff, Nat.reduceLT, Nat.reduceBEq, Nat.reducePow, Int.reduceToNat, Int.reduceLE, Int.reduceLT, Int.reduceNeg, reduceCtorEq, Int.reduceEq, Int.reduceAdd, Int.reduceSub, Int.reduceMul, Nat.reduceSub, oA_p2, oA_off2, opT, h0, x1, x2, x3, nbK_int, nbK_pair, nbV_tow, nbV_hold]))
  all_goals trace_state
end Go.Proofs.YthfoeaokfhbdaaaGreat

/-
  Ledgers: a new one.
-/
set_option linter.unusedSimpArgs false
set_option linter.unusedVariables false
set_option maxRecDepth 100000
set_option maxHeartbeats 2000000
namespace Go.Proofs.YthfoeaokfhbdaaaGreat
open Go Go.AL Go.Proofs.YthfoeaokfhbdaaaGreat.T
def opZ : Op_ := ⟨0, 0, 0, 0, zeroS, []⟩
def txO (os : List Out_) : Tx_ := ⟨[], os, opZ, []⟩
def txOA (os : List Out_) : AV := .agg 40 [.sl 35 [] 1, .sl 2 (outsA os) 0, .agg 37 [n64 0, n64 0, n64 0, n64 0, sumA zeroS, .sl 1 [] 1], .sl 33 [] 1]
theorem txO_le (os : List Out_) : AV.le (txOA os) (txA (txO os)) :=
  ⟨_, rfl, _, _, rfl, ⟨_, _, rfl, AV.les_refl _, .inr (.inl rfl)⟩, _, _, rfl, AV.le_refl _, _, _, rfl, ⟨_, rfl, _, _, rfl, AV.le_refl _, _, _, rfl, AV.le_refl _, _, _, rfl, AV.le_refl _, _, _, rfl, AV.le_refl _, _, _, rfl, AV.le_refl _, _, _, rfl, ⟨_, _, rfl, AV.les_refl _, .inr (.inl rfl)⟩, rfl⟩, _, _, rfl, ⟨_, _, rfl, AV.les_refl _, .inr (.inl rfl)⟩, rfl⟩
/-- why outs are no ledger's first ones -/
noncomputable def newE : Int → List Out_ → Int
  | _, [] => 0
  | s, o :: r => if outB o = false then 1 else if (addF 0 [s, o.amount]).2 ≠ 0 then (addF 0 [s, o.amount]).2 else newE (addF 0 [s, o.amount]).1 r
noncomputable def newS (os : List Out_) : LS := comeS (txS (txO os)) (txO os) 0 ⟨[], [], [], [], [], [], 0⟩
/-- the names of a new ledger's parts -/
def newN (N : Nat) : LN := ⟨N + 40, N + 80, N + 64, N + 128, N + 104, N + 112, N + 16, N + 24, N + 33⟩
theorem newN_ok {N nx : Nat} (h : N + 128 < nx) : (newN N).ok nx := by
  refine ⟨?_, ?_, ?_, ?_, ?_, ?_, ?_, ?_, ?_, ?_⟩
  all_goals first | (simp only [newN]; omega) | skip
  simp [newN]
attribute [local go_sem] nb_u8s u8s_length nb_sum List.length_replicate zero_sum sum_h u8s_nil sum_csz sum_agg sumA_good outs_len nb_outs nb_out1 outA_good outA_agg outA_csz txA_good txA_csz txA_agg nb_tx sums_len nb_sums nbK_ref nbK_int nbK_pair nbK_sum nbV_coin nbV_tow nbV_hold nbV_done nbV_spend
theorem cloneO_nil (nx t : Nat) : FnSpec Tryz.prog 132 nx [.sl 2 [] t] [] (.sl 2 [] 0) [] 0 := by
  refine FnSpec.empty fun b n => ?_
  cases b with
  | none =>
    have h : FnSpec Tryz.prog 132 nx [.val (.slice none 0 n)] [] (.sl 0 [] 1) [] 0 := by
      refine FnSpec.of_code (cx := cx) (an := {}) (rs := [.tmp 2]) mo Tryz.func132 rfl rfl (by kernel_rfl) (by kernel_rfl) (by show 1 ≤ _; decide) (.inl rfl) (by simp [allWr, keys, Res.wr]) ?_
      repeat' (first | omega | assumption | (show AL.ahead _ _ _ = true; rfl) | refine brF (fun _ => ?_) (fun _ => ?_) | refine brT (fun _ => ?_) (fun _ => ?_) | refine brVF (fun _ => ?_) (fun _ => ?_) | refine brVT (fun _ => ?_) (fun _ => ?_) | (with_reducible refine And.intro ?_ ?_) | (simp -dsimp -implicitDefEqProofs only [go_sem, ↓reduceIte, Nat.reduceEqDiff, Nat.reduceAdd, Nat.reduceMul, Nat.reduceLeDiff, Nat.reduceLT, Nat.reduceBEq, Nat.reducePow, Int.reduceToNat, Int.reduceLE, Int.reduceLT, Int.reduceNeg, reduceCtorEq, Int.reduceEq, Int.reduceAdd, Int.reduceSub, Int.reduceMul, Nat.reduceSub, Option.isNone_none]))
    exact h.forget0 ⟨rfl, .inr ⟨.inr rfl, .inl rfl⟩⟩ (by simp [AV.nb, AV.nbs]) (by simp [keys])
  | some a =>
    have h : FnSpec Tryz.prog 132 nx [.val (.slice (some a) 0 n)] [] (.sl 2 [] (nx + 42)) [(nx + 40, some (.tail 0))] 60 := by
      refine FnSpec.of_code (cx := cx) (an := {}) (rs := [.tmp 2]) mo Tryz.func132 rfl rfl (by kernel_rfl) (by kernel_rfl) (by show 1 ≤ _; decide) (.inl rfl) (by simp [allWr, keys, Res.wr]) ?_
      repeat' (first | omega | assumption | (show AL.ahead _ _ _ = true; rfl) | refine brF (fun _ => ?_) (fun _ => ?_) | refine brT (fun _ => ?_) (fun _ => ?_) | refine brVF (fun _ => ?_) (fun _ => ?_) | refine brVT (fun _ => ?_) (fun _ => ?_) | (with_reducible refine And.intro ?_ ?_) | (simp -dsimp -implicitDefEqProofs only [go_sem, ↓reduceIte, Nat.reduceEqDiff, Nat.reduceAdd, Nat.reduceMul, Nat.reduceLeDiff, Nat.reduceLT, Nat.reduceBEq, Nat.reducePow, Int.reduceToNat, Int.reduceLE, Int.reduceLT, Int.reduceNeg, reduceCtorEq, Int.reduceEq, Int.reduceAdd, Int.reduceSub, Int.reduceMul, Nat.reduceSub, Option.isNone_some]))
    exact h.forget0 ⟨rfl, .inr ⟨.inl rfl, .inl rfl⟩⟩ (by simp [AV.nb, AV.nbs]) (by simp [keys])
theorem cloneO_spec (nx t : Nat) (l : List Out_) (hl : l.length < 2 ^ 40) (ht : t < 2 ∨ t - 2 < nx) : FnSpec Tryz.prog 132 nx [.sl 2 (outsA l) t] [] (.sl 2 (outsA l) 0) [] 0 := by
  cases l with
  | nil => exact cloneO_nil nx t
  | cons a l =>
    have e : outsA (a :: l) = outA a :: outsA l := rfl
    simp only [List.length_cons] at hl
    have h : FnSpec Tryz.prog 132 nx [.sl 2 (outsA (a :: l)) t] [] (.sl 2 (outsA (a :: l)) (nx + 42)) [(nx + 40, some (.tail (outsA (a :: l)).length))] 60 := by
      rw [e]
      refine FnSpec.of_code (cx := cx) (an := {}) (rs := [.tmp 2]) mo Tryz.func132 rfl rfl (by kernel_rfl) (by kernel_rfl) (by show 1 ≤ _; decide) (.inl rfl) (by simp [allWr, keys, Res.wr]) ?_
      repeat' (first | omega | assumption | (show AL.ahead _ _ _ = true; rfl) | refine brF (fun _ => ?_) (fun _ => ?_) | refine brT (fun _ => ?_) (fun _ => ?_) | refine brVF (fun _ => ?_) (fun _ => ?_) | refine brVT (fun _ => ?_) (fun _ => ?_) | (with_reducible refine And.intro ?_ ?_) | (simp -dsimp -implicitDefEqProofs only [go_sem, ↓reduceIte, Nat.reduceEqDiff, Nat.reduceAdd, Nat.reduceMul, Nat.reduceLeDiff, Nat.reduceLT, Nat.reduceBEq, Nat.reducePow, Int.reduceToNat, Int.reduceLE, Int.reduceLT, Int.reduceNeg, reduceCtorEq, Int.reduceEq, Int.reduceAdd, Int.reduceSub, Int.reduceMul, Nat.reduceSub]))
      all_goals trace_state
    exact h.forget0 ⟨rfl, .inr ⟨.inl rfl, .inl rfl⟩⟩ (by simp [AV.nb, nb_outs]) (by simp [keys])
theorem newOk_spec (nx tok : Nat) (os : List Out_) (hE : newE 0 os = 0) (hl : os.length ≤ 16) (hL : ∀ o ∈ os, o.ways.length < 2 ^ 40 ∧ ∀ w ∈ o.ways, w.keys.length < 2 ^ 32) (hb : (bodyL true (txO os)).length < 2 ^ 38) (ht : tok < 2 ∨ tok - 2 < nx) :
    FnSpec Tryz.prog 68 nx [.sl 2 (outsA os) tok] [] (.tup [.ref (newN (nx + 88)).l 0 [], sumA (txS (txO os)), n64 0]) (ledH (newN (nx + 88)) (newS os)) 4000 := by
  have hcl := fun nc (q : nx ≤ nc) => cloneO_spec nc tok os (by omega) (by omega)
  have hsm := fun nc => (txSum_spec nc (txO os) hb (fun o ho w hw => (hL o ho).2 w hw)).le (args := [txOA os]) ⟨_, _, rfl, txO_le os, rfl⟩
  refine FnSpec.of_code (cx := cx) (an := {tk := [(45, [([4], 32)])], mt := [46]}) (rs := [.tmp 2, .cell 3 23, .tmp 4]) mo Tryz.func68 rfl rfl (by kernel_rfl) (by kernel_rfl) (by show 1 ≤ _; decide) (.inr ⟨_, rfl, by simp [AV.good, sumA]⟩) (by simp [allWr, keys, Res.wr]) ?_
  repeat' (first | omega | assumption | (show AL.ahead _ _ _ = true; rfl) | refine brF (fun _ => ?_) (fun _ => ?_) | refine brT (fun _ => ?_) (fun _ => ?_) | refine brVF (fun _ => ?_) (fun _ => ?_) | refine brVT (fun _ => ?_) (fun _ => ?_) | (with_reducible refine And.intro ?_ ?_) | (simp -dsimp -implicitDefEqProofs only [go_sem, ↓reduceIte, Nat.reduceEqDiff, Nat.reduceAdd, Nat.reduceMul, Nat.reduceLeDiff, Nat.reduceLT, Nat.reduceBEq, Nat.reducePow, Int.reduceToNat, Int.reduceLE, Int.reduceLT, Int.reduceNeg, reduceCtorEq, Int.reduceEq, Int.reduceAdd, Int.reduceSub, Int.reduceMul, Nat.reduceSub]))
  apply loop_keep [0, 3, 13, 14] (fun p : { p : Nat × Int // p.1 ≤ os.length ∧ newE p.2 (os.drop p.1) = 0 } => [(5, n64 p.1.2), (15, n64 p.1.1)]) (fun p => [(nx + 8, some (.obj (sumA zeroS)))]) (fun p => os.length - p.1.1) ⟨(0, 0), Nat.zero_le _, hE⟩
  · simp -dsimp -implicitDefEqProofs only [go_sem, ↓reduceIte, Nat.reduceEqDiff, Nat.reduceAdd, Nat.reduceMul, Nat.reduceLeDiff, Nat.reduceLT, Nat.reduceBEq, Nat.reducePow, Int.reduceToNat, Int.reduceLE, Int.reduceLT, Int.reduceNeg, reduceCtorEq, Int.reduceEq, Int.reduceAdd, Int.reduceSub, Int.reduceMul, Nat.reduceSub]; try rfl
  · simp -dsimp -implicitDefEqProofs only [go_sem, ↓reduceIte, Nat.reduceEqDiff, Nat.reduceAdd, Nat.reduceMul, Nat.reduceLeDiff, Nat.reduceLT, Nat.reduceBEq, Nat.reducePow, Int.reduceToNat, Int.reduceLE, Int.reduceLT, Int.reduceNeg, reduceCtorEq, Int.reduceEq, Int.reduceAdd, Int.reduceSub, Int.reduceMul, Nat.reduceSub]; try rfl
  · simp -dsimp -implicitDefEqProofs only [go_sem, ↓reduceIte, Nat.reduceEqDiff, Nat.reduceAdd, Nat.reduceMul, Nat.reduceLeDiff, Nat.reduceLT, Nat.reduceBEq, Nat.reducePow, Int.reduceToNat, Int.reduceLE, Int.reduceLT, Int.reduceNeg, reduceCtorEq, Int.reduceEq, Int.reduceAdd, Int.reduceSub, Int.reduceMul, Nat.reduceSub]; try rfl
  · intro s
    simp -dsimp -implicitDefEqProofs only [go_sem, ↓reduceIte, Nat.reduceEqDiff, Nat.reduceAdd, Nat.reduceMul, Nat.reduceLeDiff, Nat.reduceLT, Nat.reduceBEq, Nat.reducePow, Int.reduceToNat, Int.reduceLE, Int.reduceLT, Int.reduceNeg, reduceCtorEq, Int.reduceEq, Int.reduceAdd, Int.reduceSub, Int.reduceMul, Nat.reduceSub]
    try omega
  · rintro ⟨⟨i, s⟩, hi, hall⟩
    have hi : i ≤ os.length := hi
    simp only at hall
    simp -dsimp -implicitDefEqProofs only [go_sem, ↓reduceIte, Nat.reduceEqDiff, Nat.reduceAdd, Nat.reduceMul, Nat.reduceLeDiff, Nat.reduceLT, Nat.reduceBEq, Nat.reducePow, Int.reduceToNat, Int.reduceLE, Int.reduceLT, Int.reduceNeg, reduceCtorEq, Int.reduceEq, Int.reduceAdd, Int.reduceSub, Int.reduceMul, Nat.reduceSub]
    refine brT (fun hc => ?_) (fun hc => ?_)
    · have hi2 : i < os.length := by omega
      have q1 := outs_get hi2
      have hd := List.drop_eq_getElem_cons hi2
      rw [hd] at hall
      obtain ⟨l1, l2⟩ := hL _ (List.getElem_mem hi2)
      generalize os[i] = y at *
      have w1 : IntKind.i64.wrap ((i : Int) + 1) = ((i + 1 : Nat) : Int) := wrapE (by omega) (by omega)
      have hob := fun nc => outR_spec nc y l1 (fun w hw => Nat.lt_trans (l2 w hw) (by decide))
      have had := fun nc => add_spec nc [s, y.amount] (by simp)
      simp only [vals, List.map_cons, List.map_nil] at had
      simp only [newE] at hall
      have e1 : outB y = true := by
        rcases Bool.eq_false_or_eq_true (outB y) with q | q
        · exact q
        · rw [if_pos q] at hall; exact absurd hall (by decide)
      rw [if_neg (by rw [e1]; decide)] at hall
      have e2 : (addF 0 [s, y.amount]).2 = 0 := by
        rcases Classical.em ((addF 0 [s, y.amount]).2 = 0) with q | q
        · exact q
        · rw [if_pos q] at hall; exact hall
      rw [if_neg (fun q => q e2)] at hall
      rw [e1] at hob
      rw [e2] at had
      repeat' (first | omega | assumption | (show AL.ahead _ _ _ = true; rfl) | refine brF (fun _ => ?_) (fun _ => ?_) | refine brT (fun _ => ?_) (fun _ => ?_) | refine brVF (fun _ => ?_) (fun _ => ?_) | refine brVT (fun _ => ?_) (fun _ => ?_) | (with_reducible refine And.intro ?_ ?_) | (refine callK_by (hob _) ?_) | (refine callK_by (had _) ?_) | (simp -dsimp -implicitDefEqProofs only [go_sem, ↓reduceIte, Nat.reduceEqDiff, Nat.reduceAdd, Nat.reduceMul, Nat.reduceLeDiff, Nat.reduceLT, Nat.reduceBEq, Nat.reducePow, Int.reduceToNat, Int.reduceLE, Int.reduceLT, Int.reduceNeg, reduceCtorEq, Int.reduceEq, Int.reduceAdd, Int.reduceSub, Int.reduceMul, Nat.reduceSub, q1, w1, outA]))
      all_goals first
        | exact ⟨⟨(i + 1, (addF 0 [s, y.amount]).1), hi2, hall⟩, by show os.length - (i + 1) < os.length - i; omega, rfl, rfl⟩
        | trace_state
    · have hgt : ((16 : Int) < (os.length : Int)) = False := eq_false (by omega)
      have hcm := fun nc (q : nx + 300 ≤ nc) => (come_spec nc (newN (nx + 88)) ⟨[], [], [], [], [], [], 0⟩ (txS (txO os)) (txO os) 0 (newN_ok (by omega)) (show os.length < 2 ^ 40 by omega) (fun o ho => ⟨(hL o ho).1, fun w hw => Nat.lt_trans ((hL o ho).2 w hw) (by decide)⟩) (by show 0 < _; decide)).le (args := [.ref (newN (nx + 88)).l 0 [], sumA (txS (txO os)), txOA os, n64 0]) ⟨_, _, rfl, AV.le_refl _, _, _, rfl, AV.le_refl _, _, _, rfl, txO_le os, _, _, rfl, AV.le_refl _, rfl⟩
      simp only [newN, ledA, txOA, Nat.add_assoc, Nat.reduceAdd, sumsA, List.map_nil, enc_nil, List.length_nil] at hcm
      repeat' (first | omega | assumption | (show AL.ahead _ _ _ = true; rfl) | refine brF (fun _ => ?_) (fun _ => ?_) | refine brT (fun _ => ?_) (fun _ => ?_) | refine brVF (fun _ => ?_) (fun _ => ?_) | refine brVT (fun _ => ?_) (fun _ => ?_) | (with_reducible refine And.intro ?_ ?_) | (refine callK_by (newv_spec _) ?_) | (refine callK_by (newb_spec _) ?_) | (refine callK_by (hcl _ (by omega)) ?_) | (refine callK_by (hsm _) ?_) | (refine callK_by (hcm _ (by omega)) ?_) | (simp -dsimp -implicitDefEqProofs only [go_sem, ↓reduceIte, Nat.reduceEqDiff, Nat.reduceAdd, Nat.reduceMul, Nat.reduceLeDiff, Nat.reduceLT, Nat.reduceBEq, Nat.reducePow, Int.reduceToNat, Int.reduceLE, Int.reduceLT, Int.reduceNeg, reduceCtorEq, Int.reduceEq, Int.reduceAdd, Int.reduceSub, Int.reduceMul, Nat.reduceSub, hgt, gt_iff_lt, enc_nil, newN, ledA, newS, boardA]))
      all_goals first | rfl | trace_state
end Go.Proofs.YthfoeaokfhbdaaaGreat

/-
  Put into a pool; the law PoolFull.
-/
import Derived.Test.YtnmnfhicgopdnaaGreatCP60
import Derived.Test.YtnmnfhicgopdnaaGreatCP22
import Derived.Test.YtnmnfhicgopdnaaGreatAL24
import Derived.Test.YtnmnfhicgopdnaaGreatRows
set_option linter.unusedSimpArgs false
set_option linter.unusedVariables false
set_option maxRecDepth 100000
set_option maxHeartbeats 4000000
namespace Go.Proofs.YtnmnfhicgopdnaaGreat
open Go Go.AL Go.Proofs.YtnmnfhicgopdnaaGreat.T
attribute [local go_sem] nb_u8s u8s_length nb_sum sumA List.length_replicate zero_sum sum_h u8s_nil waits_len nb_waits
noncomputable def putP (l : List Wt_) (t : Tx_) (h : Int) : List Wt_ × Int :=
  if txB t = false then (l, 1) else if l.any (sameW t) = true then (l, 8) else if 64 ≤ l.length then (l, 6) else (l ++ [⟨t, h⟩], 0)
theorem poolA_nb {N m : Nat} (h : N + 7 < m) (l : List Wt_) (late : Int) : AV.nb m (poolA l late (N + 2)) = True := by
  simp only [eq_iff_iff, iff_true, poolA, AV.nb, AV.nbs, nb_waits, true_and, and_true]
  omega
theorem putP_spec (nx N : Nat) (l : List Wt_) (late h : Int) (t : Tx_) (hN : N + 7 < nx) (ht : txZ2 t) (hall : ∀ w ∈ l, txZ2 w.tx) (hl : l.length ≤ 1000) :
    FnSpec Tryz.prog 5 nx [.ref (N + 7) 0 [], txA t, n64 h] (poolH l late N) (n64 (putP l t h).2) (poolH (putP l t h).1 late N) 0 := by
  have hx := pkN hN
  have hr := fun nc => txR_spec nc t ht.1
  have hh := fun nc (h : nx ≤ nc) => hasWt_spec nc (N + 2) t l ht hall hl (by omega)
  have hsn := waits_snoc l ⟨t, h⟩
  simp only [waitA] at hsn
  cases hB : txB t with
  | false =>
    have e : putP l t h = (l, 1) := by unfold putP; rw [if_pos hB]
    rw [e]
    rw [hB] at hr
    refine FnSpec.of_code (cx := cx) (an := {}) (rs := [.tmp 6]) mo Tryz.func5 rfl rfl (by kernel_rfl) (by kernel_rfl) (by show 3 ≤ _; decide) (.inl rfl) (by simp [allWr, keys, Res.wr]) ?_
    repeat' (first | omega | assumption | (show AL.ahead _ _ _ = true; rfl) | refine brF (fun _ => ?_) (fun _ => ?_) | refine brT (fun _ => ?_) (fun _ => ?_) | refine brVF (fun _ => ?_) (fun _ => ?_) | refine brVT (fun _ => ?_) (fun _ => ?_) | (with_reducible refine And.intro ?_ ?_) | (refine callK_by (hr _) ?_) | (simp -dsimp -implicitDefEqProofs only [go_sem, ↓reduceIte, Nat.reduceEqDiff, Nat.reduceAdd, Nat.reduceMul, Nat.reduceLeDiff, Nat.reduceLT, Nat.reduceBEq, Nat.reducePow, Int.reduceToNat, Int.reduceLE, Int.reduceLT, Int.reduceNeg, reduceCtorEq, Int.reduceEq, Int.reduceAdd, Int.reduceSub, Int.reduceMul, Nat.reduceSub, poolA, hx, txA_good, txA_csz, txA_agg, nb_tx]))
    all_goals trace_state
  | true =>
    have hB2 : ¬ txB t = false := by rw [hB]; decide
    rw [hB] at hr
    cases hA : l.any (sameW t) with
    | true =>
      have e : putP l t h = (l, 8) := by unfold putP; rw [if_neg hB2, if_pos hA]
      rw [e]
      rw [hA] at hh
      refine FnSpec.of_code (cx := cx) (an := {}) (rs := [.tmp 6]) mo Tryz.func5 rfl rfl (by kernel_rfl) (by kernel_rfl) (by show 3 ≤ _; decide) (.inl rfl) (by simp [allWr, keys, Res.wr]) ?_
      repeat' (first | omega | assumption | (show AL.ahead _ _ _ = true; rfl) | refine brF (fun _ => ?_) (fun _ => ?_) | refine brT (fun _ => ?_) (fun _ => ?_) | refine brVF (fun _ => ?_) (fun _ => ?_) | refine brVT (fun _ => ?_) (fun _ => ?_) | (with_reducible refine And.intro ?_ ?_) | (refine callK_by (hr _) ?_) | (refine callK_by (hh _ (by omega)) ?_) | (simp -dsimp -implicitDefEqProofs only [go_sem, ↓reduceIte, Nat.reduceEqDiff, Nat.reduceAdd, Nat.reduceMul, Nat.reduceLeDiff, Nat.reduceLT, Nat.reduceBEq, Nat.reducePow, Int.reduceToNat, Int.reduceLE, Int.reduceLT, Int.reduceNeg, reduceCtorEq, Int.reduceEq, Int.reduceAdd, Int.reduceSub, Int.reduceMul, Nat.reduceSub, poolA, hx, txA_good, txA_csz, txA_agg, nb_tx]))
      all_goals trace_state
    | false =>
      have hA2 : ¬ l.any (sameW t) = true := by rw [hA]; decide
      rw [hA] at hh
      by_cases hf : 64 ≤ l.length
      · have e : putP l t h = (l, 6) := by unfold putP; rw [if_neg hB2, if_neg hA2, if_pos hf]
        rw [e]
        refine FnSpec.of_code (cx := cx) (an := {}) (rs := [.tmp 6]) mo Tryz.func5 rfl rfl (by kernel_rfl) (by kernel_rfl) (by show 3 ≤ _; decide) (.inl rfl) (by simp [allWr, keys, Res.wr]) ?_
        repeat' (first | omega | assumption | (show AL.ahead _ _ _ = true; rfl) | refine brF (fun _ => ?_) (fun _ => ?_) | refine brT (fun _ => ?_) (fun _ => ?_) | refine brVF (fun _ => ?_) (fun _ => ?_) | refine brVT (fun _ => ?_) (fun _ => ?_) | (with_reducible refine And.intro ?_ ?_) | (refine callK_by (hr _) ?_) | (refine callK_by (hh _ (by omega)) ?_) | (simp -dsimp -implicitDefEqProofs only [go_sem, ↓reduceIte, Nat.reduceEqDiff, Nat.reduceAdd, Nat.reduceMul, Nat.reduceLeDiff, Nat.reduceLT, Nat.reduceBEq, Nat.reducePow, Int.reduceToNat, Int.reduceLE, Int.reduceLT, Int.reduceNeg, reduceCtorEq, Int.reduceEq, Int.reduceAdd, Int.reduceSub, Int.reduceMul, Nat.reduceSub, poolA, hx, txA_good, txA_csz, txA_agg, nb_tx]))
        all_goals trace_state
      · have e : putP l t h = (l ++ [⟨t, h⟩], 0) := by unfold putP; rw [if_neg hB2, if_neg hA2, if_neg hf]
        rw [e]
        refine FnSpec.of_code (cx := cx) (an := {}) (rs := [.tmp 6]) mo Tryz.func5 rfl rfl (by kernel_rfl) (by kernel_rfl) (by show 3 ≤ _; decide) (.inl rfl) (by simp [allWr, keys, Res.wr]) ?_
        repeat' (first | omega | assumption | (show AL.ahead _ _ _ = true; rfl) | refine brF (fun _ => ?_) (fun _ => ?_) | refine brT (fun _ => ?_) (fun _ => ?_) | refine brVF (fun _ => ?_) (fun _ => ?_) | refine brVT (fun _ => ?_) (fun _ => ?_) | (with_reducible refine And.intro ?_ ?_) | (refine callK_by (hr _) ?_) | (refine callK_by (hh _ (by omega)) ?_) | (simp -dsimp -implicitDefEqProofs only [go_sem, ↓reduceIte, Nat.reduceEqDiff, Nat.reduceAdd, Nat.reduceMul, Nat.reduceLeDiff, Nat.reduceLT, Nat.reduceBEq, Nat.reducePow, Int.reduceToNat, Int.reduceLE, Int.reduceLT, Int.reduceNeg, reduceCtorEq, Int.reduceEq, Int.reduceAdd, Int.reduceSub, Int.reduceMul, Nat.reduceSub, poolA, hx, txA_good, txA_csz, txA_agg, nb_tx, hsn]))
        all_goals trace_state
/-- a transaction that spends one out, as it is written down -/
def oneA (s : Sum) : AV := .agg 40 [.sl 35 [.agg 35 [.agg 33 [sumA s, n64 0], n64 0, .sl 1 [] 1]] 1, .sl 2 [] 1, .agg 37 [n64 0, n64 0, n64 0, n64 0, sumA zeroS, .sl 1 [] 1], .sl 33 [] 1]
theorem oneA_le (s : Sum) : AV.le (oneA s) (txA (oneT s)) := by
  refine ⟨_, rfl, _, _, rfl, ⟨_, _, rfl, ?_, .inr (.inl rfl)⟩, _, _, rfl, ⟨_, _, rfl, AV.les_refl _, .inr (.inl rfl)⟩, _, _, rfl, ⟨_, rfl, ?_⟩, _, _, rfl, ⟨_, _, rfl, AV.les_refl _, .inr (.inl rfl)⟩, rfl⟩
  · exact ⟨_, _, rfl, ⟨_, rfl, _, _, rfl, AV.le_refl _, _, _, rfl, AV.le_refl _, _, _, rfl, ⟨_, _, rfl, AV.les_refl _, .inr (.inl rfl)⟩, rfl⟩, rfl⟩
  · exact ⟨_, _, rfl, AV.le_refl _, _, _, rfl, AV.le_refl _, _, _, rfl, AV.le_refl _, _, _, rfl, AV.le_refl _, _, _, rfl, AV.le_refl _, _, _, rfl, ⟨_, _, rfl, AV.les_refl _, .inr (.inl rfl)⟩, rfl⟩
theorem putOne_spec (nx N : Nat) (l : List Wt_) (late : Int) (s : Sum) (hN : N + 7 < nx) (hall : ∀ w ∈ l, txZ2 w.tx) (hl : l.length ≤ 1000) :
    FnSpec Tryz.prog 5 nx [.ref (N + 7) 0 [], oneA s, n64 1] (poolH l late N) (n64 (putP l (oneT s) 1).2) (poolH (putP l (oneT s) 1).1 late N) 0 :=
  (putP_spec nx N l late 1 (oneT s) hN (oneT_size s) hall hl).le ⟨_, _, rfl, AV.le_refl _, _, _, rfl, oneA_le s, AV.les_refl _⟩
theorem putNil_one (nx : Nat) (s : Sum) : FnSpec Tryz.prog 5 nx [nilP, oneA s, n64 1] [] (n64 1) [] 0 :=
  (put_nil nx 1 (oneT s)).le ⟨_, _, rfl, AV.le_refl _, _, _, rfl, oneA_le s, AV.les_refl _⟩
theorem put_first (s : Sum) : putP [] (oneT s) 1 = ([⟨oneT s, 1⟩], 0) := by
  unfold putP
  rw [if_neg (by rw [oneT_right]; decide)]
  simp
theorem put_again (s : Sum) : putP [⟨oneT s, 1⟩] (oneT s) 1 = ([⟨oneT s, 1⟩], 8) := by
  unfold putP
  rw [if_neg (by rw [oneT_right]; decide)]
  simp [sameW, oneT_same]
theorem pawake_spec (nx : Nat) : FnSpec Tryz.prog 9 nx [] [] (bA true) [] 0 := by
  have hm : min (max (0 : Int) 1) 65536 = 1 := by decide
  have h0 := fun nc => newp_spec nc 0
  rw [hm] at h0
  have h1 := fun nc (h : nx + 100 ≤ nc) => late_spec nc (nx + 57) [] 1 (by omega)
  have h2 := fun nc (h : nx + 100 ≤ nc) => putOne_spec nc (nx + 57) [] 1 zeroS (by omega) (fun w hw => by simp at hw) (by simp)
  have h3 := fun nc (h : nx + 100 ≤ nc) => putOne_spec nc (nx + 57) [⟨oneT zeroS, 1⟩] 1 zeroS (by omega) (fun w hw => by simp at hw; subst hw; exact oneT_size _) (by simp)
  have h4 := fun nc (h : nx + 100 ≤ nc) => all_spec nc (nx + 57) [⟨oneT zeroS, 1⟩] 1 (by omega) (by simp)
  simp only [put_first, put_again, oneA] at h2 h3
  refine FnSpec.of_code (cx := cx) (an := {}) (rs := [.tmp 0]) mo Tryz.func9 rfl rfl (by kernel_rfl) (by kernel_rfl) (by show 0 ≤ _; decide) (.inl rfl) (by simp [allWr, keys, Res.wr]) ?_
  repeat' (first | omega | assumption | (show AL.ahead _ _ _ = true; rfl) | refine brF (fun _ => ?_) (fun _ => ?_) | refine brT (fun _ => ?_) (fun _ => ?_) | refine brVF (fun _ => ?_) (fun _ => ?_) | refine brVT (fun _ => ?_) (fun _ => ?_) | (with_reducible refine And.intro ?_ ?_) | (refine callK_by (h0 _) ?_) | (refine callK_by (h1 _ (by omega)) ?_) | (simp -dsimp -implicitDefEqProofs only [go_sem, ↓reduceIte, Nat.reduceEqDiff, Nat.reduceAdd, Nat.reduceMul, Nat.reduceLeDiff, Nat.reduceLT, Nat.reduceBEq, Nat.reducePow, Int.reduceToNat, Int.reduceLE, Int.reduceLT, Int.reduceNeg, reduceCtorEq, Int.reduceEq, Int.reduceAdd, Int.reduceSub, Int.reduceMul, Nat.reduceSub]))
  refine callK_by (h2 _ (by omega)) ?_
  repeat' (first | omega | assumption | (show AL.ahead _ _ _ = true; rfl) | refine brF (fun _ => ?_) (fun _ => ?_) | refine brT (fun _ => ?_) (fun _ => ?_) | refine brVF (fun _ => ?_) (fun _ => ?_) | refine brVT (fun _ => ?_) (fun _ => ?_) | (with_reducible refine And.intro ?_ ?_) | (simp -dsimp -implicitDefEqProofs only [go_sem, ↓reduceIte, Nat.reduceEqDiff, Nat.reduceAdd, Nat.reduceMul, Nat.reduceLeDiff, Nat.reduceLT, Nat.reduceBEq, Nat.reducePow, Int.reduceToNat, Int.reduceLE, Int.reduceLT, Int.reduceNeg, reduceCtorEq, Int.reduceEq, Int.reduceAdd, Int.reduceSub, Int.reduceMul, Nat.reduceSub]))
  refine callK_by (h3 _ (by omega)) ?_
  repeat' (first | omega | assumption | (show AL.ahead _ _ _ = true; rfl) | refine brF (fun _ => ?_) (fun _ => ?_) | refine brT (fun _ => ?_) (fun _ => ?_) | refine brVF (fun _ => ?_) (fun _ => ?_) | refine brVT (fun _ => ?_) (fun _ => ?_) | (with_reducible refine And.intro ?_ ?_) | (refine callK_by (h4 _ (by omega)) ?_) | (simp -dsimp -implicitDefEqProofs only [go_sem, ↓reduceIte, Nat.reduceEqDiff, Nat.reduceAdd, Nat.reduceMul, Nat.reduceLeDiff, Nat.reduceLT, Nat.reduceBEq, Nat.reducePow, Int.reduceToNat, Int.reduceLE, Int.reduceLT, Int.reduceNeg, reduceCtorEq, Int.reduceEq, Int.reduceAdd, Int.reduceSub, Int.reduceMul, Nat.reduceSub]))
  all_goals trace_state
def sI (i : Nat) : Sum := ⟨UInt8.ofNat i :: List.replicate 31 0, by simp⟩
theorem sI_set {i : Nat} (h : i < 256) : (u8s zeroS.b).set 0 (.val (.int .u8 (i : Int))) = u8s (sI i).b := by
  have e : ((UInt8.ofNat i).toNat : Int) = (i : Int) := by rw [UInt8.toNat_ofNat']; omega
  simp [zeroS, sI, u8s, u8, List.replicate]
  omega
theorem sI_inj {i j : Nat} (hi : i < 256) (hj : j < 256) (h : (sI i).b = (sI j).b) : i = j := by
  have h2 : UInt8.ofNat i = UInt8.ofNat j := by injection h
  have h3 := congrArg UInt8.toNat h2
  rw [UInt8.toNat_ofNat', UInt8.toNat_ofNat'] at h3
  omega
/-- what waits behind so many -/
def poolL (i : Nat) : List Wt_ := (List.range (min i 64)).map fun j => ⟨oneT (sI j), 1⟩
theorem poolL_len (i : Nat) : (poolL i).length = min i 64 := by simp [poolL]
theorem poolL_size (i : Nat) : ∀ w ∈ poolL i, txZ2 w.tx := by
  intro w hw
  obtain ⟨j, _, rfl⟩ := List.mem_map.1 hw
  exact oneT_size _
theorem poolL_any {i : Nat} (h : i < 256) (h2 : i < 64 → True) : (poolL (min i 64)).any (sameW (oneT (sI i))) = false := by
  rw [List.any_eq_false]
  intro w hw
  obtain ⟨j, hj, rfl⟩ := List.mem_map.1 hw
  have hj := List.mem_range.1 hj
  simp only [sameW, oneT_same, decide_eq_true_eq]
  intro e
  have := sI_inj (by omega) (by omega) e
  omega
theorem poolL_min (i : Nat) : poolL (min i 64) = poolL i := by unfold poolL; congr 2; omega
theorem poolL_put {i : Nat} (h : i < 256) : putP (poolL i) (oneT (sI i)) 1 = (poolL (i + 1), if i < 64 then 0 else 6) := by
  have ha := poolL_any h (fun _ => trivial)
  rw [poolL_min] at ha
  unfold putP
  rw [if_neg (by rw [oneT_right]; decide), if_neg (by rw [ha]; decide)]
  by_cases h64 : i < 64
  · rw [if_neg (by rw [poolL_len]; omega), if_pos h64]
    congr 1
    unfold poolL
    rw [show min (i + 1) 64 = min i 64 + 1 by omega, List.range_succ, List.map_append]
    have e : min i 64 = i := by omega
    rw [e]; rfl
  · rw [if_pos (by rw [poolL_len]; omega), if_neg h64]
    congr 1
    unfold poolL
    congr 2; omega
theorem full_spec (nx : Nat) (n : Int) : FnSpec Tryz.prog 3 nx [n64 n] [] (bA true) [] 0 := by
  have a1 := fun nc => mine_nil nc _ _ rfl rfl
  have a2 := fun nc => putNil_one nc zeroS
  simp only [oneA] at a2
  by_cases hn : n < 60 ∨ 70 < n
  · refine FnSpec.of_code (cx := cx) (an := {}) (rs := [.tmp 2]) mo Tryz.func3 rfl rfl (by kernel_rfl) (by kernel_rfl) (by show 1 ≤ _; decide) (.inl rfl) (by simp [allWr, keys, Res.wr]) ?_
    repeat' (first | omega | assumption | (show AL.ahead _ _ _ = true; rfl) | refine brF (fun _ => ?_) (fun _ => ?_) | refine brT (fun _ => ?_) (fun _ => ?_) | refine brVF (fun _ => ?_) (fun _ => ?_) | refine brVT (fun _ => ?_) (fun _ => ?_) | (with_reducible refine And.intro ?_ ?_) | (refine callK_by (a1 _) ?_) | (refine callK_by (a2 _) ?_) | (refine callK_by (late_nil _) ?_) | (refine callK_by (all_nil _) ?_) | (refine callK_by (block_nil _) ?_) | (refine callK_by (pawake_spec _) ?_) | (simp -dsimp -implicitDefEqProofs only [go_sem, ↓reduceIte, Nat.reduceEqDiff, Nat.reduceAdd, Nat.reduceMul, Nat.reduceLeDiff, Nat.reduceLT, Nat.reduceBEq, Nat.reducePow, Int.reduceToNat, Int.reduceLE, Int.reduceLT, Int.reduceNeg, reduceCtorEq, Int.reduceEq, Int.reduceAdd, Int.reduceSub, Int.reduceMul, Nat.reduceSub, wrap0, Int.add_zero]))
    all_goals trace_state
  · obtain ⟨k, hk⟩ : ∃ k : Nat, n = (k : Int) := ⟨n.toNat, by omega⟩
    subst hk
    have hm : min (max (3 : Int) 1) 65536 = 3 := by decide
    have h0 := fun nc => newp_spec nc 3
    rw [hm] at h0
    refine FnSpec.of_code (cx := cx) (an := {}) (rs := [.tmp 2]) mo Tryz.func3 rfl rfl (by kernel_rfl) (by kernel_rfl) (by show 1 ≤ _; decide) (.inl rfl) (by simp [allWr, keys, Res.wr]) ?_
    have hnb := fun i => poolA_nb (N := nx + 353) (m := nx + 388) (by omega) (poolL i) 3
    repeat' (first | omega | assumption | (show AL.ahead _ _ _ = true; rfl) | refine brF (fun _ => ?_) (fun _ => ?_) | refine brT (fun _ => ?_) (fun _ => ?_) | refine brVF (fun _ => ?_) (fun _ => ?_) | refine brVT (fun _ => ?_) (fun _ => ?_) | (with_reducible refine And.intro ?_ ?_) | (refine callK_by (a1 _) ?_) | (refine callK_by (a2 _) ?_) | (refine callK_by (late_nil _) ?_) | (refine callK_by (all_nil _) ?_) | (refine callK_by (block_nil _) ?_) | (refine callK_by (h0 _) ?_) | (simp -dsimp -implicitDefEqProofs only [go_sem, ↓reduceIte, Nat.reduceEqDiff, Nat.reduceAdd, Nat.reduceMul, Nat.reduceLeDiff, Nat.reduceLT, Nat.reduceBEq, Nat.reducePow, Int.reduceToNat, Int.reduceLE, Int.reduceLT, Int.reduceNeg, reduceCtorEq, Int.reduceEq, Int.reduceAdd, Int.reduceSub, Int.reduceMul, Nat.reduceSub, wrap0, Int.add_zero]))
    apply loop_keep [0, 6] (fun i : { i : Nat // i ≤ k } => [(7, n64 i.1)]) (fun i => poolH (poolL i.1) 3 (nx + 353)) (fun i => k - i.1) ⟨0, Nat.zero_le _⟩
    · simp -dsimp -implicitDefEqProofs only [go_sem, ↓reduceIte, Nat.reduceEqDiff, Nat.reduceAdd, Nat.reduceMul, Nat.reduceLeDiff, Nat.reduceLT, Nat.reduceBEq, Nat.reducePow, Int.reduceToNat, Int.reduceLE, Int.reduceLT, Int.reduceNeg, reduceCtorEq, Int.reduceEq, Int.reduceAdd, Int.reduceSub, Int.reduceMul, Nat.reduceSub]; try rfl
    · simp -dsimp -implicitDefEqProofs only [go_sem, ↓reduceIte, Nat.reduceEqDiff, Nat.reduceAdd, Nat.reduceMul, Nat.reduceLeDiff, Nat.reduceLT, Nat.reduceBEq, Nat.reducePow, Int.reduceToNat, Int.reduceLE, Int.reduceLT, Int.reduceNeg, reduceCtorEq, Int.reduceEq, Int.reduceAdd, Int.reduceSub, Int.reduceMul, Nat.reduceSub]; try rfl
    · simp -dsimp -implicitDefEqProofs only [go_sem, ↓reduceIte, Nat.reduceEqDiff, Nat.reduceAdd, Nat.reduceMul, Nat.reduceLeDiff, Nat.reduceLT, Nat.reduceBEq, Nat.reducePow, Int.reduceToNat, Int.reduceLE, Int.reduceLT, Int.reduceNeg, reduceCtorEq, Int.reduceEq, Int.reduceAdd, Int.reduceSub, Int.reduceMul, Nat.reduceSub]; exact ⟨rfl, rfl⟩
    · intro s
      simp -dsimp -implicitDefEqProofs only [go_sem, ↓reduceIte, Nat.reduceEqDiff, Nat.reduceAdd, Nat.reduceMul, Nat.reduceLeDiff, Nat.reduceLT, Nat.reduceBEq, Nat.reducePow, Int.reduceToNat, Int.reduceLE, Int.reduceLT, Int.reduceNeg, reduceCtorEq, Int.reduceEq, Int.reduceAdd, Int.reduceSub, Int.reduceMul, Nat.reduceSub, hnb]
      all_goals omega
    · rintro ⟨i, hi⟩
      have hi : i ≤ k := hi
      simp -dsimp -implicitDefEqProofs only [go_sem, ↓reduceIte, Nat.reduceEqDiff, Nat.reduceAdd, Nat.reduceMul, Nat.reduceLeDiff, Nat.reduceLT, Nat.reduceBEq, Nat.reducePow, Int.reduceToNat, Int.reduceLE, Int.reduceLT, Int.reduceNeg, reduceCtorEq, Int.reduceEq, Int.reduceAdd, Int.reduceSub, Int.reduceMul, Nat.reduceSub]
      refine brT (fun hc => ?_) (fun hc => ?_)
      · have hi2 : i < k := by omega
        have w1 : IntKind.i64.wrap ((i : Int) + 1) = ((i + 1 : Nat) : Int) := wrapE (by omega) (by omega)
        have w2 : IntKind.u8.wrap (i : Int) = (i : Int) := by rw [IntKind.wrap_u8]; omega
        have hset := sI_set (i := i) (by omega)
        have hcs := u8s_csize zeroS.b 0
        have hpt := fun nc (h : nx + 380 ≤ nc) => putOne_spec nc (nx + 353) (poolL i) 3 (sI i) (by omega) (poolL_size i) (by rw [poolL_len]; omega)
        rw [poolL_put (by omega : i < 256)] at hpt
        simp only [oneA, sumA] at hpt
        by_cases h64 : i < 64
        · rw [if_pos h64] at hpt
          have hd : decide ((i : Int) < 64) = true := decide_eq_true (by omega)
          repeat' (first | omega | assumption | (show AL.ahead _ _ _ = true; rfl) | refine brF (fun _ => ?_) (fun _ => ?_) | refine brT (fun _ => ?_) (fun _ => ?_) | refine brVF (fun _ => ?_) (fun _ => ?_) | refine brVT (fun _ => ?_) (fun _ => ?_) | (with_reducible refine And.intro ?_ ?_) | (refine callK_by (hpt _ (by omega)) ?_) | (simp -dsimp -implicitDefEqProofs only [go_sem, ↓reduceIte, Nat.reduceEqDiff, Nat.reduceAdd, Nat.reduceMul, Nat.reduceLeDiff, Nat.reduceLT, Nat.reduceBEq, Nat.reducePow, Int.reduceToNat, Int.reduceLE, Int.reduceLT, Int.reduceNeg, reduceCtorEq, Int.reduceEq, Int.reduceAdd, Int.reduceSub, Int.reduceMul, Nat.reduceSub, w1, w2, hset, hcs, hd]))
          exact ⟨⟨i + 1, hi2⟩, by show k - (i + 1) < k - i; omega, rfl, rfl, rfl⟩
        · rw [if_neg h64] at hpt
          have hd : decide ((i : Int) < 64) = false := decide_eq_false (by omega)
          repeat' (first | omega | assumption | (show AL.ahead _ _ _ = true; rfl) | refine brF (fun _ => ?_) (fun _ => ?_) | refine brT (fun _ => ?_) (fun _ => ?_) | refine brVF (fun _ => ?_) (fun _ => ?_) | refine brVT (fun _ => ?_) (fun _ => ?_) | (with_reducible refine And.intro ?_ ?_) | (refine callK_by (hpt _ (by omega)) ?_) | (simp -dsimp -implicitDefEqProofs only [go_sem, ↓reduceIte, Nat.reduceEqDiff, Nat.reduceAdd, Nat.reduceMul, Nat.reduceLeDiff, Nat.reduceLT, Nat.reduceBEq, Nat.reducePow, Int.reduceToNat, Int.reduceLE, Int.reduceLT, Int.reduceNeg, reduceCtorEq, Int.reduceEq, Int.reduceAdd, Int.reduceSub, Int.reduceMul, Nat.reduceSub, w1, w2, hset, hcs, hd]))
          exact ⟨⟨i + 1, hi2⟩, by show k - (i + 1) < k - i; omega, rfl, rfl, rfl⟩
      · repeat' (first | omega | assumption | (show AL.ahead _ _ _ = true; rfl) | refine brF (fun _ => ?_) (fun _ => ?_) | refine brT (fun _ => ?_) (fun _ => ?_) | refine brVF (fun _ => ?_) (fun _ => ?_) | refine brVT (fun _ => ?_) (fun _ => ?_) | (with_reducible refine And.intro ?_ ?_) | (refine callK_by (pawake_spec _) ?_) | (simp -dsimp -implicitDefEqProofs only [go_sem, ↓reduceIte, Nat.reduceEqDiff, Nat.reduceAdd, Nat.reduceMul, Nat.reduceLeDiff, Nat.reduceLT, Nat.reduceBEq, Nat.reducePow, Int.reduceToNat, Int.reduceLE, Int.reduceLT, Int.reduceNeg, reduceCtorEq, Int.reduceEq, Int.reduceAdd, Int.reduceSub, Int.reduceMul, Nat.reduceSub]))
        all_goals trace_state
end Go.Proofs.YtnmnfhicgopdnaaGreat

/-
  bartizanlaw31.TowerNobody: for every input it returns true, and the input reads behind the call as it read before. No condition.
-/
set_option linter.unusedSimpArgs false
set_option linter.unusedVariables false
set_option maxRecDepth 100000
set_option maxHeartbeats 1000000
namespace Go.Proofs.YtnmnfhicgopdnaaGreat
open Go Go.AL Go.Proofs.YtnmnfhicgopdnaaGreat.T Go.ChangeShapes Go.WideShapes Go.ChangeAt Go.RowKit

theorem Tryz.own : ownKnob Tryz.prog.godebug = none := by kernel_rfl
theorem Tryz.laidOut : laidOutB Tryz.prog = true := by kernel_rfl
theorem toNat_ofNat' {n : Nat} (h : n < 256) : (UInt8.ofNat n).toNat = n := by
  rw [UInt8.toNat_ofNat']; omega
theorem ty_byte {n : Nat} {a : AV} (h : Ty Tryz.prog (n + 1) 5 a) : ∃ b, a = u8 b ∧ True := by
  obtain ⟨x, rfl, h1, h2⟩ := h.int_inv Tryz.underlying5
  have h1' : (0 : Int) ≤ x := h1
  have h2' : x ≤ 255 := h2
  refine ⟨UInt8.ofNat x.toNat, ?_, trivial⟩
  rw [u8, toNat_ofNat' (by omega)]
  congr 2; omega
theorem ty_sum {n : Nat} {a : AV} (h : Ty Tryz.prog (n + 2) 29 a) : ∃ s, a = sumA s := by
  obtain ⟨L, rfl, hl, k⟩ := h.arr_inv Tryz.underlying29 (m := 1) (by kernel_rfl)
  obtain ⟨l, rfl, _⟩ := list_inv (f := u8) (p := fun _ => True) (fun x hx => ty_byte (k x hx))
  rw [List.length_map] at hl
  exact ⟨⟨l, hl⟩, rfl⟩
theorem ty_int {n : Nat} {a : AV} (h : Ty Tryz.prog (n + 1) 3 a) : ∃ x, a = n64 x := by
  obtain ⟨x, rfl, _⟩ := h.int_inv Tryz.underlying3
  exact ⟨x, rfl⟩
theorem ty_int64 {n : Nat} {a : AV} (h : Ty Tryz.prog (n + 1) 2 a) : ∃ x, a = n64 x := by
  obtain ⟨x, rfl, _⟩ := h.int_inv Tryz.underlying2
  exact ⟨x, rfl⟩
theorem ty_ref {n : Nat} {a : AV} (h : Ty Tryz.prog (n + 3) 31 a) : ∃ r, a = refA r := by
  obtain ⟨L, rfl, k⟩ := h.struct_inv Tryz.underlying31 (m := 33) (ts := [29, 3]) (by kernel_rfl) rfl
  obtain ⟨a0, _, rfl, h0, k⟩ := k.cons_inv
  obtain ⟨a1, _, rfl, h1, k⟩ := k.cons_inv
  cases k.nil_inv
  obtain ⟨x0, rfl⟩ := ty_sum h0
  obtain ⟨x1, rfl⟩ := ty_int h1
  exact ⟨⟨x0, x1⟩, rfl⟩
theorem ty_chan {n : Nat} {a : AV} (h : Ty Tryz.prog (n + 4) 158 a) : ∃ c, a = chanA c := by
  obtain ⟨L, rfl, k⟩ := h.struct_inv Tryz.underlying158 (m := 39) (ts := [3, 3, 3, 31, 2, 3, 3]) (by kernel_rfl) rfl
  obtain ⟨a0, _, rfl, h0, k⟩ := k.cons_inv
  obtain ⟨a1, _, rfl, h1, k⟩ := k.cons_inv
  obtain ⟨a2, _, rfl, h2, k⟩ := k.cons_inv
  obtain ⟨a3, _, rfl, h3, k⟩ := k.cons_inv
  obtain ⟨a4, _, rfl, h4, k⟩ := k.cons_inv
  obtain ⟨a5, _, rfl, h5, k⟩ := k.cons_inv
  obtain ⟨a6, _, rfl, h6, k⟩ := k.cons_inv
  cases k.nil_inv
  obtain ⟨x0, rfl⟩ := ty_int h0
  obtain ⟨x1, rfl⟩ := ty_int h1
  obtain ⟨x2, rfl⟩ := ty_int h2
  obtain ⟨x3, rfl⟩ := ty_ref h3
  obtain ⟨x4, rfl⟩ := ty_int64 h4
  obtain ⟨x5, rfl⟩ := ty_int h5
  obtain ⟨x6, rfl⟩ := ty_int h6
  exact ⟨⟨x0, x1, x2, x3, x4, x5, x6⟩, rfl⟩

end Go.Proofs.YtnmnfhicgopdnaaGreat

/-
  bartizanlaw21.PoolFull: for every input it returns true, and the input reads behind the call as it read before. No condition.
-/
set_option linter.unusedSimpArgs false
set_option linter.unusedVariables false
set_option maxRecDepth 100000
set_option maxHeartbeats 1000000
namespace Go.Proofs.YtnmnfhicgopdnaaGreat
open Go Go.AL Go.Proofs.YtnmnfhicgopdnaaGreat.T Go.ChangeShapes Go.WideShapes Go.ChangeAt Go.RowKit
theorem pf_args (xs : List AV) (h : TyF (Ty Tryz.prog 8) Tryz.f3.params.toList xs) : FnSpec Tryz.prog 3 0 xs [] (.val (.bool true)) [] 0 := by
  have hp : Tryz.f3.params.toList = [3] := rfl
  rw [hp] at h
  obtain ⟨a0, _, rfl, h0, h⟩ := h.cons_inv
  cases h.nil_inv
  obtain ⟨x0, rfl⟩ := ty_int h0
  exact full_spec 0 x0

theorem pf_lifted (os : Os) (started : os.Started) (H : Type) (enc : TypeId × Value → H) :
    ReturnsInHanded {} Tryz.checked os 3 .any (Rows.poolFullSpec.pre6 enc Tryz.prog Tryz.f3 Rows.poolFullRow.domain false) (Rows.poolFullSpec.post enc Tryz.prog Tryz.f3 false true false false) := by
  refine returnsInHanded_of_change (C := Tryz.checked) Tryz.own started (by kernel_rfl) Tryz.func3
    (ChangeSpec.witness6 (enc := enc) (C := Tryz.checked) false ⟨#[], #[.int .i64 0], []⟩ 8 (by kernel_rfl) (by kernel_rfl) (by kernel_rfl) (by kernel_rfl)) ?_
  intro W base args ds gs before hval0 hW hcnd _
  exact post_of_spec (P := Tryz.prog) (n := 8) (tb := 4) Tryz.laidOut rfl (fun ds hl => by
    match ds, hl with
    | [d1], _ => rfl) (by kernel_rfl) (by kernel_rfl) rfl Tryz.underlying4 pf_args W base args ds gs before hval0 hW

theorem pf_holds : Rows.PoolFullSaid :=
  OpenClaim.holds_of_wide 3 Tryz.f3 rfl rfl rfl rfl rfl rfl rfl ⟨rfl, rfl, rfl, rfl, rfl⟩ rfl rfl rfl rfl rfl (by kernel_rfl) Tryz.func3 (by kernel_rfl)
    (of_decide_eq_true (by kernel_rfl)) (by unfold Func.isWrapper; first | (rw [if_pos (by decide +kernel)]; kernel_rfl) | (rw [if_neg (by decide +kernel)]; exact ⟨rfl, rfl⟩))
    (fun os started H enc _ => pf_lifted os started H enc)
#print axioms pf_holds
end Go.Proofs.YtnmnfhicgopdnaaGreat

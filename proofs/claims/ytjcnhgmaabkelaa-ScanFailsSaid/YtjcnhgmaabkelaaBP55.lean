/-
  What records do to a book: all of them.
-/
import Derived.Test.YtjcnhgmaabkelaaBP48
import Derived.Test.YtjcnhgmaabkelaaBP16
set_option linter.unusedSimpArgs false
set_option linter.unusedVariables false
set_option maxRecDepth 100000
set_option maxHeartbeats 4000000
namespace Go.Proofs.Ytjcnhgmaabkelaa
open Go Go.AL Go.Proofs.Ytjcnhgmaabkelaa.T
attribute [local go_sem] nb_u8s u8s_length nb_sum sumA List.length_replicate zero_sum sum_h u8s_nil sums_len nb_sums states_len helds_len nb_states nb_helds signs_len nb_signs nb_keysT nb_valsT
def giveB (b : Bk) : Bk × Int :=
  if b.closing = true ∨ b.taken.length ≠ b.given + 1 then (b, 9)
  else if (ofN b.given b.held).length = 0 then (b, 22)
  else ({ b with given := b.given + 1 }, 0)
theorem give_spec (nx N : Nat) (b : Bk) (hN : N + 16 < nx) (hL : bkL b) : FnSpec Try.prog 42 nx [.ref (N + 16) 0 []] (bookH b N) (n64 (giveB b).2) (bookH (giveB b).1 N) 0 := by
  have hx := bkN hN
  have hhd := fun nc (h : nx ≤ nc) => held_spec nc N b b.given (by omega) hL
  obtain ⟨l1, l2, l3, l4, l5, l6⟩ := hL
  have w1 : IntKind.i64.wrap ((b.given : Int) + 1) = ((b.given + 1 : Nat) : Int) := wrapE (by omega) (by omega)
  have hln := fun nc (h : nx ≤ nc) => shlen_spec nc N b (by omega)
  simp only [bookA, chanA, refA] at hln hhd
  by_cases h1 : b.closing = true ∨ b.taken.length ≠ b.given + 1
  · have e : giveB b = (b, 9) := by unfold giveB; rw [if_pos h1]
    rw [e]
    rcases h1 with h1 | h1
    · refine FnSpec.of_code (cx := cx) (an := {}) (rs := [.tmp 2]) mo Try.func42 rfl rfl (by kernel_rfl) (by kernel_rfl) (by show 1 ≤ _; decide) (.inl rfl) (by simp [allWr, keys, Res.wr]) ?_
      repeat' (first | omega | assumption | (show AL.ahead _ _ _ = true; rfl) | refine brF (fun _ => ?_) (fun _ => ?_) | refine brT (fun _ => ?_) (fun _ => ?_) | refine brVF (fun _ => ?_) (fun _ => ?_) | refine brVT (fun _ => ?_) (fun _ => ?_) | (with_reducible refine And.intro ?_ ?_) | (refine callK_by (hln _ (by omega)) ?_) | (simp -dsimp -implicitDefEqProofs only [go_sem, ↓reduceIte, Nat.reduceEqDiff, Nat.reduceAdd, Nat.reduceMul, Nat.reduceLeDiff, Nat.reduceLT, Nat.reduceBEq, Nat.reducePow, Int.reduceToNat, Int.reduceLE, Int.reduceLT, Int.reduceNeg, reduceCtorEq, Int.reduceEq, Int.reduceAdd, Int.reduceSub, Int.reduceMul, Nat.reduceSub, bookH, bookA, chanA, refA, hx, w1, h1]))
      all_goals trace_state
    · refine FnSpec.of_code (cx := cx) (an := {}) (rs := [.tmp 2]) mo Try.func42 rfl rfl (by kernel_rfl) (by kernel_rfl) (by show 1 ≤ _; decide) (.inl rfl) (by simp [allWr, keys, Res.wr]) ?_
      repeat' (first | omega | assumption | (show AL.ahead _ _ _ = true; rfl) | refine brF (fun _ => ?_) (fun _ => ?_) | refine brT (fun _ => ?_) (fun _ => ?_) | refine brVF (fun _ => ?_) (fun _ => ?_) | refine brVT (fun _ => ?_) (fun _ => ?_) | (with_reducible refine And.intro ?_ ?_) | (refine callK_by (hln _ (by omega)) ?_) | (simp -dsimp -implicitDefEqProofs only [go_sem, ↓reduceIte, Nat.reduceEqDiff, Nat.reduceAdd, Nat.reduceMul, Nat.reduceLeDiff, Nat.reduceLT, Nat.reduceBEq, Nat.reducePow, Int.reduceToNat, Int.reduceLE, Int.reduceLT, Int.reduceNeg, reduceCtorEq, Int.reduceEq, Int.reduceAdd, Int.reduceSub, Int.reduceMul, Nat.reduceSub, bookH, bookA, chanA, refA, hx, w1]))
      all_goals trace_state
  · have hc : b.closing = false := by
      cases h : b.closing with
      | true => exact absurd (.inl h) h1
      | false => rfl
    have hlen : b.taken.length = b.given + 1 := Classical.byContradiction fun h => h1 (.inr h)
    by_cases h2 : (ofN b.given b.held).length = 0
    · have e : giveB b = (b, 22) := by unfold giveB; rw [if_neg h1, if_pos h2]
      rw [e]
      refine FnSpec.of_code (cx := cx) (an := {}) (rs := [.tmp 2]) mo Try.func42 rfl rfl (by kernel_rfl) (by kernel_rfl) (by show 1 ≤ _; decide) (.inl rfl) (by simp [allWr, keys, Res.wr]) ?_
      repeat' (first | omega | assumption | (show AL.ahead _ _ _ = true; rfl) | refine brF (fun _ => ?_) (fun _ => ?_) | refine brT (fun _ => ?_) (fun _ => ?_) | refine brVF (fun _ => ?_) (fun _ => ?_) | refine brVT (fun _ => ?_) (fun _ => ?_) | (with_reducible refine And.intro ?_ ?_) | (refine callK_by (hln _ (by omega)) ?_) | (refine callK_by (hhd _ (by omega)) ?_) | (simp -dsimp -implicitDefEqProofs only [go_sem, ↓reduceIte, Nat.reduceEqDiff, Nat.reduceAdd, Nat.reduceMul, Nat.reduceLeDiff, Nat.reduceLT, Nat.reduceBEq, Nat.reducePow, Int.reduceToNat, Int.reduceLE, Int.reduceLT, Int.reduceNeg, reduceCtorEq, Int.reduceEq, Int.reduceAdd, Int.reduceSub, Int.reduceMul, Nat.reduceSub, bookH, bookA, chanA, refA, hx, w1, hc]))
      all_goals trace_state
    · have e : giveB b = ({ b with given := b.given + 1 }, 0) := by unfold giveB; rw [if_neg h1, if_neg h2]
      rw [e]
      refine FnSpec.of_code (cx := cx) (an := {}) (rs := [.tmp 2]) mo Try.func42 rfl rfl (by kernel_rfl) (by kernel_rfl) (by show 1 ≤ _; decide) (.inl rfl) (by simp [allWr, keys, Res.wr]) ?_
      repeat' (first | omega | assumption | (show AL.ahead _ _ _ = true; rfl) | refine brF (fun _ => ?_) (fun _ => ?_) | refine brT (fun _ => ?_) (fun _ => ?_) | refine brVF (fun _ => ?_) (fun _ => ?_) | refine brVT (fun _ => ?_) (fun _ => ?_) | (with_reducible refine And.intro ?_ ?_) | (refine callK_by (hln _ (by omega)) ?_) | (refine callK_by (hhd _ (by omega)) ?_) | (simp -dsimp -implicitDefEqProofs only [go_sem, ↓reduceIte, Nat.reduceEqDiff, Nat.reduceAdd, Nat.reduceMul, Nat.reduceLeDiff, Nat.reduceLT, Nat.reduceBEq, Nat.reducePow, Int.reduceToNat, Int.reduceLE, Int.reduceLT, Int.reduceNeg, reduceCtorEq, Int.reduceEq, Int.reduceAdd, Int.reduceSub, Int.reduceMul, Nat.reduceSub, bookH, bookA, chanA, refA, hx, w1, hc]))
      all_goals trace_state
theorem brA_good (r : BR) : (brA r).good = true := rfl
theorem brA_csz (r : BR) : (brA r).csize = 274 := rfl
theorem brA_agg (r : BR) : (brA r).isAgg = true := rfl
theorem brA_p0 (r : BR) : (brA r).parts.getD 0 .undef = n64 r.kind := rfl
theorem brA_len (r : BR) : (brA r).parts.length = 9 := rfl
theorem brA_off (r : BR) : (brA r).partOff 0 = 0 := rfl
theorem bkA_p1 (b : Bk) (N : Nat) : (bookA b N).parts.getD 1 .undef = bA b.opened := rfl
theorem bkA_p8 (b : Bk) (N : Nat) : (bookA b N).parts.getD 8 .undef = bA b.closing := rfl
theorem bkA_len (b : Bk) (N : Nat) : (bookA b N).parts.length = 9 := rfl
theorem bkA_off1 (b : Bk) (N : Nat) : (bookA b N).partOff 1 = 40 - 1 := rfl
theorem bkA_off8 (b : Bk) (N : Nat) : (bookA b N).partOff 8 = 46 := rfl
theorem bkA_set8 (b : Bk) (N : Nat) (c : Bool) : (bookA b N).setPart 8 (.val (.bool c)) = bookA { b with closing := c } N := rfl
theorem bkA_nb {N m : Nat} (h : N + 16 < m) (b : Bk) : AV.nb m (bookA b N) = True := by
  simp only [eq_iff_iff, iff_true, bookA, chanA, refA, AV.nb, AV.nbs, nb_states, nb_signs, nb_sums, nb_helds, nb_sum, true_and, and_true]
  omega
noncomputable def applyB (b : Bk) (r : BR) : Bk × Int :=
  if r.kind = 1 then beginB b r
  else if r.kind = 6 then towerB b r
  else if b.opened = false then (b, 9)
  else if r.kind = 2 then stateB b r
  else if r.kind = 3 then takeB b r
  else if r.kind = 4 then receiptB b r
  else if r.kind = 5 then giveB b
  else if r.kind = 7 then (if b.closing = true then (b, 8) else ({ b with closing := true }, 0))
  else (b, 1)
theorem apply_spec (nx N : Nat) (b : Bk) (r : BR) (hN : N + 16 < nx) (hL : bkL b) (hr : brL r) : FnSpec Try.prog 18 nx [.ref (N + 16) 0 [], brA r] (bookH b N) (n64 (applyB b r).2) (bookH (applyB b r).1 N) 0 := by
  have hx := bkN hN
  have hno := fun nc (h : nx ≤ nc) => bnone_spec nc N b (by omega)
  have hnb := fun b' => bkA_nb hN b'
  have s1 := fun nc (h : nx ≤ nc) => begin_spec nc N b r (by omega) hL
  have s6 := fun nc (h : nx ≤ nc) => tower_spec nc N b r (by omega)
  have s2 := fun nc (h : nx ≤ nc) => bstate_spec nc N b r (by omega) hL
  have s3 := fun nc (h : nx ≤ nc) => take_spec nc N b r (by omega) hL
  have s4 := fun nc (h : nx ≤ nc) => receipt_spec nc N b r (by omega) hL hr
  have s5 := fun nc (h : nx ≤ nc) => give_spec nc N b (by omega) hL
  by_cases k1 : r.kind = 1
  · have e : applyB b r = beginB b r := by unfold applyB; rw [if_pos k1]
    rw [e]
    generalize beginB b r = R at *
    refine FnSpec.of_code (cx := cx) (an := {}) (rs := [.tmp 4]) mo Try.func18 rfl rfl (by kernel_rfl) (by kernel_rfl) (by show 2 ≤ _; decide) (.inl rfl) (by simp [allWr, keys, Res.wr]) ?_
    repeat' (first | omega | assumption | (show AL.ahead _ _ _ = true; rfl) | refine brF (fun _ => ?_) (fun _ => ?_) | refine brT (fun _ => ?_) (fun _ => ?_) | refine brVF (fun _ => ?_) (fun _ => ?_) | refine brVT (fun _ => ?_) (fun _ => ?_) | (with_reducible refine And.intro ?_ ?_) | (refine callK_by (hno _ (by omega)) ?_) | (refine callK_by (s1 _ (by omega)) ?_) | (simp -dsimp -implicitDefEqProofs only [go_sem, ↓reduceIte, Nat.reduceEqDiff, Nat.reduceAdd, Nat.reduceMul, Nat.reduceLeDiff, Nat.reduceLT, Nat.reduceBEq, Nat.reducePow, Int.reduceToNat, Int.reduceLE, Int.reduceLT, Int.reduceNeg, reduceCtorEq, Int.reduceEq, Int.reduceAdd, Int.reduceSub, Int.reduceMul, Nat.reduceSub, brA_good, brA_csz, brA_agg, brA_p0, brA_len, brA_off, bkA_p1, bkA_p8, bkA_len, bkA_off1, bkA_off8, bkA_set8, hnb, hx, k1]))
    all_goals trace_state
  by_cases k6 : r.kind = 6
  · have e : applyB b r = towerB b r := by unfold applyB; rw [if_neg k1, if_pos k6]
    rw [e]
    generalize towerB b r = R at *
    refine FnSpec.of_code (cx := cx) (an := {}) (rs := [.tmp 4]) mo Try.func18 rfl rfl (by kernel_rfl) (by kernel_rfl) (by show 2 ≤ _; decide) (.inl rfl) (by simp [allWr, keys, Res.wr]) ?_
    repeat' (first | omega | assumption | (show AL.ahead _ _ _ = true; rfl) | refine brF (fun _ => ?_) (fun _ => ?_) | refine brT (fun _ => ?_) (fun _ => ?_) | refine brVF (fun _ => ?_) (fun _ => ?_) | refine brVT (fun _ => ?_) (fun _ => ?_) | (with_reducible refine And.intro ?_ ?_) | (refine callK_by (hno _ (by omega)) ?_) | (refine callK_by (s6 _ (by omega)) ?_) | (simp -dsimp -implicitDefEqProofs only [go_sem, ↓reduceIte, Nat.reduceEqDiff, Nat.reduceAdd, Nat.reduceMul, Nat.reduceLeDiff, Nat.reduceLT, Nat.reduceBEq, Nat.reducePow, Int.reduceToNat, Int.reduceLE, Int.reduceLT, Int.reduceNeg, reduceCtorEq, Int.reduceEq, Int.reduceAdd, Int.reduceSub, Int.reduceMul, Nat.reduceSub, brA_good, brA_csz, brA_agg, brA_p0, brA_len, brA_off, bkA_p1, bkA_p8, bkA_len, bkA_off1, bkA_off8, bkA_set8, hnb, hx, k6]))
    all_goals trace_state
  cases ho : b.opened with
  | false =>
    have e : applyB b r = (b, 9) := by unfold applyB; rw [if_neg k1, if_neg k6, if_pos ho]
    rw [e]
    refine FnSpec.of_code (cx := cx) (an := {}) (rs := [.tmp 4]) mo Try.func18 rfl rfl (by kernel_rfl) (by kernel_rfl) (by show 2 ≤ _; decide) (.inl rfl) (by simp [allWr, keys, Res.wr]) ?_
    repeat' (first | omega | assumption | (show AL.ahead _ _ _ = true; rfl) | refine brF (fun _ => ?_) (fun _ => ?_) | refine brT (fun _ => ?_) (fun _ => ?_) | refine brVF (fun _ => ?_) (fun _ => ?_) | refine brVT (fun _ => ?_) (fun _ => ?_) | (with_reducible refine And.intro ?_ ?_) | (refine callK_by (hno _ (by omega)) ?_) | (simp -dsimp -implicitDefEqProofs only [go_sem, ↓reduceIte, Nat.reduceEqDiff, Nat.reduceAdd, Nat.reduceMul, Nat.reduceLeDiff, Nat.reduceLT, Nat.reduceBEq, Nat.reducePow, Int.reduceToNat, Int.reduceLE, Int.reduceLT, Int.reduceNeg, reduceCtorEq, Int.reduceEq, Int.reduceAdd, Int.reduceSub, Int.reduceMul, Nat.reduceSub, brA_good, brA_csz, brA_agg, brA_p0, brA_len, brA_off, bkA_p1, bkA_p8, bkA_len, bkA_off1, bkA_off8, bkA_set8, hnb, hx, k1, k6, ho]))
    all_goals trace_state
  | true =>
    have hno2 : ¬ b.opened = false := by rw [ho]; decide
    by_cases k2 : r.kind = 2
    · have e : applyB b r = stateB b r := by unfold applyB; rw [if_neg k1, if_neg k6, if_neg hno2, if_pos k2]
      rw [e]
      generalize stateB b r = R at *
      refine FnSpec.of_code (cx := cx) (an := {}) (rs := [.tmp 4]) mo Try.func18 rfl rfl (by kernel_rfl) (by kernel_rfl) (by show 2 ≤ _; decide) (.inl rfl) (by simp [allWr, keys, Res.wr]) ?_
      repeat' (first | omega | assumption | (show AL.ahead _ _ _ = true; rfl) | refine brF (fun _ => ?_) (fun _ => ?_) | refine brT (fun _ => ?_) (fun _ => ?_) | refine brVF (fun _ => ?_) (fun _ => ?_) | refine brVT (fun _ => ?_) (fun _ => ?_) | (with_reducible refine And.intro ?_ ?_) | (refine callK_by (hno _ (by omega)) ?_) | (refine callK_by (s2 _ (by omega)) ?_) | (simp -dsimp -implicitDefEqProofs only [go_sem, ↓reduceIte, Nat.reduceEqDiff, Nat.reduceAdd, Nat.reduceMul, Nat.reduceLeDiff, Nat.reduceLT, Nat.reduceBEq, Nat.reducePow, Int.reduceToNat, Int.reduceLE, Int.reduceLT, Int.reduceNeg, reduceCtorEq, Int.reduceEq, Int.reduceAdd, Int.reduceSub, Int.reduceMul, Nat.reduceSub, brA_good, brA_csz, brA_agg, brA_p0, brA_len, brA_off, bkA_p1, bkA_p8, bkA_len, bkA_off1, bkA_off8, bkA_set8, hnb, hx, ho, k2]))
      all_goals trace_state
    by_cases k3 : r.kind = 3
    · have e : applyB b r = takeB b r := by unfold applyB; rw [if_neg k1, if_neg k6, if_neg hno2, if_neg k2, if_pos k3]
      rw [e]
      generalize takeB b r = R at *
      refine FnSpec.of_code (cx := cx) (an := {}) (rs := [.tmp 4]) mo Try.func18 rfl rfl (by kernel_rfl) (by kernel_rfl) (by show 2 ≤ _; decide) (.inl rfl) (by simp [allWr, keys, Res.wr]) ?_
      repeat' (first | omega | assumption | (show AL.ahead _ _ _ = true; rfl) | refine brF (fun _ => ?_) (fun _ => ?_) | refine brT (fun _ => ?_) (fun _ => ?_) | refine brVF (fun _ => ?_) (fun _ => ?_) | refine brVT (fun _ => ?_) (fun _ => ?_) | (with_reducible refine And.intro ?_ ?_) | (refine callK_by (hno _ (by omega)) ?_) | (refine callK_by (s3 _ (by omega)) ?_) | (simp -dsimp -implicitDefEqProofs only [go_sem, ↓reduceIte, Nat.reduceEqDiff, Nat.reduceAdd, Nat.reduceMul, Nat.reduceLeDiff, Nat.reduceLT, Nat.reduceBEq, Nat.reducePow, Int.reduceToNat, Int.reduceLE, Int.reduceLT, Int.reduceNeg, reduceCtorEq, Int.reduceEq, Int.reduceAdd, Int.reduceSub, Int.reduceMul, Nat.reduceSub, brA_good, brA_csz, brA_agg, brA_p0, brA_len, brA_off, bkA_p1, bkA_p8, bkA_len, bkA_off1, bkA_off8, bkA_set8, hnb, hx, ho, k3]))
      all_goals trace_state
    by_cases k4 : r.kind = 4
    · have e : applyB b r = receiptB b r := by unfold applyB; rw [if_neg k1, if_neg k6, if_neg hno2, if_neg k2, if_neg k3, if_pos k4]
      rw [e]
      generalize receiptB b r = R at *
      refine FnSpec.of_code (cx := cx) (an := {}) (rs := [.tmp 4]) mo Try.func18 rfl rfl (by kernel_rfl) (by kernel_rfl) (by show 2 ≤ _; decide) (.inl rfl) (by simp [allWr, keys, Res.wr]) ?_
      repeat' (first | omega | assumption | (show AL.ahead _ _ _ = true; rfl) | refine brF (fun _ => ?_) (fun _ => ?_) | refine brT (fun _ => ?_) (fun _ => ?_) | refine brVF (fun _ => ?_) (fun _ => ?_) | refine brVT (fun _ => ?_) (fun _ => ?_) | (with_reducible refine And.intro ?_ ?_) | (refine callK_by (hno _ (by omega)) ?_) | (refine callK_by (s4 _ (by omega)) ?_) | (simp -dsimp -implicitDefEqProofs only [go_sem, ↓reduceIte, Nat.reduceEqDiff, Nat.reduceAdd, Nat.reduceMul, Nat.reduceLeDiff, Nat.reduceLT, Nat.reduceBEq, Nat.reducePow, Int.reduceToNat, Int.reduceLE, Int.reduceLT, Int.reduceNeg, reduceCtorEq, Int.reduceEq, Int.reduceAdd, Int.reduceSub, Int.reduceMul, Nat.reduceSub, brA_good, brA_csz, brA_agg, brA_p0, brA_len, brA_off, bkA_p1, bkA_p8, bkA_len, bkA_off1, bkA_off8, bkA_set8, hnb, hx, ho, k4]))
      all_goals trace_state
    by_cases k5 : r.kind = 5
    · have e : applyB b r = giveB b := by unfold applyB; rw [if_neg k1, if_neg k6, if_neg hno2, if_neg k2, if_neg k3, if_neg k4, if_pos k5]
      rw [e]
      generalize giveB b = R at *
      refine FnSpec.of_code (cx := cx) (an := {}) (rs := [.tmp 4]) mo Try.func18 rfl rfl (by kernel_rfl) (by kernel_rfl) (by show 2 ≤ _; decide) (.inl rfl) (by simp [allWr, keys, Res.wr]) ?_
      repeat' (first | omega | assumption | (show AL.ahead _ _ _ = true; rfl) | refine brF (fun _ => ?_) (fun _ => ?_) | refine brT (fun _ => ?_) (fun _ => ?_) | refine brVF (fun _ => ?_) (fun _ => ?_) | refine brVT (fun _ => ?_) (fun _ => ?_) | (with_reducible refine And.intro ?_ ?_) | (refine callK_by (hno _ (by omega)) ?_) | (refine callK_by (s5 _ (by omega)) ?_) | (simp -dsimp -implicitDefEqProofs only [go_sem, ↓reduceIte, Nat.reduceEqDiff, Nat.reduceAdd, Nat.reduceMul, Nat.reduceLeDiff, Nat.reduceLT, Nat.reduceBEq, Nat.reducePow, Int.reduceToNat, Int.reduceLE, Int.reduceLT, Int.reduceNeg, reduceCtorEq, Int.reduceEq, Int.reduceAdd, Int.reduceSub, Int.reduceMul, Nat.reduceSub, brA_good, brA_csz, brA_agg, brA_p0, brA_len, brA_off, bkA_p1, bkA_p8, bkA_len, bkA_off1, bkA_off8, bkA_set8, hnb, hx, ho, k5]))
      all_goals trace_state
    by_cases k7 : r.kind = 7
    · cases hc : b.closing with
      | true =>
        have e : applyB b r = (b, 8) := by unfold applyB; rw [if_neg k1, if_neg k6, if_neg hno2, if_neg k2, if_neg k3, if_neg k4, if_neg k5, if_pos k7, if_pos hc]
        rw [e]
        refine FnSpec.of_code (cx := cx) (an := {}) (rs := [.tmp 4]) mo Try.func18 rfl rfl (by kernel_rfl) (by kernel_rfl) (by show 2 ≤ _; decide) (.inl rfl) (by simp [allWr, keys, Res.wr]) ?_
        repeat' (first | omega | assumption | (show AL.ahead _ _ _ = true; rfl) | refine brF (fun _ => ?_) (fun _ => ?_) | refine brT (fun _ => ?_) (fun _ => ?_) | refine brVF (fun _ => ?_) (fun _ => ?_) | refine brVT (fun _ => ?_) (fun _ => ?_) | (with_reducible refine And.intro ?_ ?_) | (refine callK_by (hno _ (by omega)) ?_) | (simp -dsimp -implicitDefEqProofs only [go_sem, ↓reduceIte, Nat.reduceEqDiff, Nat.reduceAdd, Nat.reduceMul, Nat.reduceLeDiff, Nat.reduceLT, Nat.reduceBEq, Nat.reducePow, Int.reduceToNat, Int.reduceLE, Int.reduceLT, Int.reduceNeg, reduceCtorEq, Int.reduceEq, Int.reduceAdd, Int.reduceSub, Int.reduceMul, Nat.reduceSub, brA_good, brA_csz, brA_agg, brA_p0, brA_len, brA_off, bkA_p1, bkA_p8, bkA_len, bkA_off1, bkA_off8, bkA_set8, hnb, hx, ho, k7, hc]))
        all_goals trace_state
      | false =>
        have hc2 : ¬ b.closing = true := by rw [hc]; decide
        have e : applyB b r = ({ b with closing := true }, 0) := by unfold applyB; rw [if_neg k1, if_neg k6, if_neg hno2, if_neg k2, if_neg k3, if_neg k4, if_neg k5, if_pos k7, if_neg hc2]
        rw [e]
        refine FnSpec.of_code (cx := cx) (an := {}) (rs := [.tmp 4]) mo Try.func18 rfl rfl (by kernel_rfl) (by kernel_rfl) (by show 2 ≤ _; decide) (.inl rfl) (by simp [allWr, keys, Res.wr]) ?_
        repeat' (first | omega | assumption | (show AL.ahead _ _ _ = true; rfl) | refine brF (fun _ => ?_) (fun _ => ?_) | refine brT (fun _ => ?_) (fun _ => ?_) | refine brVF (fun _ => ?_) (fun _ => ?_) | refine brVT (fun _ => ?_) (fun _ => ?_) | (with_reducible refine And.intro ?_ ?_) | (refine callK_by (hno _ (by omega)) ?_) | (simp -dsimp -implicitDefEqProofs only [go_sem, ↓reduceIte, Nat.reduceEqDiff, Nat.reduceAdd, Nat.reduceMul, Nat.reduceLeDiff, Nat.reduceLT, Nat.reduceBEq, Nat.reducePow, Int.reduceToNat, Int.reduceLE, Int.reduceLT, Int.reduceNeg, reduceCtorEq, Int.reduceEq, Int.reduceAdd, Int.reduceSub, Int.reduceMul, Nat.reduceSub, brA_good, brA_csz, brA_agg, brA_p0, brA_len, brA_off, bkA_p1, bkA_p8, bkA_len, bkA_off1, bkA_off8, bkA_set8, hnb, hx, ho, k7, hc]))
        all_goals trace_state
    have e : applyB b r = (b, 1) := by unfold applyB; rw [if_neg k1, if_neg k6, if_neg hno2, if_neg k2, if_neg k3, if_neg k4, if_neg k5, if_neg k7]
    rw [e]
    refine FnSpec.of_code (cx := cx) (an := {}) (rs := [.tmp 4]) mo Try.func18 rfl rfl (by kernel_rfl) (by kernel_rfl) (by show 2 ≤ _; decide) (.inl rfl) (by simp [allWr, keys, Res.wr]) ?_
    repeat' (first | omega | assumption | (show AL.ahead _ _ _ = true; rfl) | refine brF (fun _ => ?_) (fun _ => ?_) | refine brT (fun _ => ?_) (fun _ => ?_) | refine brVF (fun _ => ?_) (fun _ => ?_) | refine brVT (fun _ => ?_) (fun _ => ?_) | (with_reducible refine And.intro ?_ ?_) | (refine callK_by (hno _ (by omega)) ?_) | (simp -dsimp -implicitDefEqProofs only [go_sem, ↓reduceIte, Nat.reduceEqDiff, Nat.reduceAdd, Nat.reduceMul, Nat.reduceLeDiff, Nat.reduceLT, Nat.reduceBEq, Nat.reducePow, Int.reduceToNat, Int.reduceLE, Int.reduceLT, Int.reduceNeg, reduceCtorEq, Int.reduceEq, Int.reduceAdd, Int.reduceSub, Int.reduceMul, Nat.reduceSub, brA_good, brA_csz, brA_agg, brA_p0, brA_len, brA_off, bkA_p1, bkA_p8, bkA_len, bkA_off1, bkA_off8, bkA_set8, hnb, hx, k1, k6, ho, k2, k3, k4, k5, k7]))
    all_goals trace_state
end Go.Proofs.Ytjcnhgmaabkelaa

/-
  What is asked of a book: its states, what was given, what is owed; small records.
-/
set_option linter.unusedSimpArgs false
set_option linter.unusedVariables false
set_option maxRecDepth 100000
set_option maxHeartbeats 4000000
namespace Go.Proofs.Ytjcnhgmaabkelaa
open Go Go.AL Go.Proofs.Ytjcnhgmaabkelaa.T
attribute [local go_sem] nb_u8s u8s_length nb_sum sumA List.length_replicate zero_sum sum_h u8s_nil sums_len nb_sums states_len helds_len nb_states nb_helds signs_len nb_signs nb_keysT nb_valsT
def brsA (l : List BR) : List AV := l.map brA
theorem brs_len (l : List BR) : (brsA l).length = l.length := by simp [brsA]
theorem brA_nb {m : Nat} (r : BR) : AV.nb m (brA r) = True := by
  simp only [eq_iff_iff, iff_true, brA, chanA, refA, stateA, signA, srecA, recA, AV.nb, AV.nbs, nb_sum, nb_u8s, true_and, and_true]
  omega
theorem nb_brs {m : Nat} (l : List BR) : AV.nbs m (brsA l) = True := by
  simp only [eq_iff_iff, iff_true]
  exact nbs_map (fun r => by rw [brA_nb]; trivial) l
theorem brs_get {l : List BR} {i : Nat} (h : i < l.length) : (brsA l).getD i .undef = brA l[i] := by simp [brsA, List.getD_eq_getElem?_getD, List.getElem?_map, List.getElem?_eq_getElem h]
abbrev brSm (r : BR) : Prop := r.blob.length ≤ 1000 ∧ r.receipt.sig.length ≤ 6000
def smallP (l : List BR) : Prop := l.length ≤ 40 ∧ ∀ r ∈ l, brSm r
theorem small_yes (nx : Nat) (l : List BR) (h : smallP l) : FnSpec Try.prog 15 nx [.sl 274 (brsA l) 0] [] (n64 0) [] 0 := by
  obtain ⟨hl, hall⟩ := h
  refine FnSpec.of_code (cx := cx) (an := {}) (rs := [.tmp 2]) mo Try.func15 rfl rfl (by kernel_rfl) (by kernel_rfl) (by show 1 ≤ _; decide) (.inl rfl) (by simp [allWr, keys, Res.wr]) ?_
  repeat' (first | omega | assumption | (show AL.ahead _ _ _ = true; rfl) | refine brF (fun _ => ?_) (fun _ => ?_) | refine brT (fun _ => ?_) (fun _ => ?_) | refine brVF (fun _ => ?_) (fun _ => ?_) | refine brVT (fun _ => ?_) (fun _ => ?_) | (with_reducible refine And.intro ?_ ?_) | (simp -dsimp -implicitDefEqProofs only [go_sem, ↓reduceIte, Nat.reduceEqDiff, Nat.reduceAdd, Nat.reduceMul, Nat.reduceLeDiff, Nat.reduceLT, Nat.reduceBEq, Nat.reducePow, Int.reduceToNat, Int.reduceLE, Int.reduceLT, Int.reduceNeg, reduceCtorEq, Int.reduceEq, Int.reduceAdd, Int.reduceSub, Int.reduceMul, Nat.reduceSub, brs_len]))
  apply loop_keep [0] (fun i : { i : Nat // i ≤ l.length } => [(3, n64 i.1)]) (fun _ => []) (fun i => l.length - i.1) ⟨0, Nat.zero_le _⟩
  · simp -dsimp -implicitDefEqProofs only [go_sem, ↓reduceIte, Nat.reduceEqDiff, Nat.reduceAdd, Nat.reduceMul, Nat.reduceLeDiff, Nat.reduceLT, Nat.reduceBEq, Nat.reducePow, Int.reduceToNat, Int.reduceLE, Int.reduceLT, Int.reduceNeg, reduceCtorEq, Int.reduceEq, Int.reduceAdd, Int.reduceSub, Int.reduceMul, Nat.reduceSub]; try rfl
  · simp -dsimp -implicitDefEqProofs only [go_sem, ↓reduceIte, Nat.reduceEqDiff, Nat.reduceAdd, Nat.reduceMul, Nat.reduceLeDiff, Nat.reduceLT, Nat.reduceBEq, Nat.reducePow, Int.reduceToNat, Int.reduceLE, Int.reduceLT, Int.reduceNeg, reduceCtorEq, Int.reduceEq, Int.reduceAdd, Int.reduceSub, Int.reduceMul, Nat.reduceSub]; try rfl
  · simp -dsimp -implicitDefEqProofs only [go_sem, ↓reduceIte, Nat.reduceEqDiff, Nat.reduceAdd, Nat.reduceMul, Nat.reduceLeDiff, Nat.reduceLT, Nat.reduceBEq, Nat.reducePow, Int.reduceToNat, Int.reduceLE, Int.reduceLT, Int.reduceNeg, reduceCtorEq, Int.reduceEq, Int.reduceAdd, Int.reduceSub, Int.reduceMul, Nat.reduceSub]; try rfl
  · intro s
    simp -dsimp -implicitDefEqProofs only [go_sem, ↓reduceIte, Nat.reduceEqDiff, Nat.reduceAdd, Nat.reduceMul, Nat.reduceLeDiff, Nat.reduceLT, Nat.reduceBEq, Nat.reducePow, Int.reduceToNat, Int.reduceLE, Int.reduceLT, Int.reduceNeg, reduceCtorEq, Int.reduceEq, Int.reduceAdd, Int.reduceSub, Int.reduceMul, Nat.reduceSub, nb_brs]
    try omega
  · rintro ⟨i, hi⟩
    have hi : i ≤ l.length := hi
    simp -dsimp -implicitDefEqProofs only [go_sem, ↓reduceIte, Nat.reduceEqDiff, Nat.reduceAdd, Nat.reduceMul, Nat.reduceLeDiff, Nat.reduceLT, Nat.reduceBEq, Nat.reducePow, Int.reduceToNat, Int.reduceLE, Int.reduceLT, Int.reduceNeg, reduceCtorEq, Int.reduceEq, Int.reduceAdd, Int.reduceSub, Int.reduceMul, Nat.reduceSub, brs_len]
    refine brT (fun hc => ?_) (fun hc => ?_)
    · have hi2 : i < l.length := by omega
      have q1 := brs_get hi2
      have w1 : IntKind.i64.wrap ((i : Int) + 1) = ((i + 1 : Nat) : Int) := wrapE (by omega) (by omega)
      obtain ⟨g1, g2⟩ := hall l[i] (List.getElem_mem _)
      generalize l[i] = r at *
      simp only [brA, chanA, refA, stateA, signA, srecA, recA] at q1
      repeat' (first | omega | assumption | (show AL.ahead _ _ _ = true; rfl) | refine brF (fun _ => ?_) (fun _ => ?_) | refine brT (fun _ => ?_) (fun _ => ?_) | refine brVF (fun _ => ?_) (fun _ => ?_) | refine brVT (fun _ => ?_) (fun _ => ?_) | (with_reducible refine And.intro ?_ ?_) | (simp -dsimp -implicitDefEqProofs only [go_sem, ↓reduceIte, Nat.reduceEqDiff, Nat.reduceAdd, Nat.reduceMul, Nat.reduceLeDiff, Nat.reduceLT, Nat.reduceBEq, Nat.reducePow, Int.reduceToNat, Int.reduceLE, Int.reduceLT, Int.reduceNeg, reduceCtorEq, Int.reduceEq, Int.reduceAdd, Int.reduceSub, Int.reduceMul, Nat.reduceSub, q1, w1, brs_len]))
      exact ⟨⟨i + 1, hi2⟩, by show l.length - (i + 1) < l.length - i; omega, rfl⟩
    · repeat' (first | omega | assumption | (show AL.ahead _ _ _ = true; rfl) | refine brF (fun _ => ?_) (fun _ => ?_) | refine brT (fun _ => ?_) (fun _ => ?_) | refine brVF (fun _ => ?_) (fun _ => ?_) | refine brVT (fun _ => ?_) (fun _ => ?_) | (with_reducible refine And.intro ?_ ?_) | (simp -dsimp -implicitDefEqProofs only [go_sem, ↓reduceIte, Nat.reduceEqDiff, Nat.reduceAdd, Nat.reduceMul, Nat.reduceLeDiff, Nat.reduceLT, Nat.reduceBEq, Nat.reducePow, Int.reduceToNat, Int.reduceLE, Int.reduceLT, Int.reduceNeg, reduceCtorEq, Int.reduceEq, Int.reduceAdd, Int.reduceSub, Int.reduceMul, Nat.reduceSub]))
      all_goals trace_state
theorem small_no (nx : Nat) (l : List BR) (h : ¬ smallP l) : FnSpec Try.prog 15 nx [.sl 274 (brsA l) 0] [] (n64 1) [] 0 := by
  by_cases hl : l.length ≤ 40
  · refine FnSpec.of_code (cx := cx) (an := {}) (rs := [.tmp 2]) mo Try.func15 rfl rfl (by kernel_rfl) (by kernel_rfl) (by show 1 ≤ _; decide) (.inl rfl) (by simp [allWr, keys, Res.wr]) ?_
    repeat' (first | omega | assumption | (show AL.ahead _ _ _ = true; rfl) | refine brF (fun _ => ?_) (fun _ => ?_) | refine brT (fun _ => ?_) (fun _ => ?_) | refine brVF (fun _ => ?_) (fun _ => ?_) | refine brVT (fun _ => ?_) (fun _ => ?_) | (with_reducible refine And.intro ?_ ?_) | (simp -dsimp -implicitDefEqProofs only [go_sem, ↓reduceIte, Nat.reduceEqDiff, Nat.reduceAdd, Nat.reduceMul, Nat.reduceLeDiff, Nat.reduceLT, Nat.reduceBEq, Nat.reducePow, Int.reduceToNat, Int.reduceLE, Int.reduceLT, Int.reduceNeg, reduceCtorEq, Int.reduceEq, Int.reduceAdd, Int.reduceSub, Int.reduceMul, Nat.reduceSub, brs_len]))
    apply loop_keep [0] (fun i : { i : Nat // i ≤ l.length ∧ ∀ j (hj : j < l.length), j < i → brSm l[j] } => [(3, n64 i.1)]) (fun _ => []) (fun i => l.length - i.1) ⟨0, Nat.zero_le _, fun j _ hj => absurd hj (Nat.not_lt_zero _)⟩
    · simp -dsimp -implicitDefEqProofs only [go_sem, ↓reduceIte, Nat.reduceEqDiff, Nat.reduceAdd, Nat.reduceMul, Nat.reduceLeDiff, Nat.reduceLT, Nat.reduceBEq, Nat.reducePow, Int.reduceToNat, Int.reduceLE, Int.reduceLT, Int.reduceNeg, reduceCtorEq, Int.reduceEq, Int.reduceAdd, Int.reduceSub, Int.reduceMul, Nat.reduceSub]; try rfl
    · simp -dsimp -implicitDefEqProofs only [go_sem, ↓reduceIte, Nat.reduceEqDiff, Nat.reduceAdd, Nat.reduceMul, Nat.reduceLeDiff, Nat.reduceLT, Nat.reduceBEq, Nat.reducePow, Int.reduceToNat, Int.reduceLE, Int.reduceLT, Int.reduceNeg, reduceCtorEq, Int.reduceEq, Int.reduceAdd, Int.reduceSub, Int.reduceMul, Nat.reduceSub]; try rfl
    · simp -dsimp -implicitDefEqProofs only [go_sem, ↓reduceIte, Nat.reduceEqDiff, Nat.reduceAdd, Nat.reduceMul, Nat.reduceLeDiff, Nat.reduceLT, Nat.reduceBEq, Nat.reducePow, Int.reduceToNat, Int.reduceLE, Int.reduceLT, Int.reduceNeg, reduceCtorEq, Int.reduceEq, Int.reduceAdd, Int.reduceSub, Int.reduceMul, Nat.reduceSub]; try rfl
    · intro s
      simp -dsimp -implicitDefEqProofs only [go_sem, ↓reduceIte, Nat.reduceEqDiff, Nat.reduceAdd, Nat.reduceMul, Nat.reduceLeDiff, Nat.reduceLT, Nat.reduceBEq, Nat.reducePow, Int.reduceToNat, Int.reduceLE, Int.reduceLT, Int.reduceNeg, reduceCtorEq, Int.reduceEq, Int.reduceAdd, Int.reduceSub, Int.reduceMul, Nat.reduceSub, nb_brs]
      try omega
    · rintro ⟨i, hi, hall⟩
      have hi : i ≤ l.length := hi
      simp -dsimp -implicitDefEqProofs only [go_sem, ↓reduceIte, Nat.reduceEqDiff, Nat.reduceAdd, Nat.reduceMul, Nat.reduceLeDiff, Nat.reduceLT, Nat.reduceBEq, Nat.reducePow, Int.reduceToNat, Int.reduceLE, Int.reduceLT, Int.reduceNeg, reduceCtorEq, Int.reduceEq, Int.reduceAdd, Int.reduceSub, Int.reduceMul, Nat.reduceSub, brs_len]
      refine brT (fun hc => ?_) (fun hc => ?_)
      · have hi2 : i < l.length := by omega
        have q1 := brs_get hi2
        have w1 : IntKind.i64.wrap ((i : Int) + 1) = ((i + 1 : Nat) : Int) := wrapE (by omega) (by omega)
        have hgo : brSm l[i] → ∀ j (hj : j < l.length), j < i + 1 → brSm l[j] := fun hb j h1 h2 => by
          by_cases hj3 : j < i
          · exact hall j h1 hj3
          · have e : j = i := by omega
            subst e
            exact hb
        generalize l[i] = r at *
        simp only [brA, chanA, refA, stateA, signA, srecA, recA] at q1
        repeat' (first | omega | assumption | (show AL.ahead _ _ _ = true; rfl) | refine brF (fun _ => ?_) (fun _ => ?_) | refine brT (fun _ => ?_) (fun _ => ?_) | refine brVF (fun _ => ?_) (fun _ => ?_) | refine brVT (fun _ => ?_) (fun _ => ?_) | (with_reducible refine And.intro ?_ ?_) | (simp -dsimp -implicitDefEqProofs only [go_sem, ↓reduceIte, Nat.reduceEqDiff, Nat.reduceAdd, Nat.reduceMul, Nat.reduceLeDiff, Nat.reduceLT, Nat.reduceBEq, Nat.reducePow, Int.reduceToNat, Int.reduceLE, Int.reduceLT, Int.reduceNeg, reduceCtorEq, Int.reduceEq, Int.reduceAdd, Int.reduceSub, Int.reduceMul, Nat.reduceSub, q1, w1, brs_len]))
        all_goals exact ⟨⟨i + 1, hi2, hgo ⟨by omega, by omega⟩⟩, by show l.length - (i + 1) < l.length - i; omega, rfl⟩
      · exact absurd ⟨hl, fun r hr => by obtain ⟨j, hj, rfl⟩ := List.getElem_of_mem hr; exact hall j hj (by omega)⟩ h
  · refine FnSpec.of_code (cx := cx) (an := {}) (rs := [.tmp 2]) mo Try.func15 rfl rfl (by kernel_rfl) (by kernel_rfl) (by show 1 ≤ _; decide) (.inl rfl) (by simp [allWr, keys, Res.wr]) ?_
    repeat' (first | omega | assumption | (show AL.ahead _ _ _ = true; rfl) | refine brF (fun _ => ?_) (fun _ => ?_) | refine brT (fun _ => ?_) (fun _ => ?_) | refine brVF (fun _ => ?_) (fun _ => ?_) | refine brVT (fun _ => ?_) (fun _ => ?_) | (with_reducible refine And.intro ?_ ?_) | (simp -dsimp -implicitDefEqProofs only [go_sem, ↓reduceIte, Nat.reduceEqDiff, Nat.reduceAdd, Nat.reduceMul, Nat.reduceLeDiff, Nat.reduceLT, Nat.reduceBEq, Nat.reducePow, Int.reduceToNat, Int.reduceLE, Int.reduceLT, Int.reduceNeg, reduceCtorEq, Int.reduceEq, Int.reduceAdd, Int.reduceSub, Int.reduceMul, Nat.reduceSub, brs_len]))
    all_goals trace_state
end Go.Proofs.Ytjcnhgmaabkelaa

/-
  The example of the law ClaimOps: a book that is new, a nil one.
-/
set_option linter.unusedSimpArgs false
set_option linter.unusedVariables false
set_option maxRecDepth 100000
set_option maxHeartbeats 1000000
namespace Go.Proofs.Ytjcnhgmaabkelaa
open Go Go.AL Go.Proofs.Ytjcnhgmaabkelaa.T
attribute [local go_sem] nb_u8s u8s_length nb_sum sumA List.length_replicate zero_sum sum_h nb_vals vals_len u8s_nil
theorem bnone_nil (nx : Nat) : FnSpec Try.prog 36 nx [nilP] [] (bA true) [] 0 := by
  refine FnSpec.of_code (cx := cx) (an := {}) (rs := [.tmp 2]) mo Try.func36 rfl rfl (by kernel_rfl) (by kernel_rfl) (by show 1 ≤ _; decide) (.inl rfl) (by simp [allWr, keys, Res.wr]) ?_
  repeat' (first | omega | assumption | (show AL.ahead _ _ _ = true; rfl) | refine brF (fun _ => ?_) (fun _ => ?_) | refine brT (fun _ => ?_) (fun _ => ?_) | refine brVF (fun _ => ?_) (fun _ => ?_) | refine brVT (fun _ => ?_) (fun _ => ?_) | (with_reducible refine And.intro ?_ ?_) | (simp -dsimp -implicitDefEqProofs only [go_sem, ↓reduceIte, Nat.reduceEqDiff, Nat.reduceAdd, Nat.reduceMul, Nat.reduceLeDiff, Nat.reduceLT, Nat.reduceBEq, Nat.reducePow, Int.reduceToNat, Int.reduceLE, Int.reduceLT, Int.reduceNeg, reduceCtorEq, Int.reduceEq, Int.reduceAdd, Int.reduceSub, Int.reduceMul, Nat.reduceSub]))
theorem bchan_nil (nx : Nat) : FnSpec Try.prog 58 nx [nilP] [] (.tup [chanA chanZ, bA false]) [] 0 := by
  refine FnSpec.of_code (cx := cx) (an := {}) (rs := [.cell 2 27, .tmp 3]) mo Try.func58 rfl rfl (by kernel_rfl) (by kernel_rfl) (by show 1 ≤ _; decide) (.inr ⟨_, rfl, by simp [AV.good, chanA]⟩) (by simp [allWr, keys, Res.wr]) ?_
  repeat' (first | omega | assumption | (show AL.ahead _ _ _ = true; rfl) | refine brF (fun _ => ?_) (fun _ => ?_) | refine brT (fun _ => ?_) (fun _ => ?_) | refine brVF (fun _ => ?_) (fun _ => ?_) | refine brVT (fun _ => ?_) (fun _ => ?_) | (with_reducible refine And.intro ?_ ?_) | (refine callK_by (bnone_nil _) ?_) | (simp -dsimp -implicitDefEqProofs only [go_sem, ↓reduceIte, Nat.reduceEqDiff, Nat.reduceAdd, Nat.reduceMul, Nat.reduceLeDiff, Nat.reduceLT, Nat.reduceBEq, Nat.reducePow, Int.reduceToNat, Int.reduceLE, Int.reduceLT, Int.reduceNeg, reduceCtorEq, Int.reduceEq, Int.reduceAdd, Int.reduceSub, Int.reduceMul, Nat.reduceSub, chanA, refA, chanZ]))
end Go.Proofs.Ytjcnhgmaabkelaa

/-
  What a status says of a book: cheated, failed.
-/
set_option linter.unusedSimpArgs false
set_option linter.unusedVariables false
set_option maxRecDepth 100000
set_option maxHeartbeats 4000000
namespace Go.Proofs.Ytjcnhgmaabkelaa
open Go Go.AL Go.Proofs.Ytjcnhgmaabkelaa.T
attribute [local go_sem] nb_u8s u8s_length nb_sum sumA List.length_replicate zero_sum sum_h u8s_nil sums_len nb_sums states_len helds_len nb_states nb_helds signs_len nb_signs nb_keysT nb_valsT
theorem shall_spec (nx N : Nat) (b : Bk) (hN : N + 16 < nx) (ht : b.taken.length ≤ 1000) : FnSpec Try.prog 43 nx [.ref (N + 16) 42 [4]] [(N + 16, some (.robj (bookA b N)))] (.sl 32 (sumsA b.taken) 0) [] 0 := by
  have hx := bkN hN
  have key : FnSpec Try.prog 43 nx [.ref (N + 16) 42 [4]] [(N + 16, some (.robj (bookA b N)))] (.sl 32 (sumsA b.taken) (nx + 58)) [(nx + 56, some (.tail b.taken.length))] 100 := by
    refine FnSpec.of_code (cx := cx) (an := {}) (rs := [.tmp 2]) mo Try.func43 rfl rfl (by kernel_rfl) (by kernel_rfl) (by show 1 ≤ _; decide) (.inl rfl) (by simp [allWr, keys, Res.wr]) ?_
    repeat' (first | omega | assumption | (show AL.ahead _ _ _ = true; rfl) | refine brF (fun _ => ?_) (fun _ => ?_) | refine brT (fun _ => ?_) (fun _ => ?_) | refine brVF (fun _ => ?_) (fun _ => ?_) | refine brVT (fun _ => ?_) (fun _ => ?_) | (with_reducible refine And.intro ?_ ?_) | (simp -dsimp -implicitDefEqProofs only [go_sem, ↓reduceIte, Nat.reduceEqDiff, Nat.reduceAdd, Nat.reduceMul, Nat.reduceLeDiff, Nat.reduceLT, Nat.reduceBEq, Nat.reducePow, Int.reduceToNat, Int.reduceLE, Int.reduceLT, Int.reduceNeg, reduceCtorEq, Int.reduceEq, Int.reduceAdd, Int.reduceSub, Int.reduceMul, Nat.reduceSub, bookA, chanA, refA, hx]))
    all_goals trace_state
  exact key.forget ⟨rfl, .inr ⟨.inl rfl, .inl rfl⟩⟩ (by simp [AV.nb, nb_sums]) trivial (fun n hn => by simp [keys] at hn) (fun m hm _ => by
    simp [keys] at hm; subst hm
    refine ⟨?_, by omega⟩
    simp [Heap.get]; omega)
theorem taken_spec (nx N : Nat) (b : Bk) (hN : N + 16 < nx) (ht : b.taken.length ≤ 1000) : FnSpec Try.prog 19 nx [.ref (N + 16) 0 []] [(N + 16, some (.robj (bookA b N)))] (.sl 32 (sumsA b.taken) 0) [] 0 := by
  have hx := bkN hN
  have hno := fun nc (h : nx ≤ nc) => bnone_spec nc N b (by omega)
  have hal := fun nc (h : nx ≤ nc) => shall_spec nc N b (by omega) ht
  simp only [bookA, chanA, refA] at hno hal
  refine FnSpec.of_code (cx := cx) (an := {}) (rs := [.tmp 2]) mo Try.func19 rfl rfl (by kernel_rfl) (by kernel_rfl) (by show 1 ≤ _; decide) (.inl rfl) (by simp [allWr, keys, Res.wr]) ?_
  repeat' (first | omega | assumption | (show AL.ahead _ _ _ = true; rfl) | refine brF (fun _ => ?_) (fun _ => ?_) | refine brT (fun _ => ?_) (fun _ => ?_) | refine brVF (fun _ => ?_) (fun _ => ?_) | refine brVT (fun _ => ?_) (fun _ => ?_) | (with_reducible refine And.intro ?_ ?_) | (refine callK_by (hno _ (by omega)) ?_) | (refine callK_by (hal _ (by omega)) ?_) | (simp -dsimp -implicitDefEqProofs only [go_sem, ↓reduceIte, Nat.reduceEqDiff, Nat.reduceAdd, Nat.reduceMul, Nat.reduceLeDiff, Nat.reduceLT, Nat.reduceBEq, Nat.reducePow, Int.reduceToNat, Int.reduceLE, Int.reduceLT, Int.reduceNeg, reduceCtorEq, Int.reduceEq, Int.reduceAdd, Int.reduceSub, Int.reduceMul, Nat.reduceSub, bookA, chanA, refA, hx]))
  all_goals trace_state
structure Sts where
  closed : Bool
  owner : Int
  state : Int
  commit : Sum
  at_ : Int
  part : Int
  when_ : Int
def stsA (s : Sts) : AV := .agg 38 [bA s.closed, n64 s.owner, n64 s.state, sumA s.commit, n64 s.at_, n64 s.part, n64 s.when_]
abbrev cheatP (s : Sts) (b : Bk) : Prop := s.closed = true ∧ s.owner = 1 ∧ 0 ≤ s.state ∧ s.state < b.taken.length
theorem cheat_spec (nx N : Nat) (s : Sts) (b : Bk) (hN : N + 16 < nx) (ht : b.taken.length ≤ 1000) : FnSpec Try.prog 20 nx [stsA s, .ref (N + 16) 0 []] [(N + 16, some (.robj (bookA b N)))] (bA (decide (cheatP s b))) [] 0 := by
  have hx := bkN hN
  have htk := fun nc (h : nx ≤ nc) => taken_spec nc N b (by omega) ht
  have hcb : s.closed = false ∨ s.closed = true := by cases s.closed <;> simp
  rcases hcb with hc | hc
  · have e : decide (cheatP s b) = false := decide_eq_false (fun h => by have h1 := h.1; rw [hc] at h1; exact absurd h1 (by decide))
    rw [e]
    refine FnSpec.of_code (cx := cx) (an := {}) (rs := [.tmp 4]) mo Try.func20 rfl rfl (by kernel_rfl) (by kernel_rfl) (by show 2 ≤ _; decide) (.inl rfl) (by simp [allWr, keys, Res.wr]) ?_
    repeat' (first | omega | assumption | (show AL.ahead _ _ _ = true; rfl) | refine brF (fun _ => ?_) (fun _ => ?_) | refine brT (fun _ => ?_) (fun _ => ?_) | refine brVF (fun _ => ?_) (fun _ => ?_) | refine brVT (fun _ => ?_) (fun _ => ?_) | (with_reducible refine And.intro ?_ ?_) | (refine callK_by (htk _ (by omega)) ?_) | (simp -dsimp -implicitDefEqProofs only [go_sem, ↓reduceIte, Nat.reduceEqDiff, Nat.reduceAdd, Nat.reduceMul, Nat.reduceLeDiff, Nat.reduceLT, Nat.reduceBEq, Nat.reducePow, Int.reduceToNat, Int.reduceLE, Int.reduceLT, Int.reduceNeg, reduceCtorEq, Int.reduceEq, Int.reduceAdd, Int.reduceSub, Int.reduceMul, Nat.reduceSub, stsA, hc, hx]))
    all_goals trace_state
  · by_cases ho : s.owner = 1 ∧ 0 ≤ s.state
    · have e : decide (cheatP s b) = decide (s.state < b.taken.length) := decide_eq_decide.2 ⟨fun h => h.2.2.2, fun h => ⟨hc, ho.1, ho.2, h⟩⟩
      rw [e]
      refine FnSpec.of_code (cx := cx) (an := {}) (rs := [.tmp 4]) mo Try.func20 rfl rfl (by kernel_rfl) (by kernel_rfl) (by show 2 ≤ _; decide) (.inl rfl) (by simp [allWr, keys, Res.wr]) ?_
      repeat' (first | omega | assumption | (show AL.ahead _ _ _ = true; rfl) | refine brF (fun _ => ?_) (fun _ => ?_) | refine brT (fun _ => ?_) (fun _ => ?_) | refine brVF (fun _ => ?_) (fun _ => ?_) | refine brVT (fun _ => ?_) (fun _ => ?_) | (with_reducible refine And.intro ?_ ?_) | (refine callK_by (htk _ (by omega)) ?_) | (simp -dsimp -implicitDefEqProofs only [go_sem, ↓reduceIte, Nat.reduceEqDiff, Nat.reduceAdd, Nat.reduceMul, Nat.reduceLeDiff, Nat.reduceLT, Nat.reduceBEq, Nat.reducePow, Int.reduceToNat, Int.reduceLE, Int.reduceLT, Int.reduceNeg, reduceCtorEq, Int.reduceEq, Int.reduceAdd, Int.reduceSub, Int.reduceMul, Nat.reduceSub, stsA, hc, hx]))
      all_goals trace_state
    · have e : decide (cheatP s b) = false := decide_eq_false (fun h => ho ⟨h.2.1, h.2.2.1⟩)
      rw [e]
      refine FnSpec.of_code (cx := cx) (an := {}) (rs := [.tmp 4]) mo Try.func20 rfl rfl (by kernel_rfl) (by kernel_rfl) (by show 2 ≤ _; decide) (.inl rfl) (by simp [allWr, keys, Res.wr]) ?_
      repeat' (first | omega | assumption | (show AL.ahead _ _ _ = true; rfl) | refine brF (fun _ => ?_) (fun _ => ?_) | refine brT (fun _ => ?_) (fun _ => ?_) | refine brVF (fun _ => ?_) (fun _ => ?_) | refine brVT (fun _ => ?_) (fun _ => ?_) | (with_reducible refine And.intro ?_ ?_) | (refine callK_by (htk _ (by omega)) ?_) | (simp -dsimp -implicitDefEqProofs only [go_sem, ↓reduceIte, Nat.reduceEqDiff, Nat.reduceAdd, Nat.reduceMul, Nat.reduceLeDiff, Nat.reduceLT, Nat.reduceBEq, Nat.reducePow, Int.reduceToNat, Int.reduceLE, Int.reduceLT, Int.reduceNeg, reduceCtorEq, Int.reduceEq, Int.reduceAdd, Int.reduceSub, Int.reduceMul, Nat.reduceSub, stsA, hc, hx]))
      all_goals trace_state
theorem failed_no (nx N : Nat) (s : Sts) (b : Bk) (w h : Int) (hN : N + 16 < nx) (ht : b.taken.length ≤ 1000) (hw : IntKind.i64.wrap (h - s.at_) = h - s.at_) (hf : ¬ (cheatP s b ∧ w < h - s.at_)) :
    FnSpec Try.prog 21 nx [stsA s, .ref (N + 16) 0 [], n64 w, n64 h] [(N + 16, some (.robj (bookA b N)))] (bA false) [] 0 := by
  have hx := bkN hN
  have hch := fun nc (h : nx ≤ nc) => cheat_spec nc N s b (by omega) ht
  simp only [stsA] at hch
  by_cases hc : cheatP s b
  · have hl : ¬ w < h - s.at_ := fun h => hf ⟨hc, h⟩
    simp only [decide_eq_true hc] at hch
    refine FnSpec.of_code (cx := cx) (an := {}) (rs := [.tmp 8]) mo Try.func21 rfl rfl (by kernel_rfl) (by kernel_rfl) (by show 4 ≤ _; decide) (.inl rfl) (by simp [allWr, keys, Res.wr]) ?_
    repeat' (first | omega | assumption | (show AL.ahead _ _ _ = true; rfl) | refine brF (fun _ => ?_) (fun _ => ?_) | refine brT (fun _ => ?_) (fun _ => ?_) | refine brVF (fun _ => ?_) (fun _ => ?_) | refine brVT (fun _ => ?_) (fun _ => ?_) | (with_reducible refine And.intro ?_ ?_) | (refine callK_by (hch _ (by omega)) ?_) | (simp -dsimp -implicitDefEqProofs only [go_sem, ↓reduceIte, Nat.reduceEqDiff, Nat.reduceAdd, Nat.reduceMul, Nat.reduceLeDiff, Nat.reduceLT, Nat.reduceBEq, Nat.reducePow, Int.reduceToNat, Int.reduceLE, Int.reduceLT, Int.reduceNeg, reduceCtorEq, Int.reduceEq, Int.reduceAdd, Int.reduceSub, Int.reduceMul, Nat.reduceSub, stsA, hx, hw]))
    all_goals trace_state
  · simp only [decide_eq_false hc] at hch
    refine FnSpec.of_code (cx := cx) (an := {}) (rs := [.tmp 8]) mo Try.func21 rfl rfl (by kernel_rfl) (by kernel_rfl) (by show 4 ≤ _; decide) (.inl rfl) (by simp [allWr, keys, Res.wr]) ?_
    repeat' (first | omega | assumption | (show AL.ahead _ _ _ = true; rfl) | refine brF (fun _ => ?_) (fun _ => ?_) | refine brT (fun _ => ?_) (fun _ => ?_) | refine brVF (fun _ => ?_) (fun _ => ?_) | refine brVT (fun _ => ?_) (fun _ => ?_) | (with_reducible refine And.intro ?_ ?_) | (refine callK_by (hch _ (by omega)) ?_) | (simp -dsimp -implicitDefEqProofs only [go_sem, ↓reduceIte, Nat.reduceEqDiff, Nat.reduceAdd, Nat.reduceMul, Nat.reduceLeDiff, Nat.reduceLT, Nat.reduceBEq, Nat.reducePow, Int.reduceToNat, Int.reduceLE, Int.reduceLT, Int.reduceNeg, reduceCtorEq, Int.reduceEq, Int.reduceAdd, Int.reduceSub, Int.reduceMul, Nat.reduceSub, stsA, hx, hw]))
    all_goals trace_state
theorem failed_yes (nx N : Nat) (s : Sts) (b : Bk) (w h : Int) (hN : N + 16 < nx) (ht : b.taken.length ≤ 1000) (hw : IntKind.i64.wrap (h - s.at_) = h - s.at_) (hw2 : IntKind.i64.wrap (s.when_ - s.at_) = s.when_ - s.at_) (hc : cheatP s b) (hl : w < h - s.at_) :
    FnSpec Try.prog 21 nx [stsA s, .ref (N + 16) 0 [], n64 w, n64 h] [(N + 16, some (.robj (bookA b N)))] (bA (decide (s.part ≠ 3 ∨ w < s.when_ - s.at_))) [] 0 := by
  have hx := bkN hN
  have hch := fun nc (h : nx ≤ nc) => cheat_spec nc N s b (by omega) ht
  simp only [stsA] at hch
  simp only [decide_eq_true hc] at hch
  refine FnSpec.of_code (cx := cx) (an := {}) (rs := [.tmp 8]) mo Try.func21 rfl rfl (by kernel_rfl) (by kernel_rfl) (by show 4 ≤ _; decide) (.inl rfl) (by simp [allWr, keys, Res.wr]) ?_
  repeat' (first | omega | assumption | (show AL.ahead _ _ _ = true; rfl) | refine brF (fun _ => ?_) (fun _ => ?_) | refine brT (fun _ => ?_) (fun _ => ?_) | refine brVF (fun _ => ?_) (fun _ => ?_) | refine brVT (fun _ => ?_) (fun _ => ?_) | (with_reducible refine And.intro ?_ ?_) | (refine callK_by (hch _ (by omega)) ?_) | (simp -dsimp -implicitDefEqProofs only [go_sem, ↓reduceIte, Nat.reduceEqDiff, Nat.reduceAdd, Nat.reduceMul, Nat.reduceLeDiff, Nat.reduceLT, Nat.reduceBEq, Nat.reducePow, Int.reduceToNat, Int.reduceLE, Int.reduceLT, Int.reduceNeg, reduceCtorEq, Int.reduceEq, Int.reduceAdd, Int.reduceSub, Int.reduceMul, Nat.reduceSub, stsA, hx, hw, hw2]))
  all_goals first
    | (simp only [bA]; congr 2; symm; apply decide_eq_true; omega)
    | (simp only [bA]; congr 2; apply decide_eq_decide.2; omega)
    | trace_state
end Go.Proofs.Ytjcnhgmaabkelaa

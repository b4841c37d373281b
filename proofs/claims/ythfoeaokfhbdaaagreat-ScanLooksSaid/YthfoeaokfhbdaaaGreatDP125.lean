/-
 What records do to a book: all of them.
-/
import Derived.Test.YthfoeaokfhbdaaaGreatDP47
import Derived.Test.YthfoeaokfhbdaaaGreatDP23
import Derived.Test.YthfoeaokfhbdaaaGreatDP123
set_option linter.unusedSimpArgs false
set_option linter.unusedVariables false
set_option maxRecDepth 100000
set_option maxHeartbeats 8000000
namespace Go.Proofs.YthfoeaokfhbdaaaGreat
open Go Go.AL Go.Proofs.YthfoeaokfhbdaaaGreat.T
attribute [local go_sem] nb_u8s u8s_length nb_sum sumA List.length_replicate zero_sum sum_h u8s_nil sums_len nb_sums states_len helds_len nb_states nb_helds signs_len nb_signs nb_keysT nb_valsT
def ofN (n : Int) (l : List Held_) : List Held_ := l.filter fun h => decide (h.rec_.state = n)
theorem ofN_snoc {n : Int} {l : List Held_} {i : Nat} (h : i < l.length) : ofN n (l.take (i + 1)) = ofN n (l.take i) ++ (if l[i].rec_.state = n then [l[i]] else []) := by
 unfold ofN
 rw [← List.take_append_getElem h, List.filter_append]
 congr 1
 by_cases e : l[i].rec_.state = n <;> simp [List.filter, e]
theorem ofN_le (n : Int) (l : List Held_) : (ofN n l).length ≤ l.length := List.length_filter_le _ _
theorem held_spec (nx N : Nat) (b : Bk) (n : Int) (hN : N + 16 < nx) (hL : bkL b) : FnSpec Tryz.prog 182 nx [.ref (N + 16) 0 [], n64 n] [(N + 16, some (.robj (bookA b N)))] (.sl 69 (heldsA (ofN n b.held)) 0) [] 0 := by
 have hx := bkN hN
 obtain ⟨l1, l2, l3, l4, l5, l6⟩ := hL
 have hno := fun nc (h : nx ≤ nc) => bnone_spec nc N b (by omega)
 simp only [bookA, chanA, refA] at hno
 have key : FnSpec Tryz.prog 182 nx [.ref (N + 16) 0 [], n64 n] [(N + 16, some (.robj (bookA b N)))] (.sl 69 (heldsA (ofN n b.held)) (nx + 11)) [(nx + 9, some (.tail (ofN n b.held).length))] 3000 := by
  refine FnSpec.of_code (cx := cx) (an := {tk := [(5, [([], 69)])]}) (rs := [.tmp 4]) mo Tryz.func182 rfl rfl (by kernel_rfl) (by kernel_rfl) (by show 2 ≤ _; decide) (.inl rfl) (by simp [allWr, keys, Res.wr]) ?_
  repeat' (first | omega | assumption | (show AL.ahead _ _ _ = true; rfl) | (first | apply brF | apply brT | apply brVF | apply brVT) <;> intro _ | (with_reducible refine And.intro ?_ ?_) | (refine callK_by (hno _ (by omega)) ?_) | (simp -dsimp -implicitDefEqProofs only [go_sem, bookA, chanA, refA, hx]))
  apply loop_keep [1, 13, 14] (fun i : { i : Nat // i ≤ b.held.length } => [(5, .sl 69 (heldsA (ofN n (b.held.take i.1))) (nx + 11)), (15, n64 i.1)]) (fun i => [(nx + 9, some (.tail (ofN n (b.held.take i.1)).length)), (N + 16, some (.robj (bookA b N)))]) (fun i => b.held.length - i.1) ⟨0, Nat.zero_le _⟩
  ·simp -dsimp -implicitDefEqProofs only [go_sem]; try rfl
  ·simp -dsimp -implicitDefEqProofs only [go_sem, List.take_zero, ofN, List.filter_nil, heldsA, List.map_nil]; try rfl
  ·simp -dsimp -implicitDefEqProofs only [go_sem, List.take_zero, ofN, List.filter_nil, List.length_nil, bookA, chanA, refA, hx]; try rfl
  ·intro s
   simp -dsimp -implicitDefEqProofs only [go_sem, bookA, chanA, refA]
   try omega
  ·rintro ⟨i, hi⟩
   have hi : i ≤ b.held.length := hi
   have hle := ofN_le n (b.held.take i)
   rw [List.length_take] at hle
   simp -dsimp -implicitDefEqProofs only [go_sem]
   refine brT (fun hc => ?_) (fun hc => ?_)
   ·have hi2 : i < b.held.length := by omega
    have q1 := helds_get hi2
    have w1 : IntKind.i64.wrap ((i : Int) + 1) = ((i + 1 : Nat) : Int) := wrapE (by omega) (by omega)
    have hsn := ofN_snoc (n := n) hi2
    have hap := helds_snoc (ofN n (b.held.take i)) b.held[i]
    generalize b.held[i] = h at *
    simp only [heldA, recA, sumA] at q1 hap
    by_cases he : h.rec_.state = n
    ·rw [if_pos he] at hsn
     repeat' (first | omega | assumption | (show AL.ahead _ _ _ = true; rfl) | (first | apply brF | apply brT | apply brVF | apply brVT) <;> intro _ | (with_reducible refine And.intro ?_ ?_) | (simp -dsimp -implicitDefEqProofs only [go_sem, bookA, chanA, refA, hx, q1, w1, hap]))
     refine ⟨⟨i + 1, hi2⟩, by show b.held.length - (i + 1) < b.held.length - i; omega, ⟨by rw [hsn], rfl⟩, ?_⟩
     rw [hsn, List.length_append]; rfl
    ·rw [if_neg he, List.append_nil] at hsn
     repeat' (first | omega | assumption | (show AL.ahead _ _ _ = true; rfl) | (first | apply brF | apply brT | apply brVF | apply brVT) <;> intro _ | (with_reducible refine And.intro ?_ ?_) | (simp -dsimp -implicitDefEqProofs only [go_sem, bookA, chanA, refA, hx, q1, w1]))
     exact ⟨⟨i + 1, hi2⟩, by show b.held.length - (i + 1) < b.held.length - i; omega, ⟨by rw [hsn], rfl⟩, by rw [hsn]⟩
   ·have e : i = b.held.length := by omega
    subst e
    repeat' (first | omega | assumption | (show AL.ahead _ _ _ = true; rfl) | (first | apply brF | apply brT | apply brVF | apply brVT) <;> intro _ | (with_reducible refine And.intro ?_ ?_) | (simp -dsimp -implicitDefEqProofs only [go_sem, List.take_length, bookA, chanA, refA, hx]))
 exact key.forget ⟨rfl, .inr ⟨.inl rfl, .inl rfl⟩⟩ (by simp [AV.nb, nb_helds]) trivial (fun n hn => by simp [keys] at hn) (fun m hm _ => by
  simp [keys] at hm; subst hm
  refine ⟨?_, by omega⟩
  simp [Heap.get]; omega)
end Go.Proofs.YthfoeaokfhbdaaaGreat

namespace Go.Proofs.YthfoeaokfhbdaaaGreat
open Go Go.AL Go.Proofs.YthfoeaokfhbdaaaGreat.T
attribute [local go_sem] nb_u8s u8s_length nb_sum sumA List.length_replicate zero_sum sum_h u8s_nil sums_len nb_sums states_len helds_len nb_states nb_helds signs_len nb_signs nb_keysT nb_valsT
def giveB (b : Bk) : Bk × Int :=
 if b.closing = true ∨ b.taken.length ≠ b.given + 1 then (b, 9)
 else if (ofN b.given b.held).length = 0 then (b, 22)
 else ({ b with given := b.given + 1 }, 0)
theorem give_spec (nx N : Nat) (b : Bk) (hN : N + 16 < nx) (hL : bkL b) : FnSpec Tryz.prog 144 nx [.ref (N + 16) 0 []] (bookH b N) (n64 (giveB b).2) (bookH (giveB b).1 N) 0 := by
 have hx := bkN hN
 have hhd := fun nc (h : nx ≤ nc) => held_spec nc N b b.given (by omega) hL
 obtain ⟨l1, l2, l3, l4, l5, l6⟩ := hL
 have w1 : IntKind.i64.wrap ((b.given : Int) + 1) = ((b.given + 1 : Nat) : Int) := wrapE (by omega) (by omega)
 have hln := fun nc (h : nx ≤ nc) => shlen_spec nc N b (by omega)
 simp only [bookA, chanA, refA] at hln hhd
 by_cases h1 : b.closing = true ∨ b.taken.length ≠ b.given + 1
 ·have e : giveB b = (b, 9) := by unfold giveB; rw [if_pos h1]
  rw [e]
  rcases h1 with h1 | h1
  ·refine FnSpec.of_code (cx := cx) (an := {}) (rs := [.tmp 2]) mo Tryz.func144 rfl rfl (by kernel_rfl) (by kernel_rfl) (by show 1 ≤ _; decide) (.inl rfl) (by simp [allWr, keys, Res.wr]) ?_
   repeat' (first | omega | assumption | (show AL.ahead _ _ _ = true; rfl) | (first | apply brF | apply brT | apply brVF | apply brVT) <;> intro _ | (with_reducible refine And.intro ?_ ?_) | (refine callK_by (hln _ (by omega)) ?_) | (simp -dsimp -implicitDefEqProofs only [go_sem, bookH, bookA, chanA, refA, hx, w1, h1]))
  ·refine FnSpec.of_code (cx := cx) (an := {}) (rs := [.tmp 2]) mo Tryz.func144 rfl rfl (by kernel_rfl) (by kernel_rfl) (by show 1 ≤ _; decide) (.inl rfl) (by simp [allWr, keys, Res.wr]) ?_
   repeat' (first | omega | assumption | (show AL.ahead _ _ _ = true; rfl) | (first | apply brF | apply brT | apply brVF | apply brVT) <;> intro _ | (with_reducible refine And.intro ?_ ?_) | (refine callK_by (hln _ (by omega)) ?_) | (simp -dsimp -implicitDefEqProofs only [go_sem, bookH, bookA, chanA, refA, hx, w1]))
 ·have hc : b.closing = false := by
   cases h : b.closing with
   | true => exact absurd (.inl h) h1
   | false => rfl
  have hlen : b.taken.length = b.given + 1 := Classical.byContradiction fun h => h1 (.inr h)
  by_cases h2 : (ofN b.given b.held).length = 0
  ·have e : giveB b = (b, 22) := by unfold giveB; rw [if_neg h1, if_pos h2]
   rw [e]
   refine FnSpec.of_code (cx := cx) (an := {}) (rs := [.tmp 2]) mo Tryz.func144 rfl rfl (by kernel_rfl) (by kernel_rfl) (by show 1 ≤ _; decide) (.inl rfl) (by simp [allWr, keys, Res.wr]) ?_
   repeat' (first | omega | assumption | (show AL.ahead _ _ _ = true; rfl) | (first | apply brF | apply brT | apply brVF | apply brVT) <;> intro _ | (with_reducible refine And.intro ?_ ?_) | (refine callK_by (hln _ (by omega)) ?_) | (refine callK_by (hhd _ (by omega)) ?_) | (simp -dsimp -implicitDefEqProofs only [go_sem, bookH, bookA, chanA, refA, hx, w1, hc]))
  ·have e : giveB b = ({ b with given := b.given + 1 }, 0) := by unfold giveB; rw [if_neg h1, if_neg h2]
   rw [e]
   refine FnSpec.of_code (cx := cx) (an := {}) (rs := [.tmp 2]) mo Tryz.func144 rfl rfl (by kernel_rfl) (by kernel_rfl) (by show 1 ≤ _; decide) (.inl rfl) (by simp [allWr, keys, Res.wr]) ?_
   repeat' (first | omega | assumption | (show AL.ahead _ _ _ = true; rfl) | (first | apply brF | apply brT | apply brVF | apply brVT) <;> intro _ | (with_reducible refine And.intro ?_ ?_) | (refine callK_by (hln _ (by omega)) ?_) | (refine callK_by (hhd _ (by omega)) ?_) | (simp -dsimp -implicitDefEqProofs only [go_sem, bookH, bookA, chanA, refA, hx, w1, hc]))
theorem brA_good (r : BR) : (brA r).good = true := rfl
theorem brA_csz (r : BR) : (brA r).csize = 274 := rfl
theorem brA_agg (r : BR) : (brA r).isAgg = true := rfl
theorem brA_p0 (r : BR) : (brA r).parts.getD 0 .undef = n64 r.kind := rfl
theorem brA_len (r : BR) : (brA r).parts.length = 9 := rfl
theorem brA_off (r : BR) : (brA r).partOff 0 = 0 := rfl
theorem bkA_p1 (b : Bk) (N : Nat) : (bookA b N).parts.getD 1 .undef = bA b.opened := rfl
theorem bkA_p8 (b : Bk) (N : Nat) : (bookA b N).parts.getD 8 .undef = bA b.closing := rfl
theorem bkA_len (b : Bk) (N : Nat) : (bookA b N).parts.length = 9 := rfl
theorem bkA_off1 (b : Bk) (N : Nat) : (bookA b N).partOff 1 = 40 - 1 := rfl
theorem bkA_off8 (b : Bk) (N : Nat) : (bookA b N).partOff 8 = 46 := rfl
theorem bkA_set8 (b : Bk) (N : Nat) (c : Bool) : (bookA b N).setPart 8 (.val (.bool c)) = bookA { b with closing := c } N := rfl
theorem bkA_nb {N m : Nat} (h : N + 16 < m) (b : Bk) : AV.nb m (bookA b N) = True := by
 simp only [eq_iff_iff, iff_true, bookA, chanA, refA, AV.nb, AV.nbs, nb_states, nb_signs, nb_sums, nb_helds, nb_sum, true_and, and_true]
 omega
noncomputable def applyB (b : Bk) (r : BR) : Bk × Int :=
 if r.kind = 1 then beginB b r
 else if r.kind = 6 then towerB b r
 else if b.opened = false then (b, 9)
 else if r.kind = 2 then stateB b r
 else if r.kind = 3 then takeB b r
 else if r.kind = 4 then receiptB b r
 else if r.kind = 5 then giveB b
 else if r.kind = 7 then (if b.closing = true then (b, 8) else ({ b with closing := true }, 0))
 else (b, 1)
theorem apply_spec (nx N : Nat) (b : Bk) (r : BR) (hN : N + 16 < nx) (hL : bkL b) (hr : brL r) : FnSpec Tryz.prog 82 nx [.ref (N + 16) 0 [], brA r] (bookH b N) (n64 (applyB b r).2) (bookH (applyB b r).1 N) 0 := by
 have hx := bkN hN
 have hno := fun nc (h : nx ≤ nc) => bnone_spec nc N b (by omega)
 have hnb := fun b' => bkA_nb hN b'
 have s1 := fun nc (h : nx ≤ nc) => begin_spec nc N b r (by omega) hL
 have s6 := fun nc (h : nx ≤ nc) => tower_spec nc N b r (by omega)
 have s2 := fun nc (h : nx ≤ nc) => bstate_spec nc N b r (by omega) hL
 have s3 := fun nc (h : nx ≤ nc) => bktake_spec nc N b r (by omega) hL
 have s4 := fun nc (h : nx ≤ nc) => receipt_spec nc N b r (by omega) hL hr
 have s5 := fun nc (h : nx ≤ nc) => give_spec nc N b (by omega) hL
 by_cases k1 : r.kind = 1
 ·have e : applyB b r = beginB b r := by unfold applyB; rw [if_pos k1]
  rw [e]
  generalize beginB b r = R at *
  refine FnSpec.of_code (cx := cx) (an := {}) (rs := [.tmp 4]) mo Tryz.func82 rfl rfl (by kernel_rfl) (by kernel_rfl) (by show 2 ≤ _; decide) (.inl rfl) (by simp [allWr, keys, Res.wr]) ?_
  repeat' (first | omega | assumption | (show AL.ahead _ _ _ = true; rfl) | (first | apply brF | apply brT | apply brVF | apply brVT) <;> intro _ | (with_reducible refine And.intro ?_ ?_) | (refine callK_by (hno _ (by omega)) ?_) | (refine callK_by (s1 _ (by omega)) ?_) | (simp -dsimp -implicitDefEqProofs only [go_sem, brA_good, brA_csz, brA_agg, brA_p0, brA_len, brA_off, bkA_p1, bkA_p8, bkA_len, bkA_off1, bkA_off8, bkA_set8, hnb, hx, k1]))
 by_cases k6 : r.kind = 6
 ·have e : applyB b r = towerB b r := by unfold applyB; rw [if_neg k1, if_pos k6]
  rw [e]
  generalize towerB b r = R at *
  refine FnSpec.of_code (cx := cx) (an := {}) (rs := [.tmp 4]) mo Tryz.func82 rfl rfl (by kernel_rfl) (by kernel_rfl) (by show 2 ≤ _; decide) (.inl rfl) (by simp [allWr, keys, Res.wr]) ?_
  repeat' (first | omega | assumption | (show AL.ahead _ _ _ = true; rfl) | (first | apply brF | apply brT | apply brVF | apply brVT) <;> intro _ | (with_reducible refine And.intro ?_ ?_) | (refine callK_by (hno _ (by omega)) ?_) | (refine callK_by (s6 _ (by omega)) ?_) | (simp -dsimp -implicitDefEqProofs only [go_sem, brA_good, brA_csz, brA_agg, brA_p0, brA_len, brA_off, bkA_p1, bkA_p8, bkA_len, bkA_off1, bkA_off8, bkA_set8, hnb, hx, k6]))
 cases ho : b.opened with
 | false =>
  have e : applyB b r = (b, 9) := by unfold applyB; rw [if_neg k1, if_neg k6, if_pos ho]
  rw [e]
  refine FnSpec.of_code (cx := cx) (an := {}) (rs := [.tmp 4]) mo Tryz.func82 rfl rfl (by kernel_rfl) (by kernel_rfl) (by show 2 ≤ _; decide) (.inl rfl) (by simp [allWr, keys, Res.wr]) ?_
  repeat' (first | omega | assumption | (show AL.ahead _ _ _ = true; rfl) | (first | apply brF | apply brT | apply brVF | apply brVT) <;> intro _ | (with_reducible refine And.intro ?_ ?_) | (refine callK_by (hno _ (by omega)) ?_) | (simp -dsimp -implicitDefEqProofs only [go_sem, brA_good, brA_csz, brA_agg, brA_p0, brA_len, brA_off, bkA_p1, bkA_p8, bkA_len, bkA_off1, bkA_off8, bkA_set8, hnb, hx, k1, k6, ho]))
 | true =>
  have hno2 : ¬ b.opened = false := by rw [ho]; decide
  by_cases k2 : r.kind = 2
  ·have e : applyB b r = stateB b r := by unfold applyB; rw [if_neg k1, if_neg k6, if_neg hno2, if_pos k2]
   rw [e]
   generalize stateB b r = R at *
   refine FnSpec.of_code (cx := cx) (an := {}) (rs := [.tmp 4]) mo Tryz.func82 rfl rfl (by kernel_rfl) (by kernel_rfl) (by show 2 ≤ _; decide) (.inl rfl) (by simp [allWr, keys, Res.wr]) ?_
   repeat' (first | omega | assumption | (show AL.ahead _ _ _ = true; rfl) | (first | apply brF | apply brT | apply brVF | apply brVT) <;> intro _ | (with_reducible refine And.intro ?_ ?_) | (refine callK_by (hno _ (by omega)) ?_) | (refine callK_by (s2 _ (by omega)) ?_) | (simp -dsimp -implicitDefEqProofs only [go_sem, brA_good, brA_csz, brA_agg, brA_p0, brA_len, brA_off, bkA_p1, bkA_p8, bkA_len, bkA_off1, bkA_off8, bkA_set8, hnb, hx, ho, k2]))
  by_cases k3 : r.kind = 3
  ·have e : applyB b r = takeB b r := by unfold applyB; rw [if_neg k1, if_neg k6, if_neg hno2, if_neg k2, if_pos k3]
   rw [e]
   generalize takeB b r = R at *
   refine FnSpec.of_code (cx := cx) (an := {}) (rs := [.tmp 4]) mo Tryz.func82 rfl rfl (by kernel_rfl) (by kernel_rfl) (by show 2 ≤ _; decide) (.inl rfl) (by simp [allWr, keys, Res.wr]) ?_
   repeat' (first | omega | assumption | (show AL.ahead _ _ _ = true; rfl) | (first | apply brF | apply brT | apply brVF | apply brVT) <;> intro _ | (with_reducible refine And.intro ?_ ?_) | (refine callK_by (hno _ (by omega)) ?_) | (refine callK_by (s3 _ (by omega)) ?_) | (simp -dsimp -implicitDefEqProofs only [go_sem, brA_good, brA_csz, brA_agg, brA_p0, brA_len, brA_off, bkA_p1, bkA_p8, bkA_len, bkA_off1, bkA_off8, bkA_set8, hnb, hx, ho, k3]))
  by_cases k4 : r.kind = 4
  ·have e : applyB b r = receiptB b r := by unfold applyB; rw [if_neg k1, if_neg k6, if_neg hno2, if_neg k2, if_neg k3, if_pos k4]
   rw [e]
   generalize receiptB b r = R at *
   refine FnSpec.of_code (cx := cx) (an := {}) (rs := [.tmp 4]) mo Tryz.func82 rfl rfl (by kernel_rfl) (by kernel_rfl) (by show 2 ≤ _; decide) (.inl rfl) (by simp [allWr, keys, Res.wr]) ?_
   repeat' (first | omega | assumption | (show AL.ahead _ _ _ = true; rfl) | (first | apply brF | apply brT | apply brVF | apply brVT) <;> intro _ | (with_reducible refine And.intro ?_ ?_) | (refine callK_by (hno _ (by omega)) ?_) | (refine callK_by (s4 _ (by omega)) ?_) | (simp -dsimp -implicitDefEqProofs only [go_sem, brA_good, brA_csz, brA_agg, brA_p0, brA_len, brA_off, bkA_p1, bkA_p8, bkA_len, bkA_off1, bkA_off8, bkA_set8, hnb, hx, ho, k4]))
  by_cases k5 : r.kind = 5
  ·have e : applyB b r = giveB b := by unfold applyB; rw [if_neg k1, if_neg k6, if_neg hno2, if_neg k2, if_neg k3, if_neg k4, if_pos k5]
   rw [e]
   generalize giveB b = R at *
   refine FnSpec.of_code (cx := cx) (an := {}) (rs := [.tmp 4]) mo Tryz.func82 rfl rfl (by kernel_rfl) (by kernel_rfl) (by show 2 ≤ _; decide) (.inl rfl) (by simp [allWr, keys, Res.wr]) ?_
   repeat' (first | omega | assumption | (show AL.ahead _ _ _ = true; rfl) | (first | apply brF | apply brT | apply brVF | apply brVT) <;> intro _ | (with_reducible refine And.intro ?_ ?_) | (refine callK_by (hno _ (by omega)) ?_) | (refine callK_by (s5 _ (by omega)) ?_) | (simp -dsimp -implicitDefEqProofs only [go_sem, brA_good, brA_csz, brA_agg, brA_p0, brA_len, brA_off, bkA_p1, bkA_p8, bkA_len, bkA_off1, bkA_off8, bkA_set8, hnb, hx, ho, k5]))
  by_cases k7 : r.kind = 7
  ·cases hc : b.closing with
   | true =>
    have e : applyB b r = (b, 8) := by unfold applyB; rw [if_neg k1, if_neg k6, if_neg hno2, if_neg k2, if_neg k3, if_neg k4, if_neg k5, if_pos k7, if_pos hc]
    rw [e]
    refine FnSpec.of_code (cx := cx) (an := {}) (rs := [.tmp 4]) mo Tryz.func82 rfl rfl (by kernel_rfl) (by kernel_rfl) (by show 2 ≤ _; decide) (.inl rfl) (by simp [allWr, keys, Res.wr]) ?_
    repeat' (first | omega | assumption | (show AL.ahead _ _ _ = true; rfl) | (first | apply brF | apply brT | apply brVF | apply brVT) <;> intro _ | (with_reducible refine And.intro ?_ ?_) | (refine callK_by (hno _ (by omega)) ?_) | (simp -dsimp -implicitDefEqProofs only [go_sem, brA_good, brA_csz, brA_agg, brA_p0, brA_len, brA_off, bkA_p1, bkA_p8, bkA_len, bkA_off1, bkA_off8, bkA_set8, hnb, hx, ho, k7, hc]))
   | false =>
    have hc2 : ¬ b.closing = true := by rw [hc]; decide
    have e : applyB b r = ({ b with closing := true }, 0) := by unfold applyB; rw [if_neg k1, if_neg k6, if_neg hno2, if_neg k2, if_neg k3, if_neg k4, if_neg k5, if_pos k7, if_neg hc2]
    rw [e]
    refine FnSpec.of_code (cx := cx) (an := {}) (rs := [.tmp 4]) mo Tryz.func82 rfl rfl (by kernel_rfl) (by kernel_rfl) (by show 2 ≤ _; decide) (.inl rfl) (by simp [allWr, keys, Res.wr]) ?_
    repeat' (first | omega | assumption | (show AL.ahead _ _ _ = true; rfl) | (first | apply brF | apply brT | apply brVF | apply brVT) <;> intro _ | (with_reducible refine And.intro ?_ ?_) | (refine callK_by (hno _ (by omega)) ?_) | (simp -dsimp -implicitDefEqProofs only [go_sem, brA_good, brA_csz, brA_agg, brA_p0, brA_len, brA_off, bkA_p1, bkA_p8, bkA_len, bkA_off1, bkA_off8, bkA_set8, hnb, hx, ho, k7, hc]))
  have e : applyB b r = (b, 1) := by unfold applyB; rw [if_neg k1, if_neg k6, if_neg hno2, if_neg k2, if_neg k3, if_neg k4, if_neg k5, if_neg k7]
  rw [e]
  refine FnSpec.of_code (cx := cx) (an := {}) (rs := [.tmp 4]) mo Tryz.func82 rfl rfl (by kernel_rfl) (by kernel_rfl) (by show 2 ≤ _; decide) (.inl rfl) (by simp [allWr, keys, Res.wr]) ?_
  repeat' (first | omega | assumption | (show AL.ahead _ _ _ = true; rfl) | (first | apply brF | apply brT | apply brVF | apply brVT) <;> intro _ | (with_reducible refine And.intro ?_ ?_) | (refine callK_by (hno _ (by omega)) ?_) | (simp -dsimp -implicitDefEqProofs only [go_sem, brA_good, brA_csz, brA_agg, brA_p0, brA_len, brA_off, bkA_p1, bkA_p8, bkA_len, bkA_off1, bkA_off8, bkA_set8, hnb, hx, k1, k6, ho, k2, k3, k4, k5, k7]))
end Go.Proofs.YthfoeaokfhbdaaaGreat

namespace Go.Proofs.YthfoeaokfhbdaaaGreat
open Go Go.AL Go.Proofs.YthfoeaokfhbdaaaGreat.T
attribute [local go_sem] nb_u8s u8s_length nb_sum sumA List.length_replicate zero_sum sum_h u8s_nil sums_len nb_sums states_len helds_len nb_states nb_helds signs_len nb_signs nb_keysT nb_valsT
def brsA (l : List BR) : List AV := l.map brA
theorem brs_len (l : List BR) : (brsA l).length = l.length := by simp [brsA]
theorem brA_nb {m : Nat} (r : BR) : AV.nb m (brA r) = True := by
 simp only [eq_iff_iff, iff_true, brA, chanA, refA, stateA, signA, srecA, recA, AV.nb, AV.nbs, nb_sum, nb_u8s, true_and, and_true]
 omega
theorem nb_brs {m : Nat} (l : List BR) : AV.nbs m (brsA l) = True := by
 simp only [eq_iff_iff, iff_true]
 exact nbs_map (fun r => by rw [brA_nb]; trivial) l
theorem brs_get {l : List BR} {i : Nat} (h : i < l.length) : (brsA l).getD i .undef = brA l[i] := by simp [brsA, List.getD_eq_getElem?_getD, List.getElem?_map, List.getElem?_eq_getElem h]
abbrev brSm (r : BR) : Prop := r.blob.length ≤ 1000 ∧ r.receipt.sig.length ≤ 6000
def smallP (l : List BR) : Prop := l.length ≤ 40 ∧ ∀ r ∈ l, brSm r
theorem small_yes (nx : Nat) (l : List BR) (h : smallP l) : FnSpec Tryz.prog 80 nx [.sl 274 (brsA l) 0] [] (n64 0) [] 0 := by
 obtain ⟨hl, hall⟩ := h
 refine FnSpec.of_code (cx := cx) (an := {}) (rs := [.tmp 2]) mo Tryz.func80 rfl rfl (by kernel_rfl) (by kernel_rfl) (by show 1 ≤ _; decide) (.inl rfl) (by simp [allWr, keys, Res.wr]) ?_
 repeat' (first | omega | assumption | (show AL.ahead _ _ _ = true; rfl) | (first | apply brF | apply brT | apply brVF | apply brVT) <;> intro _ | (with_reducible refine And.intro ?_ ?_) | (simp -dsimp -implicitDefEqProofs only [go_sem, brs_len]))
 apply loop_keep [0] (fun i : { i : Nat // i ≤ l.length } => [(3, n64 i.1)]) (fun _ => []) (fun i => l.length - i.1) ⟨0, Nat.zero_le _⟩
 ·simp -dsimp -implicitDefEqProofs only [go_sem]; try rfl
 ·simp -dsimp -implicitDefEqProofs only [go_sem]; try rfl
 ·simp -dsimp -implicitDefEqProofs only [go_sem]; try rfl
 ·intro s
  simp -dsimp -implicitDefEqProofs only [go_sem, nb_brs]
  try omega
 ·rintro ⟨i, hi⟩
  have hi : i ≤ l.length := hi
  simp -dsimp -implicitDefEqProofs only [go_sem, brs_len]
  refine brT (fun hc => ?_) (fun hc => ?_)
  ·have hi2 : i < l.length := by omega
   have q1 := brs_get hi2
   have w1 : IntKind.i64.wrap ((i : Int) + 1) = ((i + 1 : Nat) : Int) := wrapE (by omega) (by omega)
   obtain ⟨g1, g2⟩ := hall l[i] (List.getElem_mem _)
   generalize l[i] = r at *
   simp only [brA, chanA, refA, stateA, signA, srecA, recA] at q1
   repeat' (first | omega | assumption | (show AL.ahead _ _ _ = true; rfl) | (first | apply brF | apply brT | apply brVF | apply brVT) <;> intro _ | (with_reducible refine And.intro ?_ ?_) | (simp -dsimp -implicitDefEqProofs only [go_sem, q1, w1, brs_len]))
   exact ⟨⟨i + 1, hi2⟩, by show l.length - (i + 1) < l.length - i; omega, rfl⟩
  ·repeat' (first | omega | assumption | (show AL.ahead _ _ _ = true; rfl) | (first | apply brF | apply brT | apply brVF | apply brVT) <;> intro _ | (with_reducible refine And.intro ?_ ?_) | (simp -dsimp -implicitDefEqProofs only [go_sem]))
theorem small_no (nx : Nat) (l : List BR) (h : ¬ smallP l) : FnSpec Tryz.prog 80 nx [.sl 274 (brsA l) 0] [] (n64 1) [] 0 := by
 by_cases hl : l.length ≤ 40
 ·refine FnSpec.of_code (cx := cx) (an := {}) (rs := [.tmp 2]) mo Tryz.func80 rfl rfl (by kernel_rfl) (by kernel_rfl) (by show 1 ≤ _; decide) (.inl rfl) (by simp [allWr, keys, Res.wr]) ?_
  repeat' (first | omega | assumption | (show AL.ahead _ _ _ = true; rfl) | (first | apply brF | apply brT | apply brVF | apply brVT) <;> intro _ | (with_reducible refine And.intro ?_ ?_) | (simp -dsimp -implicitDefEqProofs only [go_sem, brs_len]))
  apply loop_keep [0] (fun i : { i : Nat // i ≤ l.length ∧ ∀ j (hj : j < l.length), j < i → brSm l[j] } => [(3, n64 i.1)]) (fun _ => []) (fun i => l.length - i.1) ⟨0, Nat.zero_le _, fun j _ hj => absurd hj (Nat.not_lt_zero _)⟩
  ·simp -dsimp -implicitDefEqProofs only [go_sem]; try rfl
  ·simp -dsimp -implicitDefEqProofs only [go_sem]; try rfl
  ·simp -dsimp -implicitDefEqProofs only [go_sem]; try rfl
  ·intro s
   simp -dsimp -implicitDefEqProofs only [go_sem, nb_brs]
   try omega
  ·rintro ⟨i, hi, hall⟩
   have hi : i ≤ l.length := hi
   simp -dsimp -implicitDefEqProofs only [go_sem, brs_len]
   refine brT (fun hc => ?_) (fun hc => ?_)
   ·have hi2 : i < l.length := by omega
    have q1 := brs_get hi2
    have w1 : IntKind.i64.wrap ((i : Int) + 1) = ((i + 1 : Nat) : Int) := wrapE (by omega) (by omega)
    have hgo : brSm l[i] → ∀ j (hj : j < l.length), j < i + 1 → brSm l[j] := fun hb j h1 h2 => by
     by_cases hj3 : j < i
     ·exact hall j h1 hj3
     ·have e : j = i := by omega
      subst e
      exact hb
    generalize l[i] = r at *
    simp only [brA, chanA, refA, stateA, signA, srecA, recA] at q1
    repeat' (first | omega | assumption | (show AL.ahead _ _ _ = true; rfl) | (first | apply brF | apply brT | apply brVF | apply brVT) <;> intro _ | (with_reducible refine And.intro ?_ ?_) | (simp -dsimp -implicitDefEqProofs only [go_sem, q1, w1, brs_len]))
    all_goals exact ⟨⟨i + 1, hi2, hgo ⟨by omega, by omega⟩⟩, by show l.length - (i + 1) < l.length - i; omega, rfl⟩
   ·exact absurd ⟨hl, fun r hr => by obtain ⟨j, hj, rfl⟩ := List.getElem_of_mem hr; exact hall j hj (by omega)⟩ h
 ·refine FnSpec.of_code (cx := cx) (an := {}) (rs := [.tmp 2]) mo Tryz.func80 rfl rfl (by kernel_rfl) (by kernel_rfl) (by show 1 ≤ _; decide) (.inl rfl) (by simp [allWr, keys, Res.wr]) ?_
  repeat' (first | omega | assumption | (show AL.ahead _ _ _ = true; rfl) | (first | apply brF | apply brT | apply brVF | apply brVT) <;> intro _ | (with_reducible refine And.intro ?_ ?_) | (simp -dsimp -implicitDefEqProofs only [go_sem, brs_len]))
end Go.Proofs.YthfoeaokfhbdaaaGreat

namespace Go.Proofs.YthfoeaokfhbdaaaGreat
open Go Go.AL Go.Proofs.YthfoeaokfhbdaaaGreat.T
structure Sts where
 closed : Bool
 owner : Int
 state : Int
 commit : Sum
 at_ : Int
 part : Int
 when_ : Int
def stsA (s : Sts) : AV := .agg 38 [bA s.closed, n64 s.owner, n64 s.state, sumA s.commit, n64 s.at_, n64 s.part, n64 s.when_]
end Go.Proofs.YthfoeaokfhbdaaaGreat

namespace Go.Proofs.YthfoeaokfhbdaaaGreat
open Go Go.AL Go.Proofs.YthfoeaokfhbdaaaGreat.T
def okB (b : Bk) (i : Nat) : Prop := b.states.length ≤ i ∧ b.signs.length ≤ i ∧ b.taken.length ≤ i ∧ b.given ≤ i ∧ b.held.length ≤ i ∧
 (b.opened = false → b.states = [] ∧ b.signs = [] ∧ b.given = 0 ∧ b.taken = []) ∧ (b.opened = true → b.taken.length < b.states.length ∧ b.given ≤ b.taken.length)
theorem okB_bk {b : Bk} {i : Nat} (h : okB b i) (hi : i ≤ 1000) : bkL b := by
 obtain ⟨h1, h2, h3, h4, h5, h6, _⟩ := h
 exact ⟨by omega, by omega, by omega, by omega, by omega, fun h => ⟨(h6 h).1, (h6 h).2.1⟩⟩
theorem okB_mono {b : Bk} {i : Nat} (h : okB b i) : okB b (i + 1) := by
 obtain ⟨h1, h2, h3, h4, h5, h6, h7⟩ := h
 exact ⟨by omega, by omega, by omega, by omega, by omega, h6, h7⟩
theorem okB_zero : okB bk0 0 := ⟨Nat.le_refl _, Nat.le_refl _, Nat.le_refl _, Nat.le_refl _, Nat.le_refl _, fun _ => ⟨rfl, rfl, rfl, rfl⟩, fun h => by cases h⟩
theorem begin_ok {b : Bk} {i : Nat} (r : BR) (h : okB b i) : okB (beginB b r).1 (i + 1) := by
 unfold beginB
 split
 ·exact okB_mono h
 ·rename_i ho
  split
  ·exact okB_mono h
  ·obtain ⟨h1, h2, h3, h4, h5, h6, h7⟩ := h
   obtain ⟨e1, e2, e3, e4⟩ := h6 (by cases hh : b.opened with
    | true => exact absurd hh ho
    | false => rfl)
   refine ⟨by simp, by simp, by simp only; omega, by simp only; omega, by simp only; omega, fun h => by simp at h, fun _ => ⟨by simp [e4], by simp [e3]⟩⟩
theorem tower_ok {b : Bk} {i : Nat} (r : BR) (h : okB b i) : okB (towerB b r).1 (i + 1) := by
 unfold towerB
 split
 ·exact okB_mono h
 ·split
  ·exact okB_mono h
  ·exact okB_mono h
theorem state_ok {b : Bk} {i : Nat} (r : BR) (h : okB b i) (ho : b.opened = true) : okB (stateB b r).1 (i + 1) := by
 unfold stateB
 split
 ·exact okB_mono h
 ·split
  ·exact okB_mono h
  ·obtain ⟨h1, h2, h3, h4, h5, h6, h7⟩ := h
   obtain ⟨g1, g2⟩ := h7 ho
   refine ⟨by simp only [List.length_append, List.length_cons, List.length_nil]; omega, by simp only; omega, by simp only; omega, by simp only; omega, by simp only; omega, fun h => by simp [ho] at h, fun _ => ⟨by simp only [List.length_append, List.length_cons, List.length_nil]; omega, g2⟩⟩
theorem take_ok {b : Bk} {i : Nat} (r : BR) (h : okB b i) (ho : b.opened = true) : okB (takeB b r).1 (i + 1) := by
 unfold takeB
 split
 ·exact okB_mono h
 ·rename_i hne
  split
  ·exact okB_mono h
  ·obtain ⟨h1, h2, h3, h4, h5, h6, h7⟩ := h
   obtain ⟨g1, g2⟩ := h7 ho
   refine ⟨by simp only; omega, by simp only [List.length_append, List.length_cons, List.length_nil]; omega, by simp only [List.length_append, List.length_cons, List.length_nil]; omega, by simp only; omega, by simp only; omega, fun h => by simp [ho] at h, fun _ => ⟨by simp only [List.length_append, List.length_cons, List.length_nil]; omega, by simp only [List.length_append, List.length_cons, List.length_nil]; omega⟩⟩
theorem receipt_ok {b : Bk} {i : Nat} (r : BR) (h : okB b i) : okB (receiptB b r).1 (i + 1) := by
 unfold receiptB
 split
 ·exact okB_mono h
 ·split
  ·exact okB_mono h
  ·split
   ·exact okB_mono h
   ·split
    ·exact okB_mono h
    ·obtain ⟨h1, h2, h3, h4, h5, h6, h7⟩ := h
     exact ⟨by simp only; omega, by simp only; omega, by simp only; omega, by simp only; omega, by simp only [List.length_append, List.length_cons, List.length_nil]; omega, h6, h7⟩
theorem give_ok {b : Bk} {i : Nat} (h : okB b i) (ho : b.opened = true) : okB (giveB b).1 (i + 1) := by
 unfold giveB
 split
 ·exact okB_mono h
 ·rename_i hne
  split
  ·exact okB_mono h
  ·obtain ⟨h1, h2, h3, h4, h5, h6, h7⟩ := h
   obtain ⟨g1, g2⟩ := h7 ho
   have hlen : b.taken.length = b.given + 1 := Classical.byContradiction fun h => hne (.inr h)
   exact ⟨by simp only; omega, by simp only; omega, by simp only; omega, by simp only; omega, by simp only; omega, fun h => by simp [ho] at h, fun _ => ⟨g1, by simp only; omega⟩⟩
theorem apply_ok {b : Bk} {i : Nat} (r : BR) (h : okB b i) : okB (applyB b r).1 (i + 1) := by
 unfold applyB
 split
 ·exact begin_ok r h
 ·split
  ·exact tower_ok r h
  ·split
   ·exact okB_mono h
   ·rename_i ho
    have ho : b.opened = true := by cases hh : b.opened with
     | true => rfl
     | false => exact absurd hh ho
    split
    ·exact state_ok r h ho
    ·split
     ·exact take_ok r h ho
     ·split
      ·exact receipt_ok r h
      ·split
       ·exact give_ok h ho
       ·split
        ·split
         ·exact okB_mono h
         ·obtain ⟨h1, h2, h3, h4, h5, h6, h7⟩ := okB_mono h
          exact ⟨h1, h2, h3, h4, h5, h6, h7⟩
        ·exact okB_mono h
noncomputable def runB (l : List BR) (i : Nat) : Bk := (l.take i).foldl (fun b r => (applyB b r).1) bk0
theorem runB_zero (l : List BR) : runB l 0 = bk0 := by simp [runB]
theorem runB_succ {l : List BR} {i : Nat} (h : i < l.length) : runB l (i + 1) = (applyB (runB l i) l[i]).1 := by
 unfold runB
 rw [← List.take_append_getElem h, List.foldl_append]
 rfl
theorem runB_ok (l : List BR) : ∀ i, i ≤ l.length → okB (runB l i) i
 | 0, _ => by rw [runB_zero]; exact okB_zero
 | i + 1, h => by rw [runB_succ h]; exact apply_ok _ (runB_ok l i (by omega))
end Go.Proofs.YthfoeaokfhbdaaaGreat

namespace Go.Proofs.YthfoeaokfhbdaaaGreat
open Go Go.AL Go.Proofs.YthfoeaokfhbdaaaGreat.T
attribute [local go_sem] nb_u8s u8s_length nb_sum sumA List.length_replicate zero_sum sum_h u8s_nil sums_len nb_sums states_len helds_len nb_states nb_helds signs_len nb_signs nb_keysT nb_valsT
def stsZ : Sts := ⟨false, -1, -1, zeroS, 0, 0, 0⟩
theorem look_nil (nx : Nat) : FnSpec Tryz.prog 35 nx [nilP, nilP] [] (stsA stsZ) [] 0 := by
 have hch := fun nc => bchan_nil nc
 simp only [chanA, refA, chanZ] at hch
 refine FnSpec.of_code (cx := cx) (an := {}) (rs := [.cell 4 101]) mo Tryz.func35 rfl rfl (by kernel_rfl) (by kernel_rfl) (by show 2 ≤ _; decide) (.inl rfl) (by simp [allWr, keys, Res.wr]) ?_
 repeat' (first | omega | assumption | (show AL.ahead _ _ _ = true; rfl) | (first | apply brF | apply brT | apply brVF | apply brVT) <;> intro _ | (with_reducible refine And.intro ?_ ?_) | (refine callK_by (hch _) ?_) | (simp -dsimp -implicitDefEqProofs only [go_sem, stsA, stsZ]))
 all_goals rfl
theorem cheat_open (nx : Nat) (b : AV) (hb : b = nilP) : FnSpec Tryz.prog 83 nx [stsA stsZ, b] [] (bA false) [] 0 := by
 subst hb
 refine FnSpec.of_code (cx := cx) (an := {}) (rs := [.tmp 4]) mo Tryz.func83 rfl rfl (by kernel_rfl) (by kernel_rfl) (by show 2 ≤ _; decide) (.inl rfl) (by simp [allWr, keys, Res.wr]) ?_
 repeat' (first | omega | assumption | (show AL.ahead _ _ _ = true; rfl) | (first | apply brF | apply brT | apply brVF | apply brVT) <;> intro _ | (with_reducible refine And.intro ?_ ?_) | (simp -dsimp -implicitDefEqProofs only [go_sem, stsA, stsZ]))
theorem sawake_spec (nx : Nat) : FnSpec Tryz.prog 34 nx [] [] (bA true) [] 0 := by
 have h1 := fun nc => look_nil nc
 have h2 := fun nc => cheat_open nc _ rfl
 simp only [stsA, stsZ] at h1 h2
 refine FnSpec.of_code (cx := cx) (an := {}) (rs := [.tmp 0]) mo Tryz.func34 rfl rfl (by kernel_rfl) (by kernel_rfl) (by show 0 ≤ _; decide) (.inl rfl) (by simp [allWr, keys, Res.wr]) ?_
 repeat' (first | omega | assumption | (show AL.ahead _ _ _ = true; rfl) | (first | apply brF | apply brT | apply brVF | apply brVT) <;> intro _ | (with_reducible refine And.intro ?_ ?_) | (refine callK_by (h1 _) ?_) | (refine callK_by (h2 _) ?_) | (simp -dsimp -implicitDefEqProofs only [go_sem]))
end Go.Proofs.YthfoeaokfhbdaaaGreat

namespace Go.Proofs.YthfoeaokfhbdaaaGreat
open Go Go.AL Go.Proofs.YthfoeaokfhbdaaaGreat.T
def hfS (i : Nat) : Int := 100 * (i : Int) + 1
attribute [local go_sem] nb_u8s u8s_length nb_sum sumA List.length_replicate zero_sum sum_h u8s_nil sums_len nb_sums states_len helds_len nb_states nb_helds signs_len nb_signs nb_keysT nb_valsT txs_len nb_txs outs_len nb_outs txA_good txA_csz txA_agg nb_tx brs_len nb_brs nbK_ref nbK_int nbK_pair nbK_sum nbV_coin nbV_tow nbV_hold nbV_done nbV_spend nb_sums
theorem made_yes (nx K : Nat) (hK : 200000 ≤ K) (rs : List BR) (os : List Out_) (l : List Tx_) (h1 : smallP rs) (h2 : os.length ≤ 16) (h3 : smallT (txO os)) (h4 : l.length ≤ 20) (h5 : newE 0 os = 0) (h6 : ∀ t ∈ l, smallT t) :
  FnSpec Tryz.prog 33 nx [.sl 274 (brsA rs) 0, .sl 2 (outsA os) 0, .sl 40 (txsA l) 0] [] (.tup [.ref (nx + 216) 0 [], .ref (nx + 480) 0 [], bA true]) (bookH (runB rs rs.length) (nx + 200) ++ ledH (nmL hfS (fun i => nx + 4408 + 5000 * i + 560) (newN (nx + 440)) (newS os) l l.length) (runL hfS (newS os) l l.length)) K := by
 obtain ⟨hl, hall⟩ := id h1
 have hnb := fun b' => bkA_nb (N := nx + 200) (m := nx + 240) (by omega) b'
 have e3 := smE_y h3
 have hs8 := fun nc => small8o_spec nc os
 rw [e3] at hs8
 simp only [txOA, sumA] at hs8
 have hX0 := newS_ok h3
 obtain ⟨NN, hNN, hMM⟩ : ∃ NN : Nat → Nat, (∀ i, NN i = nx + 4408 + 5000 * i) ∧ (fun i => nx + 4408 + 5000 * i + 560) = fun i => NN i + 560 := ⟨fun i => nx + 4408 + 5000 * i, fun _ => rfl, rfl⟩
 rw [hMM]
 have hN0 := hNN 0
 have hn1 := nmL_ok (hf := hfS) (M := fun i => NN i + 560) (N := NN) (n0 := newN (nx + 440)) (x0 := newS os) (l := l) (newN_ok (by rw [hN0]; omega)) (fun i => by have := hNN i; have := hNN (i + 1); omega)
 have hn2 : ∀ i, _ ∧ _ ∧ _ ∧ _ ∧ _ ∧ _ := nmL_same hfS (fun i => NN i + 560) (newN (nx + 440)) (newS os) l
 have hn3 := nmL_ge (B := nx + 544) (hf := hfS) (M := fun i => NN i + 560) (n0 := newN (nx + 440)) (x0 := newS os) (l := l) ⟨by simp only [newN]; omega, by simp only [newN]; omega, by simp only [newN]; omega⟩ (fun i => by have := hNN i; omega)
 have hz : nmL hfS (fun i => NN i + 560) (newN (nx + 440)) (newS os) l 0 = newN (nx + 440) := rfl
 have hx0 : runL hfS (newS os) l 0 = newS os := rfl
 have hyes := fun i (h : i < l.length) => nmL_yes (hf := hfS) (M := fun i => NN i + 560) (n0 := newN (nx + 440)) (x0 := newS os) h
 have hno := fun i (h : i < l.length) => nmL_no (hf := hfS) (M := fun i => NN i + 560) (n0 := newN (nx + 440)) (x0 := newS os) h
 have hrun := fun i (h : i < l.length) => runL_succ hfS (newS os) h
 have hxo := fun i (h : i ≤ l.length) => runL_ok (hf := hfS) (l := l) hX0 i h (fun k _ h2 => smallT_ok (h6 _ (List.getElem_mem h2)))
 generalize nmL hfS (fun i => NN i + 560) (newN (nx + 440)) (newS os) l = nm at *
 generalize runL hfS (newS os) l = xr at *
 have c2 : ((16 : Int) < (os.length : Int)) = False := eq_false (by omega)
 have c4 : ((20 : Int) < (l.length : Int)) = False := eq_false (by omega)
 refine FnSpec.of_code (cx := cx) (an := {}) (rs := [.tmp 6, .tmp 7, .tmp 8]) mo Tryz.func33 rfl rfl (by kernel_rfl) (by kernel_rfl) (by show 3 ≤ _; decide) (.inr ⟨_, rfl, by simp [AV.good]⟩) (by simp [allWr, keys, Res.wr]) ?_
 repeat' (first | omega | assumption | (show AL.ahead _ _ _ = true; rfl) | (first | apply brF | apply brT | apply brVF | apply brVT) <;> intro _ | (with_reducible refine And.intro ?_ ?_) | (refine callK_by (small_yes _ rs h1) ?_) | (refine callK_by (hs8 _) ?_) | (refine callK_by (newbk_spec _) ?_) | (simp -dsimp -implicitDefEqProofs only [go_sem, c2, c4, gt_iff_lt]))
 apply loop_keep [0, 1, 2, 9] (fun i : { i : Nat // i ≤ rs.length } => [(10, n64 i.1)]) (fun i => bookH (runB rs i.1) (nx + 200)) (fun i => rs.length - i.1) ⟨0, Nat.zero_le _⟩
 ·simp -dsimp -implicitDefEqProofs only [go_sem]; try rfl
 ·simp -dsimp -implicitDefEqProofs only [go_sem]; try rfl
 ·simp -dsimp -implicitDefEqProofs only [go_sem, runB_zero]; try rfl
 ·intro s
  simp -dsimp -implicitDefEqProofs only [go_sem, nb_brs, hnb]
  all_goals omega
 ·rintro ⟨i, hi⟩
  have hi : i ≤ rs.length := hi
  have hok := runB_ok rs i hi
  simp -dsimp -implicitDefEqProofs only [go_sem, brs_len]
  refine brT (fun hc => ?_) (fun hc => ?_)
  ·have hi2 : i < rs.length := by omega
   have q1 := brs_get hi2
   have w1 : IntKind.i64.wrap ((i : Int) + 1) = ((i + 1 : Nat) : Int) := wrapE (by omega) (by omega)
   have hrs := runB_succ hi2
   obtain ⟨g1, g2⟩ := hall rs[i] (List.getElem_mem hi2)
   generalize rs[i] = r at *
   have hap := fun nc (h : nx + 232 ≤ nc) => apply_spec nc (nx + 200) (runB rs i) r (by omega) (okB_bk hok (by omega)) ⟨by omega, by omega⟩
   rw [← hrs] at hap
   repeat' (first | omega | assumption | (show AL.ahead _ _ _ = true; rfl) | (first | apply brF | apply brT | apply brVF | apply brVT) <;> intro _ | (with_reducible refine And.intro ?_ ?_) | (refine callK_by (hap _ (by omega)) ?_) | (simp -dsimp -implicitDefEqProofs only [go_sem, q1, w1, brs_len, brA_good, brA_csz, brA_agg, brA_nb]))
   exact ⟨⟨i + 1, hi2⟩, by show rs.length - (i + 1) < rs.length - i; omega, rfl, rfl, rfl, rfl, rfl, rfl, rfl⟩
  ·have e : i = rs.length := by omega
   subst e
   generalize runB rs rs.length = B at *
   have hnw := newOk_spec (nx + 352) 0 os h5 h2 (fun o ho => ⟨by have := (h3.2.2.2.2.2 o ho).1; omega, fun w hw => by have := (h3.2.2.2.2.2 o ho).2 w hw; omega⟩) (smallT_ok h3).b (.inl (by decide))
   have hH : ledH (newN (nx + 352 + 88)) (newS os) = [(nx + 480, some (.obj (ledA (newN (nx + 440)) (newS os)))), (nx + 520, some (.obj (.agg 1 [.map (nx + 504)]))), (nx + 504, some (.mp (coinsE (newS os).coins))), (nx + 568, some (.obj (boardA (nx + 544) (nx + 552)))), (nx + 544, some (.mp (towsE (newS os).towers))), (nx + 552, some (.mp (holdsE (newS os).holds))), (nx + 456, some (.mp (donesE (newS os).done))), (nx + 464, some (.mp (spentE (newS os).spent))), (nx + 473, some (.tail (newS os).order.length))] := rfl
   have hl0 : (newN (nx + 352 + 88)).l = nx + 480 := rfl
   rw [hH, hl0] at hnw
   repeat' (first | omega | assumption | (show AL.ahead _ _ _ = true; rfl) | (first | apply brF | apply brT | apply brVF | apply brVT) <;> intro _ | (with_reducible refine And.intro ?_ ?_) | (refine callK_by (hnw) ?_) | (simp -dsimp -implicitDefEqProofs only [go_sem]))
   rw [← hz, ← hx0, show nx + 4408 = NN 0 by omega]
   have hn2 : ∀ i, (nm i).l = nx + 480 ∧ (nm i).v = nx + 520 ∧ (nm i).vm = nx + 504 ∧ (nm i).d = nx + 456 ∧ (nm i).s = nx + 464 ∧ (nm i).o = nx + 473 := hn2
   have k0 : (nm 0).b = nx + 568 ∧ (nm 0).tm = nx + 544 ∧ (nm 0).hm = nx + 552 := by rw [hz]; exact ⟨rfl, rfl, rfl⟩
   apply loop_grow [2, 9, 11] (fun i : { i : Nat // i ≤ l.length } => [(14, n64 i.1)]) (fun i => bookH B (nx + 200) ++ ledH (nm i.1) (xr i.1)) (fun i => l.length - i.1) (fun i => NN i.1) ⟨0, Nat.zero_le _⟩
   ·simp -dsimp -implicitDefEqProofs only [go_sem]; try rfl
   ·simp -dsimp -implicitDefEqProofs only [go_sem]; try rfl
   ·simp -dsimp -implicitDefEqProofs only [go_sem, List.cons_append, List.nil_append, hn2, k0]; try rfl
   ·intro s
    have hlt := (hn1 s.1).lt
    have hs := hNN s.1
    have hnb2 := bkA_nb (N := nx + 200) (m := NN s.1) (by omega) B
    simp -dsimp -implicitDefEqProofs only [go_sem, List.cons_append, List.nil_append, hn2, hnb2, ledA, boardA]
    all_goals (try omega)
   ·rintro ⟨i, hi⟩
    have hi : i ≤ l.length := hi
    have hn := hn1 i
    have hge := hn3 i
    have hxi := hxo i hi
    have hNi := hNN i
    have xf := hn.xf
    have yf := hn.nf
    have nl : ∀ j k, j < 600 → ((nx + j = NN i + k) = False) ∧ ((NN i + k = nx + j) = False) ∧ ((nx + j = NN i) = False) ∧ ((NN i = nx + j) = False) := fun j k h => by
     simp only [eq_iff_iff, iff_false]; omega
    have nb : ∀ j, j < 544 → (((nm i).b = nx + j) = False) ∧ ((nx + j = (nm i).b) = False) ∧ (((nm i).tm = nx + j) = False) ∧ ((nx + j = (nm i).tm) = False) ∧ (((nm i).hm = nx + j) = False) ∧ ((nx + j = (nm i).hm) = False) := fun j h => by
     simp only [eq_iff_iff, iff_false]; omega
    simp -dsimp -implicitDefEqProofs only [go_sem, List.cons_append, List.nil_append, hn2]
    refine brT (fun hc => ?_) (fun hc => ?_)
    ·have hi2 : i < l.length := by omega
     have q1 := txs_get hi2
     have w1 : IntKind.i64.wrap ((i : Int) + 1) = ((i + 1 : Nat) : Int) := wrapE (by omega) (by omega)
     have w2 : IntKind.i64.wrap (100 * (i : Int)) = 100 * (i : Int) := by rw [IntKind.wrap_i64]; omega
     have w3 : IntKind.i64.wrap (100 * (i : Int) + 1) = hfS i := by rw [IntKind.wrap_i64]; unfold hfS; omega
     have hst := h6 _ (List.getElem_mem hi2)
     have hru := hrun i hi2
     have hye := hyes i hi2
     have hnn := hno i hi2
     generalize l[i] = t at *
     have hsm := fun nc => small8_spec nc t
     rw [smE_y hst] at hsm
     have hap := step_spec (NN i + 152) (nm i) (xr i) t (hfS i) (1 + i) (hn.up (by omega)) (smallT_ok hst) hxi (by omega)
     by_cases h0 : (stepL t (hfS i) (xr i)).1 = 0
     ·have hap := hap.1 h0
      have kb : (nm (i + 1)).b = NN i + 672 ∧ (nm (i + 1)).tm = NN i + 712 ∧ (nm (i + 1)).hm = NN i + 752 := by rw [hye h0]; exact ⟨rfl, rfl, rfl⟩
      rw [← hru, show NN i + 152 + 408 = NN i + 560 by omega, ← hye h0] at hap
      simp only [ledH, ledI, hn2, kb] at hap
      repeat' (first | omega | assumption | (show AL.ahead _ _ _ = true; rfl) | (first | apply brF | apply brT | apply brVF | apply brVT) <;> intro _ | (with_reducible refine And.intro ?_ ?_) | (refine callK_by (hsm _) ?_) | (refine callK_by (hap) ?_) | (simp -dsimp -implicitDefEqProofs only [go_sem, List.cons_append, List.nil_append, hn2, q1, w1, w2, w3, nl, nb, xf, yf]))
      refine ⟨⟨i + 1, hi2⟩, by show l.length - (i + 1) < l.length - i; omega, rfl, ?_⟩
      simp -dsimp -implicitDefEqProofs only [go_sem, List.cons_append, List.nil_append, hn2, kb, nl, nb, xf, yf]
      all_goals rfl
     ·have hsx := (hap.2 h0).1
      have hap := (hap.2 h0).2
      have hx1 : xr (i + 1) = xr i := by rw [hru, hsx]
      have hm1 := hnn h0
      simp only [ledR, hn2] at hap
      repeat' (first | omega | assumption | (show AL.ahead _ _ _ = true; rfl) | (first | apply brF | apply brT | apply brVF | apply brVT) <;> intro _ | (with_reducible refine And.intro ?_ ?_) | (refine callK_by (hsm _) ?_) | (refine callK_by (hap) ?_) | (simp -dsimp -implicitDefEqProofs only [go_sem, List.cons_append, List.nil_append, hn2, q1, w1, w2, w3, nl, nb, xf, yf]))
      refine ⟨⟨i + 1, hi2⟩, by show l.length - (i + 1) < l.length - i; omega, rfl, ?_⟩
      simp -dsimp -implicitDefEqProofs only [go_sem, List.cons_append, List.nil_append, hn2, hx1, hm1, nl, nb, xf, yf]
      all_goals rfl
    ·have e : i = l.length := by omega
     subst e
     have hlt := hn.lt
     have hnb3 := bkA_nb (N := nx + 200) (m := nx + K) (by omega) B
     repeat' (first | omega | assumption | (show AL.ahead _ _ _ = true; rfl) | (first | apply brF | apply brT | apply brVF | apply brVT) <;> intro _ | (with_reducible refine And.intro ?_ ?_) | (simp -dsimp -implicitDefEqProofs only [go_sem, List.cons_append, List.nil_append, hn2, nl, nb, xf, yf, boardA, ledA, hnb3]))
     all_goals first | rfl | omega
end Go.Proofs.YthfoeaokfhbdaaaGreat

/-
 What records do to a book: all of them.
-/
import Derived.Test.YtaghcjbpjnpkbaaGreatEP47
import Derived.Test.YtaghcjbpjnpkbaaGreatEP41
import Derived.Test.YtaghcjbpjnpkbaaGreatEP20
set_option linter.unusedSimpArgs false
set_option linter.unusedVariables false
set_option maxRecDepth 100000
set_option maxHeartbeats 8000000
namespace Go.Proofs.YtaghcjbpjnpkbaaGreat
open Go Go.AL Go.Proofs.YtaghcjbpjnpkbaaGreat.T
attribute [local go_sem] nb_u8s u8s_length nb_sum sumA List.length_replicate zero_sum sum_h u8s_nil sums_len nb_sums states_len helds_len nb_states nb_helds signs_len nb_signs nb_keysT nb_valsT
def ofN (n : Int) (l : List Held_) : List Held_ := l.filter fun h => decide (h.rec_.state = n)
theorem ofN_snoc {n : Int} {l : List Held_} {i : Nat} (h : i < l.length) : ofN n (l.take (i + 1)) = ofN n (l.take i) ++ (if l[i].rec_.state = n then [l[i]] else []) := by
 unfold ofN
 rw [← List.take_append_getElem h, List.filter_append]
 congr 1
 by_cases e : l[i].rec_.state = n <;> simp [List.filter, e]
theorem ofN_le (n : Int) (l : List Held_) : (ofN n l).length ≤ l.length := List.length_filter_le _ _
theorem held_spec (nx N : Nat) (b : Bk) (n : Int) (hN : N + 16 < nx) (hL : bkL b) : FnSpec Tryz.prog 60 nx [.ref (N + 16) 0 [], n64 n] [(N + 16, some (.robj (bookA b N)))] (.sl 69 (heldsA (ofN n b.held)) 0) [] 0 := by
 have hx := bkN hN
 obtain ⟨l1, l2, l3, l4, l5, l6⟩ := hL
 have hno := fun nc (h : nx ≤ nc) => bnone_spec nc N b (by omega)
 simp only [bookA, chanA, refA] at hno
 have key : FnSpec Tryz.prog 60 nx [.ref (N + 16) 0 [], n64 n] [(N + 16, some (.robj (bookA b N)))] (.sl 69 (heldsA (ofN n b.held)) (nx + 11)) [(nx + 9, some (.tail (ofN n b.held).length))] 3000 := by
  refine FnSpec.of_code (cx := cx) (an := {tk := [(5, [([], 69)])]}) (rs := [.tmp 4]) mo Tryz.func60 rfl rfl (by kernel_rfl) (by kernel_rfl) (by show 2 ≤ _; decide) (.inl rfl) (by simp [allWr, keys, Res.wr]) ?_
  repeat' (first | omega | assumption | (show AL.ahead _ _ _ = true; rfl) | (first | apply brF | apply brT | apply brVF | apply brVT) <;> intro _ | (with_reducible refine And.intro ?_ ?_) | (refine callK_by (hno _ (by omega)) ?_) | (simp -dsimp -implicitDefEqProofs only [go_sem, bookA, chanA, refA, hx]))
  apply loop_keep [1, 13, 14] (fun i : { i : Nat // i ≤ b.held.length } => [(5, .sl 69 (heldsA (ofN n (b.held.take i.1))) (nx + 11)), (15, n64 i.1)]) (fun i => [(nx + 9, some (.tail (ofN n (b.held.take i.1)).length)), (N + 16, some (.robj (bookA b N)))]) (fun i => b.held.length - i.1) ⟨0, Nat.zero_le _⟩
  ·simp -dsimp -implicitDefEqProofs only [go_sem]; try rfl
  ·simp -dsimp -implicitDefEqProofs only [go_sem, List.take_zero, ofN, List.filter_nil, heldsA, List.map_nil]; try rfl
  ·simp -dsimp -implicitDefEqProofs only [go_sem, List.take_zero, ofN, List.filter_nil, List.length_nil, bookA, chanA, refA, hx]; try rfl
  ·intro s
   simp -dsimp -implicitDefEqProofs only [go_sem, bookA, chanA, refA]
   try omega
  ·rintro ⟨i, hi⟩
   have hi : i ≤ b.held.length := hi
   have hle := ofN_le n (b.held.take i)
   rw [List.length_take] at hle
   simp -dsimp -implicitDefEqProofs only [go_sem]
   refine brT (fun hc => ?_) (fun hc => ?_)
   ·have hi2 : i < b.held.length := by omega
    have q1 := helds_get hi2
    have w1 : IntKind.i64.wrap ((i : Int) + 1) = ((i + 1 : Nat) : Int) := wrapE (by omega) (by omega)
    have hsn := ofN_snoc (n := n) hi2
    have hap := helds_snoc (ofN n (b.held.take i)) b.held[i]
    generalize b.held[i] = h at *
    simp only [heldA, recA, sumA] at q1 hap
    by_cases he : h.rec_.state = n
    ·rw [if_pos he] at hsn
     repeat' (first | omega | assumption | (show AL.ahead _ _ _ = true; rfl) | (first | apply brF | apply brT | apply brVF | apply brVT) <;> intro _ | (with_reducible refine And.intro ?_ ?_) | (simp -dsimp -implicitDefEqProofs only [go_sem, bookA, chanA, refA, hx, q1, w1, hap]))
     refine ⟨⟨i + 1, hi2⟩, by show b.held.length - (i + 1) < b.held.length - i; omega, ⟨by rw [hsn], rfl⟩, ?_⟩
     rw [hsn, List.length_append]; rfl
    ·rw [if_neg he, List.append_nil] at hsn
     repeat' (first | omega | assumption | (show AL.ahead _ _ _ = true; rfl) | (first | apply brF | apply brT | apply brVF | apply brVT) <;> intro _ | (with_reducible refine And.intro ?_ ?_) | (simp -dsimp -implicitDefEqProofs only [go_sem, bookA, chanA, refA, hx, q1, w1]))
     exact ⟨⟨i + 1, hi2⟩, by show b.held.length - (i + 1) < b.held.length - i; omega, ⟨by rw [hsn], rfl⟩, by rw [hsn]⟩
   ·have e : i = b.held.length := by omega
    subst e
    repeat' (first | omega | assumption | (show AL.ahead _ _ _ = true; rfl) | (first | apply brF | apply brT | apply brVF | apply brVT) <;> intro _ | (with_reducible refine And.intro ?_ ?_) | (simp -dsimp -implicitDefEqProofs only [go_sem, List.take_length, bookA, chanA, refA, hx]))
 exact key.forget ⟨rfl, .inr ⟨.inl rfl, .inl rfl⟩⟩ (by simp [AV.nb, nb_helds]) trivial (fun n hn => by simp [keys] at hn) (fun m hm _ => by
  simp [keys] at hm; subst hm
  refine ⟨?_, by omega⟩
  simp [Heap.get]; omega)
end Go.Proofs.YtaghcjbpjnpkbaaGreat

namespace Go.Proofs.YtaghcjbpjnpkbaaGreat
open Go Go.AL Go.Proofs.YtaghcjbpjnpkbaaGreat.T
attribute [local go_sem] nb_u8s u8s_length nb_sum sumA List.length_replicate zero_sum sum_h u8s_nil sums_len nb_sums states_len helds_len nb_states nb_helds signs_len nb_signs nb_keysT nb_valsT
def giveB (b : Bk) : Bk × Int :=
 if b.closing = true ∨ b.taken.length ≠ b.given + 1 then (b, 9)
 else if (ofN b.given b.held).length = 0 then (b, 22)
 else ({ b with given := b.given + 1 }, 0)
theorem give_spec (nx N : Nat) (b : Bk) (hN : N + 16 < nx) (hL : bkL b) : FnSpec Tryz.prog 41 nx [.ref (N + 16) 0 []] (bookH b N) (n64 (giveB b).2) (bookH (giveB b).1 N) 0 := by
 have hx := bkN hN
 have hhd := fun nc (h : nx ≤ nc) => held_spec nc N b b.given (by omega) hL
 obtain ⟨l1, l2, l3, l4, l5, l6⟩ := hL
 have w1 : IntKind.i64.wrap ((b.given : Int) + 1) = ((b.given + 1 : Nat) : Int) := wrapE (by omega) (by omega)
 have hln := fun nc (h : nx ≤ nc) => shlen_spec nc N b (by omega)
 simp only [bookA, chanA, refA] at hln hhd
 by_cases h1 : b.closing = true ∨ b.taken.length ≠ b.given + 1
 ·have e : giveB b = (b, 9) := by unfold giveB; rw [if_pos h1]
  rw [e]
  rcases h1 with h1 | h1
  ·refine FnSpec.of_code (cx := cx) (an := {}) (rs := [.tmp 2]) mo Tryz.func41 rfl rfl (by kernel_rfl) (by kernel_rfl) (by show 1 ≤ _; decide) (.inl rfl) (by simp [allWr, keys, Res.wr]) ?_
   repeat' (first | omega | assumption | (show AL.ahead _ _ _ = true; rfl) | (first | apply brF | apply brT | apply brVF | apply brVT) <;> intro _ | (with_reducible refine And.intro ?_ ?_) | (refine callK_by (hln _ (by omega)) ?_) | (simp -dsimp -implicitDefEqProofs only [go_sem, bookH, bookA, chanA, refA, hx, w1, h1]))
  ·refine FnSpec.of_code (cx := cx) (an := {}) (rs := [.tmp 2]) mo Tryz.func41 rfl rfl (by kernel_rfl) (by kernel_rfl) (by show 1 ≤ _; decide) (.inl rfl) (by simp [allWr, keys, Res.wr]) ?_
   repeat' (first | omega | assumption | (show AL.ahead _ _ _ = true; rfl) | (first | apply brF | apply brT | apply brVF | apply brVT) <;> intro _ | (with_reducible refine And.intro ?_ ?_) | (refine callK_by (hln _ (by omega)) ?_) | (simp -dsimp -implicitDefEqProofs only [go_sem, bookH, bookA, chanA, refA, hx, w1]))
 ·have hc : b.closing = false := by
   cases h : b.closing with
   | true => exact absurd (.inl h) h1
   | false => rfl
  have hlen : b.taken.length = b.given + 1 := Classical.byContradiction fun h => h1 (.inr h)
  by_cases h2 : (ofN b.given b.held).length = 0
  ·have e : giveB b = (b, 22) := by unfold giveB; rw [if_neg h1, if_pos h2]
   rw [e]
   refine FnSpec.of_code (cx := cx) (an := {}) (rs := [.tmp 2]) mo Tryz.func41 rfl rfl (by kernel_rfl) (by kernel_rfl) (by show 1 ≤ _; decide) (.inl rfl) (by simp [allWr, keys, Res.wr]) ?_
   repeat' (first | omega | assumption | (show AL.ahead _ _ _ = true; rfl) | (first | apply brF | apply brT | apply brVF | apply brVT) <;> intro _ | (with_reducible refine And.intro ?_ ?_) | (refine callK_by (hln _ (by omega)) ?_) | (refine callK_by (hhd _ (by omega)) ?_) | (simp -dsimp -implicitDefEqProofs only [go_sem, bookH, bookA, chanA, refA, hx, w1, hc]))
  ·have e : giveB b = ({ b with given := b.given + 1 }, 0) := by unfold giveB; rw [if_neg h1, if_neg h2]
   rw [e]
   refine FnSpec.of_code (cx := cx) (an := {}) (rs := [.tmp 2]) mo Tryz.func41 rfl rfl (by kernel_rfl) (by kernel_rfl) (by show 1 ≤ _; decide) (.inl rfl) (by simp [allWr, keys, Res.wr]) ?_
   repeat' (first | omega | assumption | (show AL.ahead _ _ _ = true; rfl) | (first | apply brF | apply brT | apply brVF | apply brVT) <;> intro _ | (with_reducible refine And.intro ?_ ?_) | (refine callK_by (hln _ (by omega)) ?_) | (refine callK_by (hhd _ (by omega)) ?_) | (simp -dsimp -implicitDefEqProofs only [go_sem, bookH, bookA, chanA, refA, hx, w1, hc]))
theorem brA_good (r : BR) : (brA r).good = true := rfl
theorem brA_csz (r : BR) : (brA r).csize = 274 := rfl
theorem brA_agg (r : BR) : (brA r).isAgg = true := rfl
theorem brA_p0 (r : BR) : (brA r).parts.getD 0 .undef = n64 r.kind := rfl
theorem brA_len (r : BR) : (brA r).parts.length = 9 := rfl
theorem brA_off (r : BR) : (brA r).partOff 0 = 0 := rfl
theorem bkA_p1 (b : Bk) (N : Nat) : (bookA b N).parts.getD 1 .undef = bA b.opened := rfl
theorem bkA_p8 (b : Bk) (N : Nat) : (bookA b N).parts.getD 8 .undef = bA b.closing := rfl
theorem bkA_len (b : Bk) (N : Nat) : (bookA b N).parts.length = 9 := rfl
theorem bkA_off1 (b : Bk) (N : Nat) : (bookA b N).partOff 1 = 40 - 1 := rfl
theorem bkA_off8 (b : Bk) (N : Nat) : (bookA b N).partOff 8 = 46 := rfl
theorem bkA_set8 (b : Bk) (N : Nat) (c : Bool) : (bookA b N).setPart 8 (.val (.bool c)) = bookA { b with closing := c } N := rfl
theorem bkA_nb {N m : Nat} (h : N + 16 < m) (b : Bk) : AV.nb m (bookA b N) = True := by
 simp only [eq_iff_iff, iff_true, bookA, chanA, refA, AV.nb, AV.nbs, nb_states, nb_signs, nb_sums, nb_helds, nb_sum, true_and, and_true]
 omega
noncomputable def applyB (b : Bk) (r : BR) : Bk × Int :=
 if r.kind = 1 then beginB b r
 else if r.kind = 6 then towerB b r
 else if b.opened = false then (b, 9)
 else if r.kind = 2 then stateB b r
 else if r.kind = 3 then takeB b r
 else if r.kind = 4 then receiptB b r
 else if r.kind = 5 then giveB b
 else if r.kind = 7 then (if b.closing = true then (b, 8) else ({ b with closing := true }, 0))
 else (b, 1)
theorem apply_spec (nx N : Nat) (b : Bk) (r : BR) (hN : N + 16 < nx) (hL : bkL b) (hr : brL r) : FnSpec Tryz.prog 16 nx [.ref (N + 16) 0 [], brA r] (bookH b N) (n64 (applyB b r).2) (bookH (applyB b r).1 N) 0 := by
 have hx := bkN hN
 have hno := fun nc (h : nx ≤ nc) => bnone_spec nc N b (by omega)
 have hnb := fun b' => bkA_nb hN b'
 have s1 := fun nc (h : nx ≤ nc) => begin_spec nc N b r (by omega) hL
 have s6 := fun nc (h : nx ≤ nc) => tower_spec nc N b r (by omega)
 have s2 := fun nc (h : nx ≤ nc) => bstate_spec nc N b r (by omega) hL
 have s3 := fun nc (h : nx ≤ nc) => bktake_spec nc N b r (by omega) hL
 have s4 := fun nc (h : nx ≤ nc) => receipt_spec nc N b r (by omega) hL hr
 have s5 := fun nc (h : nx ≤ nc) => give_spec nc N b (by omega) hL
 by_cases k1 : r.kind = 1
 ·have e : applyB b r = beginB b r := by unfold applyB; rw [if_pos k1]
  rw [e]
  generalize beginB b r = R at *
  refine FnSpec.of_code (cx := cx) (an := {}) (rs := [.tmp 4]) mo Tryz.func16 rfl rfl (by kernel_rfl) (by kernel_rfl) (by show 2 ≤ _; decide) (.inl rfl) (by simp [allWr, keys, Res.wr]) ?_
  repeat' (first | omega | assumption | (show AL.ahead _ _ _ = true; rfl) | (first | apply brF | apply brT | apply brVF | apply brVT) <;> intro _ | (with_reducible refine And.intro ?_ ?_) | (refine callK_by (hno _ (by omega)) ?_) | (refine callK_by (s1 _ (by omega)) ?_) | (simp -dsimp -implicitDefEqProofs only [go_sem, brA_good, brA_csz, brA_agg, brA_p0, brA_len, brA_off, bkA_p1, bkA_p8, bkA_len, bkA_off1, bkA_off8, bkA_set8, hnb, hx, k1]))
 by_cases k6 : r.kind = 6
 ·have e : applyB b r = towerB b r := by unfold applyB; rw [if_neg k1, if_pos k6]
  rw [e]
  generalize towerB b r = R at *
  refine FnSpec.of_code (cx := cx) (an := {}) (rs := [.tmp 4]) mo Tryz.func16 rfl rfl (by kernel_rfl) (by kernel_rfl) (by show 2 ≤ _; decide) (.inl rfl) (by simp [allWr, keys, Res.wr]) ?_
  repeat' (first | omega | assumption | (show AL.ahead _ _ _ = true; rfl) | (first | apply brF | apply brT | apply brVF | apply brVT) <;> intro _ | (with_reducible refine And.intro ?_ ?_) | (refine callK_by (hno _ (by omega)) ?_) | (refine callK_by (s6 _ (by omega)) ?_) | (simp -dsimp -implicitDefEqProofs only [go_sem, brA_good, brA_csz, brA_agg, brA_p0, brA_len, brA_off, bkA_p1, bkA_p8, bkA_len, bkA_off1, bkA_off8, bkA_set8, hnb, hx, k6]))
 cases ho : b.opened with
 | false =>
  have e : applyB b r = (b, 9) := by unfold applyB; rw [if_neg k1, if_neg k6, if_pos ho]
  rw [e]
  refine FnSpec.of_code (cx := cx) (an := {}) (rs := [.tmp 4]) mo Tryz.func16 rfl rfl (by kernel_rfl) (by kernel_rfl) (by show 2 ≤ _; decide) (.inl rfl) (by simp [allWr, keys, Res.wr]) ?_
  repeat' (first | omega | assumption | (show AL.ahead _ _ _ = true; rfl) | (first | apply brF | apply brT | apply brVF | apply brVT) <;> intro _ | (with_reducible refine And.intro ?_ ?_) | (refine callK_by (hno _ (by omega)) ?_) | (simp -dsimp -implicitDefEqProofs only [go_sem, brA_good, brA_csz, brA_agg, brA_p0, brA_len, brA_off, bkA_p1, bkA_p8, bkA_len, bkA_off1, bkA_off8, bkA_set8, hnb, hx, k1, k6, ho]))
 | true =>
  have hno2 : ¬ b.opened = false := by rw [ho]; decide
  by_cases k2 : r.kind = 2
  ·have e : applyB b r = stateB b r := by unfold applyB; rw [if_neg k1, if_neg k6, if_neg hno2, if_pos k2]
   rw [e]
   generalize stateB b r = R at *
   refine FnSpec.of_code (cx := cx) (an := {}) (rs := [.tmp 4]) mo Tryz.func16 rfl rfl (by kernel_rfl) (by kernel_rfl) (by show 2 ≤ _; decide) (.inl rfl) (by simp [allWr, keys, Res.wr]) ?_
   repeat' (first | omega | assumption | (show AL.ahead _ _ _ = true; rfl) | (first | apply brF | apply brT | apply brVF | apply brVT) <;> intro _ | (with_reducible refine And.intro ?_ ?_) | (refine callK_by (hno _ (by omega)) ?_) | (refine callK_by (s2 _ (by omega)) ?_) | (simp -dsimp -implicitDefEqProofs only [go_sem, brA_good, brA_csz, brA_agg, brA_p0, brA_len, brA_off, bkA_p1, bkA_p8, bkA_len, bkA_off1, bkA_off8, bkA_set8, hnb, hx, ho, k2]))
  by_cases k3 : r.kind = 3
  ·have e : applyB b r = takeB b r := by unfold applyB; rw [if_neg k1, if_neg k6, if_neg hno2, if_neg k2, if_pos k3]
   rw [e]
   generalize takeB b r = R at *
   refine FnSpec.of_code (cx := cx) (an := {}) (rs := [.tmp 4]) mo Tryz.func16 rfl rfl (by kernel_rfl) (by kernel_rfl) (by show 2 ≤ _; decide) (.inl rfl) (by simp [allWr, keys, Res.wr]) ?_
   repeat' (first | omega | assumption | (show AL.ahead _ _ _ = true; rfl) | (first | apply brF | apply brT | apply brVF | apply brVT) <;> intro _ | (with_reducible refine And.intro ?_ ?_) | (refine callK_by (hno _ (by omega)) ?_) | (refine callK_by (s3 _ (by omega)) ?_) | (simp -dsimp -implicitDefEqProofs only [go_sem, brA_good, brA_csz, brA_agg, brA_p0, brA_len, brA_off, bkA_p1, bkA_p8, bkA_len, bkA_off1, bkA_off8, bkA_set8, hnb, hx, ho, k3]))
  by_cases k4 : r.kind = 4
  ·have e : applyB b r = receiptB b r := by unfold applyB; rw [if_neg k1, if_neg k6, if_neg hno2, if_neg k2, if_neg k3, if_pos k4]
   rw [e]
   generalize receiptB b r = R at *
   refine FnSpec.of_code (cx := cx) (an := {}) (rs := [.tmp 4]) mo Tryz.func16 rfl rfl (by kernel_rfl) (by kernel_rfl) (by show 2 ≤ _; decide) (.inl rfl) (by simp [allWr, keys, Res.wr]) ?_
   repeat' (first | omega | assumption | (show AL.ahead _ _ _ = true; rfl) | (first | apply brF | apply brT | apply brVF | apply brVT) <;> intro _ | (with_reducible refine And.intro ?_ ?_) | (refine callK_by (hno _ (by omega)) ?_) | (refine callK_by (s4 _ (by omega)) ?_) | (simp -dsimp -implicitDefEqProofs only [go_sem, brA_good, brA_csz, brA_agg, brA_p0, brA_len, brA_off, bkA_p1, bkA_p8, bkA_len, bkA_off1, bkA_off8, bkA_set8, hnb, hx, ho, k4]))
  by_cases k5 : r.kind = 5
  ·have e : applyB b r = giveB b := by unfold applyB; rw [if_neg k1, if_neg k6, if_neg hno2, if_neg k2, if_neg k3, if_neg k4, if_pos k5]
   rw [e]
   generalize giveB b = R at *
   refine FnSpec.of_code (cx := cx) (an := {}) (rs := [.tmp 4]) mo Tryz.func16 rfl rfl (by kernel_rfl) (by kernel_rfl) (by show 2 ≤ _; decide) (.inl rfl) (by simp [allWr, keys, Res.wr]) ?_
   repeat' (first | omega | assumption | (show AL.ahead _ _ _ = true; rfl) | (first | apply brF | apply brT | apply brVF | apply brVT) <;> intro _ | (with_reducible refine And.intro ?_ ?_) | (refine callK_by (hno _ (by omega)) ?_) | (refine callK_by (s5 _ (by omega)) ?_) | (simp -dsimp -implicitDefEqProofs only [go_sem, brA_good, brA_csz, brA_agg, brA_p0, brA_len, brA_off, bkA_p1, bkA_p8, bkA_len, bkA_off1, bkA_off8, bkA_set8, hnb, hx, ho, k5]))
  by_cases k7 : r.kind = 7
  ·cases hc : b.closing with
   | true =>
    have e : applyB b r = (b, 8) := by unfold applyB; rw [if_neg k1, if_neg k6, if_neg hno2, if_neg k2, if_neg k3, if_neg k4, if_neg k5, if_pos k7, if_pos hc]
    rw [e]
    refine FnSpec.of_code (cx := cx) (an := {}) (rs := [.tmp 4]) mo Tryz.func16 rfl rfl (by kernel_rfl) (by kernel_rfl) (by show 2 ≤ _; decide) (.inl rfl) (by simp [allWr, keys, Res.wr]) ?_
    repeat' (first | omega | assumption | (show AL.ahead _ _ _ = true; rfl) | (first | apply brF | apply brT | apply brVF | apply brVT) <;> intro _ | (with_reducible refine And.intro ?_ ?_) | (refine callK_by (hno _ (by omega)) ?_) | (simp -dsimp -implicitDefEqProofs only [go_sem, brA_good, brA_csz, brA_agg, brA_p0, brA_len, brA_off, bkA_p1, bkA_p8, bkA_len, bkA_off1, bkA_off8, bkA_set8, hnb, hx, ho, k7, hc]))
   | false =>
    have hc2 : ¬ b.closing = true := by rw [hc]; decide
    have e : applyB b r = ({ b with closing := true }, 0) := by unfold applyB; rw [if_neg k1, if_neg k6, if_neg hno2, if_neg k2, if_neg k3, if_neg k4, if_neg k5, if_pos k7, if_neg hc2]
    rw [e]
    refine FnSpec.of_code (cx := cx) (an := {}) (rs := [.tmp 4]) mo Tryz.func16 rfl rfl (by kernel_rfl) (by kernel_rfl) (by show 2 ≤ _; decide) (.inl rfl) (by simp [allWr, keys, Res.wr]) ?_
    repeat' (first | omega | assumption | (show AL.ahead _ _ _ = true; rfl) | (first | apply brF | apply brT | apply brVF | apply brVT) <;> intro _ | (with_reducible refine And.intro ?_ ?_) | (refine callK_by (hno _ (by omega)) ?_) | (simp -dsimp -implicitDefEqProofs only [go_sem, brA_good, brA_csz, brA_agg, brA_p0, brA_len, brA_off, bkA_p1, bkA_p8, bkA_len, bkA_off1, bkA_off8, bkA_set8, hnb, hx, ho, k7, hc]))
  have e : applyB b r = (b, 1) := by unfold applyB; rw [if_neg k1, if_neg k6, if_neg hno2, if_neg k2, if_neg k3, if_neg k4, if_neg k5, if_neg k7]
  rw [e]
  refine FnSpec.of_code (cx := cx) (an := {}) (rs := [.tmp 4]) mo Tryz.func16 rfl rfl (by kernel_rfl) (by kernel_rfl) (by show 2 ≤ _; decide) (.inl rfl) (by simp [allWr, keys, Res.wr]) ?_
  repeat' (first | omega | assumption | (show AL.ahead _ _ _ = true; rfl) | (first | apply brF | apply brT | apply brVF | apply brVT) <;> intro _ | (with_reducible refine And.intro ?_ ?_) | (refine callK_by (hno _ (by omega)) ?_) | (simp -dsimp -implicitDefEqProofs only [go_sem, brA_good, brA_csz, brA_agg, brA_p0, brA_len, brA_off, bkA_p1, bkA_p8, bkA_len, bkA_off1, bkA_off8, bkA_set8, hnb, hx, k1, k6, ho, k2, k3, k4, k5, k7]))
end Go.Proofs.YtaghcjbpjnpkbaaGreat

namespace Go.Proofs.YtaghcjbpjnpkbaaGreat
open Go Go.AL Go.Proofs.YtaghcjbpjnpkbaaGreat.T
attribute [local go_sem] nb_u8s u8s_length nb_sum sumA List.length_replicate zero_sum sum_h u8s_nil sums_len nb_sums states_len helds_len nb_states nb_helds signs_len nb_signs nb_keysT nb_valsT
def brsA (l : List BR) : List AV := l.map brA
theorem brs_len (l : List BR) : (brsA l).length = l.length := by simp [brsA]
theorem brA_nb {m : Nat} (r : BR) : AV.nb m (brA r) = True := by
 simp only [eq_iff_iff, iff_true, brA, chanA, refA, stateA, signA, srecA, recA, AV.nb, AV.nbs, nb_sum, nb_u8s, true_and, and_true]
 omega
theorem nb_brs {m : Nat} (l : List BR) : AV.nbs m (brsA l) = True := by
 simp only [eq_iff_iff, iff_true]
 exact nbs_map (fun r => by rw [brA_nb]; trivial) l
theorem brs_get {l : List BR} {i : Nat} (h : i < l.length) : (brsA l).getD i .undef = brA l[i] := by simp [brsA, List.getD_eq_getElem?_getD, List.getElem?_map, List.getElem?_eq_getElem h]
abbrev brSm (r : BR) : Prop := r.blob.length ≤ 1000 ∧ r.receipt.sig.length ≤ 6000
def smallP (l : List BR) : Prop := l.length ≤ 40 ∧ ∀ r ∈ l, brSm r
theorem small_yes (nx : Nat) (l : List BR) (h : smallP l) : FnSpec Tryz.prog 13 nx [.sl 274 (brsA l) 0] [] (n64 0) [] 0 := by
 obtain ⟨hl, hall⟩ := h
 refine FnSpec.of_code (cx := cx) (an := {}) (rs := [.tmp 2]) mo Tryz.func13 rfl rfl (by kernel_rfl) (by kernel_rfl) (by show 1 ≤ _; decide) (.inl rfl) (by simp [allWr, keys, Res.wr]) ?_
 repeat' (first | omega | assumption | (show AL.ahead _ _ _ = true; rfl) | (first | apply brF | apply brT | apply brVF | apply brVT) <;> intro _ | (with_reducible refine And.intro ?_ ?_) | (simp -dsimp -implicitDefEqProofs only [go_sem, brs_len]))
 apply loop_keep [0] (fun i : { i : Nat // i ≤ l.length } => [(3, n64 i.1)]) (fun _ => []) (fun i => l.length - i.1) ⟨0, Nat.zero_le _⟩
 ·simp -dsimp -implicitDefEqProofs only [go_sem]; try rfl
 ·simp -dsimp -implicitDefEqProofs only [go_sem]; try rfl
 ·simp -dsimp -implicitDefEqProofs only [go_sem]; try rfl
 ·intro s
  simp -dsimp -implicitDefEqProofs only [go_sem, nb_brs]
  try omega
 ·rintro ⟨i, hi⟩
  have hi : i ≤ l.length := hi
  simp -dsimp -implicitDefEqProofs only [go_sem, brs_len]
  refine brT (fun hc => ?_) (fun hc => ?_)
  ·have hi2 : i < l.length := by omega
   have q1 := brs_get hi2
   have w1 : IntKind.i64.wrap ((i : Int) + 1) = ((i + 1 : Nat) : Int) := wrapE (by omega) (by omega)
   obtain ⟨g1, g2⟩ := hall l[i] (List.getElem_mem _)
   generalize l[i] = r at *
   simp only [brA, chanA, refA, stateA, signA, srecA, recA] at q1
   repeat' (first | omega | assumption | (show AL.ahead _ _ _ = true; rfl) | (first | apply brF | apply brT | apply brVF | apply brVT) <;> intro _ | (with_reducible refine And.intro ?_ ?_) | (simp -dsimp -implicitDefEqProofs only [go_sem, q1, w1, brs_len]))
   exact ⟨⟨i + 1, hi2⟩, by show l.length - (i + 1) < l.length - i; omega, rfl⟩
  ·repeat' (first | omega | assumption | (show AL.ahead _ _ _ = true; rfl) | (first | apply brF | apply brT | apply brVF | apply brVT) <;> intro _ | (with_reducible refine And.intro ?_ ?_) | (simp -dsimp -implicitDefEqProofs only [go_sem]))
theorem small_no (nx : Nat) (l : List BR) (h : ¬ smallP l) : FnSpec Tryz.prog 13 nx [.sl 274 (brsA l) 0] [] (n64 1) [] 0 := by
 by_cases hl : l.length ≤ 40
 ·refine FnSpec.of_code (cx := cx) (an := {}) (rs := [.tmp 2]) mo Tryz.func13 rfl rfl (by kernel_rfl) (by kernel_rfl) (by show 1 ≤ _; decide) (.inl rfl) (by simp [allWr, keys, Res.wr]) ?_
  repeat' (first | omega | assumption | (show AL.ahead _ _ _ = true; rfl) | (first | apply brF | apply brT | apply brVF | apply brVT) <;> intro _ | (with_reducible refine And.intro ?_ ?_) | (simp -dsimp -implicitDefEqProofs only [go_sem, brs_len]))
  apply loop_keep [0] (fun i : { i : Nat // i ≤ l.length ∧ ∀ j (hj : j < l.length), j < i → brSm l[j] } => [(3, n64 i.1)]) (fun _ => []) (fun i => l.length - i.1) ⟨0, Nat.zero_le _, fun j _ hj => absurd hj (Nat.not_lt_zero _)⟩
  ·simp -dsimp -implicitDefEqProofs only [go_sem]; try rfl
  ·simp -dsimp -implicitDefEqProofs only [go_sem]; try rfl
  ·simp -dsimp -implicitDefEqProofs only [go_sem]; try rfl
  ·intro s
   simp -dsimp -implicitDefEqProofs only [go_sem, nb_brs]
   try omega
  ·rintro ⟨i, hi, hall⟩
   have hi : i ≤ l.length := hi
   simp -dsimp -implicitDefEqProofs only [go_sem, brs_len]
   refine brT (fun hc => ?_) (fun hc => ?_)
   ·have hi2 : i < l.length := by omega
    have q1 := brs_get hi2
    have w1 : IntKind.i64.wrap ((i : Int) + 1) = ((i + 1 : Nat) : Int) := wrapE (by omega) (by omega)
    have hgo : brSm l[i] → ∀ j (hj : j < l.length), j < i + 1 → brSm l[j] := fun hb j h1 h2 => by
     by_cases hj3 : j < i
     ·exact hall j h1 hj3
     ·have e : j = i := by omega
      subst e
      exact hb
    generalize l[i] = r at *
    simp only [brA, chanA, refA, stateA, signA, srecA, recA] at q1
    repeat' (first | omega | assumption | (show AL.ahead _ _ _ = true; rfl) | (first | apply brF | apply brT | apply brVF | apply brVT) <;> intro _ | (with_reducible refine And.intro ?_ ?_) | (simp -dsimp -implicitDefEqProofs only [go_sem, q1, w1, brs_len]))
    all_goals exact ⟨⟨i + 1, hi2, hgo ⟨by omega, by omega⟩⟩, by show l.length - (i + 1) < l.length - i; omega, rfl⟩
   ·exact absurd ⟨hl, fun r hr => by obtain ⟨j, hj, rfl⟩ := List.getElem_of_mem hr; exact hall j hj (by omega)⟩ h
 ·refine FnSpec.of_code (cx := cx) (an := {}) (rs := [.tmp 2]) mo Tryz.func13 rfl rfl (by kernel_rfl) (by kernel_rfl) (by show 1 ≤ _; decide) (.inl rfl) (by simp [allWr, keys, Res.wr]) ?_
  repeat' (first | omega | assumption | (show AL.ahead _ _ _ = true; rfl) | (first | apply brF | apply brT | apply brVF | apply brVT) <;> intro _ | (with_reducible refine And.intro ?_ ?_) | (simp -dsimp -implicitDefEqProofs only [go_sem, brs_len]))
end Go.Proofs.YtaghcjbpjnpkbaaGreat

namespace Go.Proofs.YtaghcjbpjnpkbaaGreat
open Go Go.AL Go.Proofs.YtaghcjbpjnpkbaaGreat.T
end Go.Proofs.YtaghcjbpjnpkbaaGreat

namespace Go.Proofs.YtaghcjbpjnpkbaaGreat
open Go Go.AL Go.Proofs.YtaghcjbpjnpkbaaGreat.T
section
open Classical
end
end Go.Proofs.YtaghcjbpjnpkbaaGreat

namespace Go.Proofs.YtaghcjbpjnpkbaaGreat
open Go Go.AL Go.Proofs.YtaghcjbpjnpkbaaGreat.T
attribute [local go_sem] nb_u8s u8s_length nb_sum sumA List.length_replicate zero_sum sum_h u8s_nil sums_len nb_sums states_len helds_len nb_states nb_helds signs_len nb_signs nb_keysT nb_valsT
theorem shall_spec (nx N : Nat) (b : Bk) (hN : N + 16 < nx) (ht : b.taken.length ≤ 1000) : FnSpec Tryz.prog 25 nx [.ref (N + 16) 42 [4]] [(N + 16, some (.robj (bookA b N)))] (.sl 32 (sumsA b.taken) 0) [] 0 := by
 have hx := bkN hN
 have key : FnSpec Tryz.prog 25 nx [.ref (N + 16) 42 [4]] [(N + 16, some (.robj (bookA b N)))] (.sl 32 (sumsA b.taken) (nx + 58)) [(nx + 56, some (.tail b.taken.length))] 100 := by
  refine FnSpec.of_code (cx := cx) (an := {}) (rs := [.tmp 2]) mo Tryz.func25 rfl rfl (by kernel_rfl) (by kernel_rfl) (by show 1 ≤ _; decide) (.inl rfl) (by simp [allWr, keys, Res.wr]) ?_
  repeat' (first | omega | assumption | (show AL.ahead _ _ _ = true; rfl) | (first | apply brF | apply brT | apply brVF | apply brVT) <;> intro _ | (with_reducible refine And.intro ?_ ?_) | (simp -dsimp -implicitDefEqProofs only [go_sem, bookA, chanA, refA, hx]))
 exact key.forget ⟨rfl, .inr ⟨.inl rfl, .inl rfl⟩⟩ (by simp [AV.nb, nb_sums]) trivial (fun n hn => by simp [keys] at hn) (fun m hm _ => by
  simp [keys] at hm; subst hm
  refine ⟨?_, by omega⟩
  simp [Heap.get]; omega)
theorem taken_spec (nx N : Nat) (b : Bk) (hN : N + 16 < nx) (ht : b.taken.length ≤ 1000) : FnSpec Tryz.prog 10 nx [.ref (N + 16) 0 []] [(N + 16, some (.robj (bookA b N)))] (.sl 32 (sumsA b.taken) 0) [] 0 := by
 have hx := bkN hN
 have hno := fun nc (h : nx ≤ nc) => bnone_spec nc N b (by omega)
 have hal := fun nc (h : nx ≤ nc) => shall_spec nc N b (by omega) ht
 simp only [bookA, chanA, refA] at hno hal
 refine FnSpec.of_code (cx := cx) (an := {}) (rs := [.tmp 2]) mo Tryz.func10 rfl rfl (by kernel_rfl) (by kernel_rfl) (by show 1 ≤ _; decide) (.inl rfl) (by simp [allWr, keys, Res.wr]) ?_
 repeat' (first | omega | assumption | (show AL.ahead _ _ _ = true; rfl) | (first | apply brF | apply brT | apply brVF | apply brVT) <;> intro _ | (with_reducible refine And.intro ?_ ?_) | (refine callK_by (hno _ (by omega)) ?_) | (refine callK_by (hal _ (by omega)) ?_) | (simp -dsimp -implicitDefEqProofs only [go_sem, bookA, chanA, refA, hx]))
structure Sts where
 closed : Bool
 owner : Int
 state : Int
 commit : Sum
 at_ : Int
 part : Int
 when_ : Int
def stsA (s : Sts) : AV := .agg 38 [bA s.closed, n64 s.owner, n64 s.state, sumA s.commit, n64 s.at_, n64 s.part, n64 s.when_]
abbrev cheatP (s : Sts) (b : Bk) : Prop := s.closed = true ∧ s.owner = 1 ∧ 0 ≤ s.state ∧ s.state < b.taken.length
theorem cheat_spec (nx N : Nat) (s : Sts) (b : Bk) (hN : N + 16 < nx) (ht : b.taken.length ≤ 1000) : FnSpec Tryz.prog 9 nx [stsA s, .ref (N + 16) 0 []] [(N + 16, some (.robj (bookA b N)))] (bA (decide (cheatP s b))) [] 0 := by
 have hx := bkN hN
 have htk := fun nc (h : nx ≤ nc) => taken_spec nc N b (by omega) ht
 have hcb : s.closed = false ∨ s.closed = true := by cases s.closed <;> simp
 rcases hcb with hc | hc
 ·have e : decide (cheatP s b) = false := decide_eq_false (fun h => by have h1 := h.1; rw [hc] at h1; exact absurd h1 (by decide))
  rw [e]
  refine FnSpec.of_code (cx := cx) (an := {}) (rs := [.tmp 4]) mo Tryz.func9 rfl rfl (by kernel_rfl) (by kernel_rfl) (by show 2 ≤ _; decide) (.inl rfl) (by simp [allWr, keys, Res.wr]) ?_
  repeat' (first | omega | assumption | (show AL.ahead _ _ _ = true; rfl) | (first | apply brF | apply brT | apply brVF | apply brVT) <;> intro _ | (with_reducible refine And.intro ?_ ?_) | (refine callK_by (htk _ (by omega)) ?_) | (simp -dsimp -implicitDefEqProofs only [go_sem, stsA, hc, hx]))
 ·by_cases ho : s.owner = 1 ∧ 0 ≤ s.state
  ·have e : decide (cheatP s b) = decide (s.state < b.taken.length) := decide_eq_decide.2 ⟨fun h => h.2.2.2, fun h => ⟨hc, ho.1, ho.2, h⟩⟩
   rw [e]
   refine FnSpec.of_code (cx := cx) (an := {}) (rs := [.tmp 4]) mo Tryz.func9 rfl rfl (by kernel_rfl) (by kernel_rfl) (by show 2 ≤ _; decide) (.inl rfl) (by simp [allWr, keys, Res.wr]) ?_
   repeat' (first | omega | assumption | (show AL.ahead _ _ _ = true; rfl) | (first | apply brF | apply brT | apply brVF | apply brVT) <;> intro _ | (with_reducible refine And.intro ?_ ?_) | (refine callK_by (htk _ (by omega)) ?_) | (simp -dsimp -implicitDefEqProofs only [go_sem, stsA, hc, hx]))
  ·have e : decide (cheatP s b) = false := decide_eq_false (fun h => ho ⟨h.2.1, h.2.2.1⟩)
   rw [e]
   refine FnSpec.of_code (cx := cx) (an := {}) (rs := [.tmp 4]) mo Tryz.func9 rfl rfl (by kernel_rfl) (by kernel_rfl) (by show 2 ≤ _; decide) (.inl rfl) (by simp [allWr, keys, Res.wr]) ?_
   repeat' (first | omega | assumption | (show AL.ahead _ _ _ = true; rfl) | (first | apply brF | apply brT | apply brVF | apply brVT) <;> intro _ | (with_reducible refine And.intro ?_ ?_) | (refine callK_by (htk _ (by omega)) ?_) | (simp -dsimp -implicitDefEqProofs only [go_sem, stsA, hc, hx]))
end Go.Proofs.YtaghcjbpjnpkbaaGreat

namespace Go.Proofs.YtaghcjbpjnpkbaaGreat
open Go Go.AL Go.Proofs.YtaghcjbpjnpkbaaGreat.T
def okB (b : Bk) (i : Nat) : Prop := b.states.length ≤ i ∧ b.signs.length ≤ i ∧ b.taken.length ≤ i ∧ b.given ≤ i ∧ b.held.length ≤ i ∧
 (b.opened = false → b.states = [] ∧ b.signs = [] ∧ b.given = 0 ∧ b.taken = []) ∧ (b.opened = true → b.taken.length < b.states.length ∧ b.given ≤ b.taken.length)
theorem okB_bk {b : Bk} {i : Nat} (h : okB b i) (hi : i ≤ 1000) : bkL b := by
 obtain ⟨h1, h2, h3, h4, h5, h6, _⟩ := h
 exact ⟨by omega, by omega, by omega, by omega, by omega, fun h => ⟨(h6 h).1, (h6 h).2.1⟩⟩
theorem okB_mono {b : Bk} {i : Nat} (h : okB b i) : okB b (i + 1) := by
 obtain ⟨h1, h2, h3, h4, h5, h6, h7⟩ := h
 exact ⟨by omega, by omega, by omega, by omega, by omega, h6, h7⟩
theorem okB_zero : okB bk0 0 := ⟨Nat.le_refl _, Nat.le_refl _, Nat.le_refl _, Nat.le_refl _, Nat.le_refl _, fun _ => ⟨rfl, rfl, rfl, rfl⟩, fun h => by cases h⟩
theorem begin_ok {b : Bk} {i : Nat} (r : BR) (h : okB b i) : okB (beginB b r).1 (i + 1) := by
 unfold beginB
 split
 ·exact okB_mono h
 ·rename_i ho
  split
  ·exact okB_mono h
  ·obtain ⟨h1, h2, h3, h4, h5, h6, h7⟩ := h
   obtain ⟨e1, e2, e3, e4⟩ := h6 (by cases hh : b.opened with
    | true => exact absurd hh ho
    | false => rfl)
   refine ⟨by simp, by simp, by simp only; omega, by simp only; omega, by simp only; omega, fun h => by simp at h, fun _ => ⟨by simp [e4], by simp [e3]⟩⟩
theorem tower_ok {b : Bk} {i : Nat} (r : BR) (h : okB b i) : okB (towerB b r).1 (i + 1) := by
 unfold towerB
 split
 ·exact okB_mono h
 ·split
  ·exact okB_mono h
  ·exact okB_mono h
theorem state_ok {b : Bk} {i : Nat} (r : BR) (h : okB b i) (ho : b.opened = true) : okB (stateB b r).1 (i + 1) := by
 unfold stateB
 split
 ·exact okB_mono h
 ·split
  ·exact okB_mono h
  ·obtain ⟨h1, h2, h3, h4, h5, h6, h7⟩ := h
   obtain ⟨g1, g2⟩ := h7 ho
   refine ⟨by simp only [List.length_append, List.length_cons, List.length_nil]; omega, by simp only; omega, by simp only; omega, by simp only; omega, by simp only; omega, fun h => by simp [ho] at h, fun _ => ⟨by simp only [List.length_append, List.length_cons, List.length_nil]; omega, g2⟩⟩
theorem take_ok {b : Bk} {i : Nat} (r : BR) (h : okB b i) (ho : b.opened = true) : okB (takeB b r).1 (i + 1) := by
 unfold takeB
 split
 ·exact okB_mono h
 ·rename_i hne
  split
  ·exact okB_mono h
  ·obtain ⟨h1, h2, h3, h4, h5, h6, h7⟩ := h
   obtain ⟨g1, g2⟩ := h7 ho
   refine ⟨by simp only; omega, by simp only [List.length_append, List.length_cons, List.length_nil]; omega, by simp only [List.length_append, List.length_cons, List.length_nil]; omega, by simp only; omega, by simp only; omega, fun h => by simp [ho] at h, fun _ => ⟨by simp only [List.length_append, List.length_cons, List.length_nil]; omega, by simp only [List.length_append, List.length_cons, List.length_nil]; omega⟩⟩
theorem receipt_ok {b : Bk} {i : Nat} (r : BR) (h : okB b i) : okB (receiptB b r).1 (i + 1) := by
 unfold receiptB
 split
 ·exact okB_mono h
 ·split
  ·exact okB_mono h
  ·split
   ·exact okB_mono h
   ·split
    ·exact okB_mono h
    ·obtain ⟨h1, h2, h3, h4, h5, h6, h7⟩ := h
     exact ⟨by simp only; omega, by simp only; omega, by simp only; omega, by simp only; omega, by simp only [List.length_append, List.length_cons, List.length_nil]; omega, h6, h7⟩
theorem give_ok {b : Bk} {i : Nat} (h : okB b i) (ho : b.opened = true) : okB (giveB b).1 (i + 1) := by
 unfold giveB
 split
 ·exact okB_mono h
 ·rename_i hne
  split
  ·exact okB_mono h
  ·obtain ⟨h1, h2, h3, h4, h5, h6, h7⟩ := h
   obtain ⟨g1, g2⟩ := h7 ho
   have hlen : b.taken.length = b.given + 1 := Classical.byContradiction fun h => hne (.inr h)
   exact ⟨by simp only; omega, by simp only; omega, by simp only; omega, by simp only; omega, by simp only; omega, fun h => by simp [ho] at h, fun _ => ⟨g1, by simp only; omega⟩⟩
theorem apply_ok {b : Bk} {i : Nat} (r : BR) (h : okB b i) : okB (applyB b r).1 (i + 1) := by
 unfold applyB
 split
 ·exact begin_ok r h
 ·split
  ·exact tower_ok r h
  ·split
   ·exact okB_mono h
   ·rename_i ho
    have ho : b.opened = true := by cases hh : b.opened with
     | true => rfl
     | false => exact absurd hh ho
    split
    ·exact state_ok r h ho
    ·split
     ·exact take_ok r h ho
     ·split
      ·exact receipt_ok r h
      ·split
       ·exact give_ok h ho
       ·split
        ·split
         ·exact okB_mono h
         ·obtain ⟨h1, h2, h3, h4, h5, h6, h7⟩ := okB_mono h
          exact ⟨h1, h2, h3, h4, h5, h6, h7⟩
        ·exact okB_mono h
noncomputable def runB (l : List BR) (i : Nat) : Bk := (l.take i).foldl (fun b r => (applyB b r).1) bk0
theorem runB_zero (l : List BR) : runB l 0 = bk0 := by simp [runB]
theorem runB_succ {l : List BR} {i : Nat} (h : i < l.length) : runB l (i + 1) = (applyB (runB l i) l[i]).1 := by
 unfold runB
 rw [← List.take_append_getElem h, List.foldl_append]
 rfl
theorem runB_ok (l : List BR) : ∀ i, i ≤ l.length → okB (runB l i) i
 | 0, _ => by rw [runB_zero]; exact okB_zero
 | i + 1, h => by rw [runB_succ h]; exact apply_ok _ (runB_ok l i (by omega))
end Go.Proofs.YtaghcjbpjnpkbaaGreat

namespace Go.Proofs.YtaghcjbpjnpkbaaGreat
open Go Go.AL Go.Proofs.YtaghcjbpjnpkbaaGreat.T
end Go.Proofs.YtaghcjbpjnpkbaaGreat

/-
 Books: what they hold; a new one; none; the shelf.
-/
import Derived.Test.YtaghcjbpjnpkbaaGreatEP20
import Derived.Test.YtaghcjbpjnpkbaaGreatEP41
import Derived.Test.YtaghcjbpjnpkbaaGreatAL27
set_option linter.unusedSimpArgs false
set_option linter.unusedVariables false
set_option maxRecDepth 100000
set_option maxHeartbeats 8000000
namespace Go.Proofs.YtaghcjbpjnpkbaaGreat
open Go Go.AL Go.Proofs.YtaghcjbpjnpkbaaGreat.T
structure Bk where
 chan : Chan
 opened : Bool
 states : List St_
 signs : List Sign_
 taken : List Sum
 given : Nat
 held : List Held_
 towers : List (Int × Sum)
 closing : Bool
structure BR where
 kind : Int
 chan : Chan
 state : St_
 sign : Sign_
 secret : Sum
 tower : Int
 root : Sum
 receipt : SRec
 blob : List UInt8
def statesA (l : List St_) : List AV := l.map stateA
def heldsA (l : List Held_) : List AV := l.map heldA
def towersE (l : List (Int × Sum)) : List (AV × AV) := l.map fun p => (n64 p.1, sumA p.2)
def brA (r : BR) : AV := .agg 274 [n64 r.kind, chanA r.chan, stateA r.state, signA r.sign, sumA r.secret, n64 r.tower, sumA r.root, srecA r.receipt, .sl 1 (u8s r.blob) 0]
def bookA (b : Bk) (N : Nat) : AV := .agg 47 [chanA b.chan, bA b.opened, .sl 67 (statesA b.states) (N + 11), .sl 33 (signsA b.signs) (N + 12), .agg 1 [.sl 32 (sumsA b.taken) (N + 13)], n64 b.given, .sl 69 (heldsA b.held) (N + 14), .map N, bA b.closing]
abbrev bookH (b : Bk) (N : Nat) : Heap := [(N + 16, some (.obj (bookA b N))), (N, some (.mp (towersE b.towers))), (N + 9, some (.tail b.states.length)), (N + 10, some (.tail b.signs.length)), (N + 11, some (.tail b.taken.length)), (N + 12, some (.tail b.held.length))]
theorem states_len (l : List St_) : (statesA l).length = l.length := by simp [statesA]
theorem helds_len (l : List Held_) : (heldsA l).length = l.length := by simp [heldsA]
theorem nb_states {m : Nat} (l : List St_) : AV.nbs m (statesA l) = True := by
 simp only [eq_iff_iff, iff_true]
 exact nbs_map (fun s => by simp [stateA, AV.nb, AV.nbs, nb_sum]) l
theorem nb_helds {m : Nat} (l : List Held_) : AV.nbs m (heldsA l) = True := by
 simp only [eq_iff_iff, iff_true]
 exact nbs_map (fun s => by simp [heldA, recA, AV.nb, AV.nbs, nb_sum, nb_u8s]) l
theorem nb_keysT {m : Nat} (l : List (Int × Sum)) : AV.nbs m ((towersE l).map (·.1)) = True := by
 simp only [eq_iff_iff, iff_true, towersE, List.map_map]
 exact nbs_map (fun s => by simp [AV.nb]) l
theorem nb_valsT {m : Nat} (l : List (Int × Sum)) : AV.nbs m ((towersE l).map (·.2)) = True := by
 simp only [eq_iff_iff, iff_true, towersE, List.map_map]
 exact nbs_map (fun s => by simp [nb_sum]) l
theorem bkN {N nx : Nat} (h : N + 16 < nx) : (∀ k, (N = nx + k) = False) ∧ (∀ k, (nx + k = N) = False) ∧ (∀ k, (N + 9 = nx + k) = False) ∧ (∀ k, (nx + k = N + 9) = False) ∧ (∀ k, (N + 10 = nx + k) = False) ∧ (∀ k, (nx + k = N + 10) = False) ∧ (∀ k, (N + 11 = nx + k) = False) ∧ (∀ k, (nx + k = N + 11) = False) ∧ (∀ k, (N + 12 = nx + k) = False) ∧ (∀ k, (nx + k = N + 12) = False) ∧ (∀ k, (N + 16 = nx + k) = False) ∧ (∀ k, (nx + k = N + 16) = False) ∧
  (N = nx) = False ∧ (nx = N) = False ∧ (N + 9 = nx) = False ∧ (nx = N + 9) = False ∧ (N + 10 = nx) = False ∧ (nx = N + 10) = False ∧ (N + 11 = nx) = False ∧ (nx = N + 11) = False ∧ (N + 12 = nx) = False ∧ (nx = N + 12) = False ∧ (N + 16 = nx) = False ∧ (nx = N + 16) = False := by
 refine ⟨fun k => ?_, fun k => ?_, fun k => ?_, fun k => ?_, fun k => ?_, fun k => ?_, fun k => ?_, fun k => ?_, fun k => ?_, fun k => ?_, fun k => ?_, fun k => ?_, ?_, ?_, ?_, ?_, ?_, ?_, ?_, ?_, ?_, ?_, ?_, ?_⟩ <;> (simp only [eq_iff_iff, iff_false]; omega)
attribute [local go_sem] nb_u8s u8s_length nb_sum sumA List.length_replicate zero_sum sum_h u8s_nil sums_len nb_sums states_len helds_len nb_states nb_helds signs_len nb_signs nb_keysT nb_valsT
def bk0 : Bk := ⟨chanZ, false, [], [], [], 0, [], [], false⟩
theorem newbk_spec (nx : Nat) : FnSpec Tryz.prog 15 nx [] [] (.ref (nx + 24) 0 []) (bookH bk0 (nx + 8)) 40 := by
 refine FnSpec.of_code (cx := cx) (an := {mt := [3], tk := [(2, [([2], 67), ([3], 33), ([4, 0], 32), ([6], 69)])]}) (rs := [.tmp 0]) mo Tryz.func15 rfl rfl (by kernel_rfl) (by kernel_rfl) (by show 0 ≤ _; decide) (.inl rfl) (by simp [allWr, keys, Res.wr]) ?_
 repeat' (first | omega | assumption | (show AL.ahead _ _ _ = true; rfl) | (first | apply brF | apply brT | apply brVF | apply brVT) <;> intro _ | (with_reducible refine And.intro ?_ ?_) | (simp -dsimp -implicitDefEqProofs only [go_sem, bookH, bookA, bk0, chanA, refA, chanZ]))
 all_goals rfl
theorem bnone_spec (nx N : Nat) (b : Bk) (hN : N + 16 < nx) : FnSpec Tryz.prog 23 nx [.ref (N + 16) 0 []] [(N + 16, some (.robj (bookA b N)))] (bA false) [] 0 := by
 have hx := bkN hN
 refine FnSpec.of_code (cx := cx) (an := {}) (rs := [.tmp 2]) mo Tryz.func23 rfl rfl (by kernel_rfl) (by kernel_rfl) (by show 1 ≤ _; decide) (.inl rfl) (by simp [allWr, keys, Res.wr]) ?_
 repeat' (first | omega | assumption | (show AL.ahead _ _ _ = true; rfl) | (first | apply brF | apply brT | apply brVF | apply brVT) <;> intro _ | (with_reducible refine And.intro ?_ ?_) | (simp -dsimp -implicitDefEqProofs only [go_sem, bookA, chanA, refA, hx]))
def lookT (k : Int) : List (Int × Sum) → Option Sum
 | [] => none
 | (a, s) :: r => if k = a then some s else lookT k r
theorem eqB_n64 (a b : Int) : eqB (n64 a) (n64 b) = decide (a = b) := by
 by_cases h : a = b
 ·subst h; rw [eqB_yes rfl]; simp
 ·rw [eqB_no (fun e => h (by injection e with e; injection e))]; simp [h]
theorem lookA_T (k : Int) : ∀ l : List (Int × Sum), lookA (n64 k) (towersE l) = (lookT k l).map sumA
 | [] => rfl
 | (a, s) :: r => by
  have ih := lookA_T k r
  simp only [towersE, List.map_cons, lookA, lookT, eqB_n64, decide_eq_true_eq] at ih ⊢
  split
  ·rfl
  ·exact ih
theorem setA_T {k : Int} {v : AV} : ∀ {l : List (Int × Sum)}, lookT k l = none → setA (n64 k) v (towersE l) = towersE l ++ [(n64 k, v)]
 | [], _ => rfl
 | (a, s) :: r, h => by
  simp only [lookT] at h
  by_cases e : k = a
  ·rw [if_pos e] at h; cases h
  ·rw [if_neg e] at h
   have ih := setA_T (v := v) h
   simp only [towersE, List.map_cons, setA, eqB_n64, decide_eq_true_eq, e, if_false] at ih ⊢
   rw [ih]; rfl
theorem towersE_snoc (l : List (Int × Sum)) (k : Int) (s : Sum) : towersE l ++ [(n64 k, sumA s)] = towersE (l ++ [(k, s)]) := by simp [towersE]
theorem keysT_ok {P : Program} {T : TypeId} (h : tint P T = some .i64) (l : List (Int × Sum)) : (∀ p ∈ towersE l, keyOK P T p.1) = True := by
 simp only [eq_iff_iff, iff_true]
 intro p hp
 obtain ⟨q, _, rfl⟩ := List.mem_map.1 hp
 exact h
theorem shlen_spec (nx N : Nat) (b : Bk) (hN : N + 16 < nx) : FnSpec Tryz.prog 82 nx [.ref (N + 16) 42 [4]] [(N + 16, some (.robj (bookA b N)))] (n64 b.taken.length) [] 0 := by
 have hx := bkN hN
 refine FnSpec.of_code (cx := cx) (an := {}) (rs := [.tmp 2]) mo Tryz.func82 rfl rfl (by kernel_rfl) (by kernel_rfl) (by show 1 ≤ _; decide) (.inl rfl) (by simp [allWr, keys, Res.wr]) ?_
 repeat' (first | omega | assumption | (show AL.ahead _ _ _ = true; rfl) | (first | apply brF | apply brT | apply brVF | apply brVT) <;> intro _ | (with_reducible refine And.intro ?_ ?_) | (simp -dsimp -implicitDefEqProofs only [go_sem, bookA, chanA, refA, hx]))
theorem shput_no (nx N : Nat) (b : Bk) (x h : Sum) (hN : N + 16 < nx) (he : eqB (sumA (hashS x)) (sumA h) = false) :
  FnSpec Tryz.prog 83 nx [.ref (N + 16) 42 [4], sumA x, sumA h] [(N + 16, some (.robj (bookA b N)))] (n64 16) [] 0 := by
 have hx := bkN hN
 have hs := fun nc => shash_spec nc x
 simp only [sumA] at he
 refine FnSpec.of_code (cx := cx) (an := {}) (rs := [.tmp 6]) mo Tryz.func83 rfl rfl (by kernel_rfl) (by kernel_rfl) (by show 3 ≤ _; decide) (.inl rfl) (by simp [allWr, keys, Res.wr]) ?_
 repeat' (first | omega | assumption | (show AL.ahead _ _ _ = true; rfl) | (first | apply brF | apply brT | apply brVF | apply brVT) <;> intro _ | (with_reducible refine And.intro ?_ ?_) | (refine callK_by (hs _) ?_) | (simp -dsimp -implicitDefEqProofs only [go_sem, bookA, chanA, refA, hx, he, ↓cmp_sum, isSumT, decide_eq_true_eq, Bool.and_self]))
theorem shput_ok (nx N : Nat) (b : Bk) (x h : Sum) (hN : N + 16 < nx) (he : eqB (sumA (hashS x)) (sumA h) = true) (ht : b.taken.length ≤ 1000) :
  FnSpec Tryz.prog 83 nx [.ref (N + 16) 42 [4], sumA x, sumA h] [(N + 16, some (.obj (bookA b N))), (N + 11, some (.tail b.taken.length))] (n64 0) [(N + 16, some (.obj (bookA { b with taken := b.taken ++ [x] } N))), (N + 11, some (.tail (b.taken ++ [x]).length))] 0 := by
 have hx := bkN hN
 have hs := fun nc => shash_spec nc x
 have hsn := sums_snoc b.taken x
 simp only [sumA] at he
 refine FnSpec.of_code (cx := cx) (an := {}) (rs := [.tmp 6]) mo Tryz.func83 rfl rfl (by kernel_rfl) (by kernel_rfl) (by show 3 ≤ _; decide) (.inl rfl) (by simp [allWr, keys, Res.wr]) ?_
 repeat' (first | omega | assumption | (show AL.ahead _ _ _ = true; rfl) | (first | apply brF | apply brT | apply brVF | apply brVT) <;> intro _ | (with_reducible refine And.intro ?_ ?_) | (refine callK_by (hs _) ?_) | (simp -dsimp -implicitDefEqProofs only [go_sem, bookA, chanA, refA, hx, he, ↓cmp_sum, isSumT, decide_eq_true_eq, Bool.and_self, hsn]))
end Go.Proofs.YtaghcjbpjnpkbaaGreat

namespace Go.Proofs.YtaghcjbpjnpkbaaGreat
open Go Go.AL Go.Proofs.YtaghcjbpjnpkbaaGreat.T
attribute [local go_sem] nb_u8s u8s_length nb_sum sumA List.length_replicate zero_sum sum_h u8s_nil sums_len nb_sums states_len helds_len nb_states nb_helds signs_len nb_signs nb_keysT nb_valsT
def bkL (b : Bk) : Prop := b.states.length ≤ 1000 ∧ b.signs.length ≤ 1000 ∧ b.taken.length ≤ 1000 ∧ b.given ≤ 1000 ∧ b.held.length ≤ 1000 ∧ (b.opened = false → b.states = [] ∧ b.signs = [])
noncomputable def towerB (b : Bk) (r : BR) : Bk × Int :=
 if r.tower < 0 ∨ 16 ≤ r.tower ∨ eqB (sumA r.root) (sumA zeroS) = true then (b, 1)
 else match lookT r.tower b.towers with
  | some _ => (b, 8)
  | none => ({ b with towers := b.towers ++ [(r.tower, r.root)] }, 0)
theorem tower_spec (nx N : Nat) (b : Bk) (r : BR) (hN : N + 16 < nx) : FnSpec Tryz.prog 37 nx [.ref (N + 16) 0 [], brA r] (bookH b N) (n64 (towerB b r).2) (bookH (towerB b r).1 N) 0 := by
 have hx := bkN hN
 by_cases hb : r.tower < 0 ∨ 16 ≤ r.tower ∨ eqB (sumA r.root) (sumA zeroS) = true
 ·have e : towerB b r = (b, 1) := by unfold towerB; rw [if_pos hb]
  rw [e]
  by_cases hb2 : r.tower < 0 ∨ 16 ≤ r.tower
  ·refine FnSpec.of_code (cx := cx) (an := {}) (rs := [.tmp 4]) mo Tryz.func37 rfl rfl (by kernel_rfl) (by kernel_rfl) (by show 2 ≤ _; decide) (.inl rfl) (by simp [allWr, keys, Res.wr]) ?_
   repeat' (first | omega | assumption | (show AL.ahead _ _ _ = true; rfl) | (first | apply brF | apply brT | apply brVF | apply brVT) <;> intro _ | (with_reducible refine And.intro ?_ ?_) | (simp -dsimp -implicitDefEqProofs only [go_sem, bookH, bookA, brA, stateA, signA, srecA, recA, chanA, refA, hx, ↓cmp_sum, isSumT, decide_eq_true_eq, Bool.and_self, ↓keysT_ok]))
  ·have hz : eqB (sumA r.root) (sumA zeroS) = true := by
    rcases hb with h | h | h
    ·omega
    ·omega
    ·exact h
   simp only [sumA] at hz
   refine FnSpec.of_code (cx := cx) (an := {}) (rs := [.tmp 4]) mo Tryz.func37 rfl rfl (by kernel_rfl) (by kernel_rfl) (by show 2 ≤ _; decide) (.inl rfl) (by simp [allWr, keys, Res.wr]) ?_
   repeat' (first | omega | assumption | (show AL.ahead _ _ _ = true; rfl) | (first | apply brF | apply brT | apply brVF | apply brVT) <;> intro _ | (with_reducible refine And.intro ?_ ?_) | (simp -dsimp -implicitDefEqProofs only [go_sem, bookH, bookA, brA, stateA, signA, srecA, recA, chanA, refA, hx, ↓cmp_sum, isSumT, decide_eq_true_eq, Bool.and_self, ↓keysT_ok, hz]))
 ·have hz : eqB (sumA r.root) (sumA zeroS) = false := by
   cases h : eqB (sumA r.root) (sumA zeroS) with
   | true => exact absurd (.inr (.inr h)) hb
   | false => rfl
  simp only [sumA] at hz
  have hl := lookA_T r.tower b.towers
  cases hk : lookT r.tower b.towers with
  | some s =>
   have e : towerB b r = (b, 8) := by unfold towerB; rw [if_neg hb, hk]
   rw [e]
   rw [hk] at hl
   simp only [Option.map_some] at hl
   refine FnSpec.of_code (cx := cx) (an := {}) (rs := [.tmp 4]) mo Tryz.func37 rfl rfl (by kernel_rfl) (by kernel_rfl) (by show 2 ≤ _; decide) (.inl rfl) (by simp [allWr, keys, Res.wr]) ?_
   repeat' (first | omega | assumption | (show AL.ahead _ _ _ = true; rfl) | (first | apply brF | apply brT | apply brVF | apply brVT) <;> intro _ | (with_reducible refine And.intro ?_ ?_) | (simp -dsimp -implicitDefEqProofs only [go_sem, bookH, bookA, brA, stateA, signA, srecA, recA, chanA, refA, hx, ↓cmp_sum, isSumT, decide_eq_true_eq, Bool.and_self, ↓keysT_ok, hz, hl, Option.getD_some]))
  | none =>
   have e : towerB b r = ({ b with towers := b.towers ++ [(r.tower, r.root)] }, 0) := by unfold towerB; rw [if_neg hb, hk]
   rw [e]
   rw [hk] at hl
   simp only [Option.map_none] at hl
   have hs := setA_T (v := sumA r.root) hk
   rw [towersE_snoc] at hs
   simp only [sumA] at hs
   refine FnSpec.of_code (cx := cx) (an := {}) (rs := [.tmp 4]) mo Tryz.func37 rfl rfl (by kernel_rfl) (by kernel_rfl) (by show 2 ≤ _; decide) (.inl rfl) (by simp [allWr, keys, Res.wr]) ?_
   repeat' (first | omega | assumption | (show AL.ahead _ _ _ = true; rfl) | (first | apply brF | apply brT | apply brVF | apply brVT) <;> intro _ | (with_reducible refine And.intro ?_ ?_) | (simp -dsimp -implicitDefEqProofs only [go_sem, bookH, bookA, brA, stateA, signA, srecA, recA, chanA, refA, hx, ↓cmp_sum, isSumT, decide_eq_true_eq, Bool.and_self, ↓keysT_ok, hz, hl, hs, Option.getD_none]))
noncomputable def stateB (b : Bk) (r : BR) : Bk × Int :=
 if b.closing = true ∨ b.states.length ≠ b.given + 1 then (b, 9)
 else if stR b.chan r.state = false ∨ r.state.n ≠ b.states.length then (b, 1)
 else ({ b with states := b.states ++ [r.state] }, 0)
theorem states_snoc (l : List St_) (s : St_) : statesA l ++ [stateA s] = statesA (l ++ [s]) := by simp [statesA]
theorem bstate_spec (nx N : Nat) (b : Bk) (r : BR) (hN : N + 16 < nx) (hL : bkL b) : FnSpec Tryz.prog 38 nx [.ref (N + 16) 0 [], brA r] (bookH b N) (n64 (stateB b r).2) (bookH (stateB b r).1 N) 0 := by
 have hx := bkN hN
 obtain ⟨l1, l2, l3, l4, l5, _⟩ := hL
 have w1 : IntKind.i64.wrap ((b.given : Int) + 1) = ((b.given + 1 : Nat) : Int) := wrapE (by omega) (by omega)
 have hst := fun nc => stR_spec nc b.chan r.state
 have hsn := states_snoc b.states r.state
 simp only [chanA, refA, stateA, sumA] at hst hsn
 by_cases h1 : b.closing = true ∨ b.states.length ≠ b.given + 1
 ·have e : stateB b r = (b, 9) := by unfold stateB; rw [if_pos h1]
  rw [e]
  rcases h1 with h1 | h1
  ·refine FnSpec.of_code (cx := cx) (an := {}) (rs := [.tmp 4]) mo Tryz.func38 rfl rfl (by kernel_rfl) (by kernel_rfl) (by show 2 ≤ _; decide) (.inl rfl) (by simp [allWr, keys, Res.wr]) ?_
   repeat' (first | omega | assumption | (show AL.ahead _ _ _ = true; rfl) | (first | apply brF | apply brT | apply brVF | apply brVT) <;> intro _ | (with_reducible refine And.intro ?_ ?_) | (simp -dsimp -implicitDefEqProofs only [go_sem, bookH, bookA, brA, stateA, signA, srecA, recA, chanA, refA, hx, w1, h1]))
  ·refine FnSpec.of_code (cx := cx) (an := {}) (rs := [.tmp 4]) mo Tryz.func38 rfl rfl (by kernel_rfl) (by kernel_rfl) (by show 2 ≤ _; decide) (.inl rfl) (by simp [allWr, keys, Res.wr]) ?_
   repeat' (first | omega | assumption | (show AL.ahead _ _ _ = true; rfl) | (first | apply brF | apply brT | apply brVF | apply brVT) <;> intro _ | (with_reducible refine And.intro ?_ ?_) | (simp -dsimp -implicitDefEqProofs only [go_sem, bookH, bookA, brA, stateA, signA, srecA, recA, chanA, refA, hx, w1]))
 ·have hc : b.closing = false := by
   cases h : b.closing with
   | true => exact absurd (.inl h) h1
   | false => rfl
  have hlen : b.states.length = b.given + 1 := Classical.byContradiction fun h => h1 (.inr h)
  by_cases h2 : stR b.chan r.state = false ∨ r.state.n ≠ b.states.length
  ·have e : stateB b r = (b, 1) := by unfold stateB; rw [if_neg h1, if_pos h2]
   rw [e]
   rcases h2 with h2 | h2
   ·refine FnSpec.of_code (cx := cx) (an := {}) (rs := [.tmp 4]) mo Tryz.func38 rfl rfl (by kernel_rfl) (by kernel_rfl) (by show 2 ≤ _; decide) (.inl rfl) (by simp [allWr, keys, Res.wr]) ?_
    repeat' (first | omega | assumption | (show AL.ahead _ _ _ = true; rfl) | (first | apply brF | apply brT | apply brVF | apply brVT) <;> intro _ | (with_reducible refine And.intro ?_ ?_) | (refine callK_by (hst _) ?_) | (simp -dsimp -implicitDefEqProofs only [go_sem, bookH, bookA, brA, stateA, signA, srecA, recA, chanA, refA, hx, w1, hc, h2]))
   ·refine FnSpec.of_code (cx := cx) (an := {}) (rs := [.tmp 4]) mo Tryz.func38 rfl rfl (by kernel_rfl) (by kernel_rfl) (by show 2 ≤ _; decide) (.inl rfl) (by simp [allWr, keys, Res.wr]) ?_
    repeat' (first | omega | assumption | (show AL.ahead _ _ _ = true; rfl) | (first | apply brF | apply brT | apply brVF | apply brVT) <;> intro _ | (with_reducible refine And.intro ?_ ?_) | (refine callK_by (hst _) ?_) | (simp -dsimp -implicitDefEqProofs only [go_sem, bookH, bookA, brA, stateA, signA, srecA, recA, chanA, refA, hx, w1, hc]))
  ·have hs : stR b.chan r.state = true := by
    cases h : stR b.chan r.state with
    | false => exact absurd (.inl h) h2
    | true => rfl
   have hn : r.state.n = b.states.length := Classical.byContradiction fun h => h2 (.inr h)
   have e : stateB b r = ({ b with states := b.states ++ [r.state] }, 0) := by unfold stateB; rw [if_neg h1, if_neg h2]
   rw [e]
   refine FnSpec.of_code (cx := cx) (an := {}) (rs := [.tmp 4]) mo Tryz.func38 rfl rfl (by kernel_rfl) (by kernel_rfl) (by show 2 ≤ _; decide) (.inl rfl) (by simp [allWr, keys, Res.wr]) ?_
   repeat' (first | omega | assumption | (show AL.ahead _ _ _ = true; rfl) | (first | apply brF | apply brT | apply brVF | apply brVT) <;> intro _ | (with_reducible refine And.intro ?_ ?_) | (refine callK_by (hst _) ?_) | (simp -dsimp -implicitDefEqProofs only [go_sem, bookH, bookA, brA, stateA, signA, srecA, recA, chanA, refA, hx, w1, hsn, hc, hs]))
end Go.Proofs.YtaghcjbpjnpkbaaGreat

namespace Go.Proofs.YtaghcjbpjnpkbaaGreat
open Go Go.AL Go.Proofs.YtaghcjbpjnpkbaaGreat.T
attribute [local go_sem] nb_u8s u8s_length nb_sum sumA List.length_replicate zero_sum sum_h u8s_nil sums_len nb_sums states_len helds_len nb_states nb_helds signs_len nb_signs nb_keysT nb_valsT
noncomputable def beginB (b : Bk) (r : BR) : Bk × Int :=
 if b.opened = true then (b, 8)
 else if stR r.chan r.state = false ∨ r.state.n ≠ 0 then (b, 1)
 else ({ b with chan := r.chan, opened := true, states := [r.state], signs := [r.sign] }, 0)
theorem begin_spec (nx N : Nat) (b : Bk) (r : BR) (hN : N + 16 < nx) (hL : bkL b) : FnSpec Tryz.prog 36 nx [.ref (N + 16) 0 [], brA r] (bookH b N) (n64 (beginB b r).2) (bookH (beginB b r).1 N) 0 := by
 have hx := bkN hN
 obtain ⟨l1, l2, l3, l4, l5, l6⟩ := hL
 have hst := fun nc => stR_spec nc r.chan r.state
 simp only [chanA, refA, stateA, sumA] at hst
 cases ho : b.opened with
 | true =>
  have e : beginB b r = (b, 8) := by unfold beginB; rw [if_pos ho]
  rw [e]
  refine FnSpec.of_code (cx := cx) (an := {}) (rs := [.tmp 4]) mo Tryz.func36 rfl rfl (by kernel_rfl) (by kernel_rfl) (by show 2 ≤ _; decide) (.inl rfl) (by simp [allWr, keys, Res.wr]) ?_
  repeat' (first | omega | assumption | (show AL.ahead _ _ _ = true; rfl) | (first | apply brF | apply brT | apply brVF | apply brVT) <;> intro _ | (with_reducible refine And.intro ?_ ?_) | (simp -dsimp -implicitDefEqProofs only [go_sem, bookH, bookA, brA, stateA, signA, srecA, recA, chanA, refA, hx, ho]))
 | false =>
  have hno : ¬ b.opened = true := by rw [ho]; decide
  by_cases h2 : stR r.chan r.state = false ∨ r.state.n ≠ 0
  ·have e : beginB b r = (b, 1) := by unfold beginB; rw [if_neg hno, if_pos h2]
   rw [e]
   rcases h2 with h2 | h2
   ·refine FnSpec.of_code (cx := cx) (an := {}) (rs := [.tmp 4]) mo Tryz.func36 rfl rfl (by kernel_rfl) (by kernel_rfl) (by show 2 ≤ _; decide) (.inl rfl) (by simp [allWr, keys, Res.wr]) ?_
    repeat' (first | omega | assumption | (show AL.ahead _ _ _ = true; rfl) | (first | apply brF | apply brT | apply brVF | apply brVT) <;> intro _ | (with_reducible refine And.intro ?_ ?_) | (refine callK_by (hst _) ?_) | (simp -dsimp -implicitDefEqProofs only [go_sem, bookH, bookA, brA, stateA, signA, srecA, recA, chanA, refA, hx, ho, h2]))
   ·refine FnSpec.of_code (cx := cx) (an := {}) (rs := [.tmp 4]) mo Tryz.func36 rfl rfl (by kernel_rfl) (by kernel_rfl) (by show 2 ≤ _; decide) (.inl rfl) (by simp [allWr, keys, Res.wr]) ?_
    repeat' (first | omega | assumption | (show AL.ahead _ _ _ = true; rfl) | (first | apply brF | apply brT | apply brVF | apply brVT) <;> intro _ | (with_reducible refine And.intro ?_ ?_) | (refine callK_by (hst _) ?_) | (simp -dsimp -implicitDefEqProofs only [go_sem, bookH, bookA, brA, stateA, signA, srecA, recA, chanA, refA, hx, ho]))
  ·have hs : stR r.chan r.state = true := by
    cases h : stR r.chan r.state with
    | false => exact absurd (.inl h) h2
    | true => rfl
   have hn : r.state.n = 0 := Classical.byContradiction fun h => h2 (.inr h)
   have e : beginB b r = ({ b with chan := r.chan, opened := true, states := [r.state], signs := [r.sign] }, 0) := by unfold beginB; rw [if_neg hno, if_neg h2]
   rw [e]
   obtain ⟨s1, s2⟩ := l6 ho
   have key : FnSpec Tryz.prog 36 nx [.ref (N + 16) 0 [], brA r] [(N + 16, some (.obj (bookA b N))), (N, some (.mp (towersE b.towers))), (N + 11, some (.tail b.taken.length)), (N + 12, some (.tail b.held.length))] (n64 0) [(N + 16, some (.obj (.agg 47 [chanA r.chan, bA true, .sl 67 [stateA r.state] 1, .sl 33 [signA r.sign] 1, .agg 1 [.sl 32 (sumsA b.taken) (N + 13)], n64 b.given, .sl 69 (heldsA b.held) (N + 14), .map N, bA b.closing]))), (N, some (.mp (towersE b.towers))), (N + 11, some (.tail b.taken.length)), (N + 12, some (.tail b.held.length))] 0 := by
    refine FnSpec.of_code (cx := cx) (an := {}) (rs := [.tmp 4]) mo Tryz.func36 rfl rfl (by kernel_rfl) (by kernel_rfl) (by show 2 ≤ _; decide) (.inl rfl) (by simp [allWr, keys, Res.wr]) ?_
    repeat' (first | omega | assumption | (show AL.ahead _ _ _ = true; rfl) | (first | apply brF | apply brT | apply brVF | apply brVT) <;> intro _ | (with_reducible refine And.intro ?_ ?_) | (refine callK_by (hst _) ?_) | (simp -dsimp -implicitDefEqProofs only [go_sem, bookH, bookA, brA, stateA, signA, srecA, recA, chanA, refA, hx, ho, hs]))
   have k1 := key.frame (Hb := bookH b N) (fun n r h => by
    simp only [bookH, Heap.get] at h ⊢
    repeat' split at h
    all_goals first | (cases h; done) | skip
    all_goals (repeat' split)
    all_goals first | exact h | omega)
   have k2 := k1.wrle (a' := bookA { b with chan := r.chan, opened := true, states := [r.state], signs := [r.sign] } N) ⟨_, rfl, _, _, rfl, AV.le_refl _, _, _, rfl, AV.le_refl _, _, _, rfl, ⟨_, _, rfl, AV.les_refl _, .inr (.inr rfl)⟩, _, _, rfl, ⟨_, _, rfl, AV.les_refl _, .inr (.inr rfl)⟩, AV.les_refl _⟩
   have k3 := k2.bump (q := N + 10) (e := 0) (e' := 1) (by simp [bookH, Heap.get, s2]) (by simp [keys]) (by decide)
   have k4 := k3.bump (q := N + 9) (e := 0) (e' := 1) (by simp [bookH, Heap.get, s1]) (by simp [keys]) (by decide)
   refine k4.perm (fun n => ?_) (fun n => ?_)
   ·simp only [bookH, Heap.get, List.length_cons, List.length_nil, Nat.zero_add]
    repeat' split
    all_goals first | rfl | omega
   ·simp only [bookH, keys, List.map_cons, List.map_nil, List.mem_cons, List.not_mem_nil, or_false]
    omega
noncomputable def takeB (b : Bk) (r : BR) : Bk × Int :=
 if b.states.length ≠ b.given + 2 ∨ b.taken.length ≠ b.given then (b, 9)
 else if eqB (sumA (hashS r.secret)) (sumA ((b.states[b.given]?).getD ⟨0, 0, 0, zeroS, zeroS⟩).h1) = false then (b, 16)
 else ({ b with taken := b.taken ++ [r.secret], signs := b.signs ++ [r.sign] }, 0)
theorem bksigns_snoc (l : List Sign_) (s : Sign_) : signsA l ++ [signA s] = signsA (l ++ [s]) := by simp [signsA]
theorem states_get {l : List St_} {i : Nat} (h : i < l.length) : (statesA l).getD i .undef = stateA ((l[i]?).getD ⟨0, 0, 0, zeroS, zeroS⟩) := by simp [statesA, List.getD_eq_getElem?_getD, List.getElem?_map, List.getElem?_eq_getElem h]
theorem bktake_spec (nx N : Nat) (b : Bk) (r : BR) (hN : N + 16 < nx) (hL : bkL b) : FnSpec Tryz.prog 39 nx [.ref (N + 16) 0 [], brA r] (bookH b N) (n64 (takeB b r).2) (bookH (takeB b r).1 N) 0 := by
 have hx := bkN hN
 obtain ⟨l1, l2, l3, l4, l5, l6⟩ := hL
 have w1 : IntKind.i64.wrap ((b.given : Int) + 2) = ((b.given + 2 : Nat) : Int) := wrapE (by omega) (by omega)
 have hln := fun nc (h : nx ≤ nc) => shlen_spec nc N b (by omega)
 have hsn := bksigns_snoc b.signs r.sign
 by_cases h1 : b.states.length ≠ b.given + 2 ∨ b.taken.length ≠ b.given
 ·have e : takeB b r = (b, 9) := by unfold takeB; rw [if_pos h1]
  rw [e]
  simp only [bookA, chanA, refA] at hln
  refine FnSpec.of_code (cx := cx) (an := {}) (rs := [.tmp 4]) mo Tryz.func39 rfl rfl (by kernel_rfl) (by kernel_rfl) (by show 2 ≤ _; decide) (.inl rfl) (by simp [allWr, keys, Res.wr]) ?_
  repeat' (first | omega | assumption | (show AL.ahead _ _ _ = true; rfl) | (first | apply brF | apply brT | apply brVF | apply brVT) <;> intro _ | (with_reducible refine And.intro ?_ ?_) | (refine callK_by (hln _ (by omega)) ?_) | (simp -dsimp -implicitDefEqProofs only [go_sem, bookH, bookA, brA, stateA, signA, srecA, recA, chanA, refA, hx, w1]))
 ·have hlen : b.states.length = b.given + 2 := by omega
  have htl : b.taken.length = b.given := by omega
  have hg := states_get (l := b.states) (i := b.given) (by omega)
  generalize hq : (b.states[b.given]?).getD ⟨0, 0, 0, zeroS, zeroS⟩ = q at *
  cases h2 : eqB (sumA (hashS r.secret)) (sumA q.h1) with
  | false =>
   have e : takeB b r = (b, 16) := by unfold takeB; rw [if_neg h1, hq, if_pos h2]
   rw [e]
   have hp := fun nc (h : nx ≤ nc) => shput_no nc N b r.secret q.h1 (by omega) h2
   simp only [bookA, chanA, refA] at hln hp
   simp only [stateA] at hg
   refine FnSpec.of_code (cx := cx) (an := {}) (rs := [.tmp 4]) mo Tryz.func39 rfl rfl (by kernel_rfl) (by kernel_rfl) (by show 2 ≤ _; decide) (.inl rfl) (by simp [allWr, keys, Res.wr]) ?_
   repeat' (first | omega | assumption | (show AL.ahead _ _ _ = true; rfl) | (first | apply brF | apply brT | apply brVF | apply brVT) <;> intro _ | (with_reducible refine And.intro ?_ ?_) | (refine callK_by (hln _ (by omega)) ?_) | (refine callK_by (hp _ (by omega)) ?_) | (simp -dsimp -implicitDefEqProofs only [go_sem, bookH, bookA, brA, stateA, signA, srecA, recA, chanA, refA, hx, w1, hg]))
  | true =>
   have e : takeB b r = ({ b with taken := b.taken ++ [r.secret], signs := b.signs ++ [r.sign] }, 0) := by unfold takeB; rw [if_neg h1, hq, h2]; rfl
   rw [e]
   have hp := fun nc (h : nx ≤ nc) => shput_ok nc N b r.secret q.h1 (by omega) h2 l3
   simp only [bookA, chanA, refA] at hln hp
   simp only [stateA] at hg
   simp only [signA, sumA] at hsn
   refine FnSpec.of_code (cx := cx) (an := {}) (rs := [.tmp 4]) mo Tryz.func39 rfl rfl (by kernel_rfl) (by kernel_rfl) (by show 2 ≤ _; decide) (.inl rfl) (by simp [allWr, keys, Res.wr]) ?_
   repeat' (first | omega | assumption | (show AL.ahead _ _ _ = true; rfl) | (first | apply brF | apply brT | apply brVF | apply brVT) <;> intro _ | (with_reducible refine And.intro ?_ ?_) | (refine callK_by (hln _ (by omega)) ?_) | (refine callK_by (hp _ (by omega)) ?_) | (simp -dsimp -implicitDefEqProofs only [go_sem, bookH, bookA, brA, stateA, signA, srecA, recA, chanA, refA, hx, w1, hg, hsn]))
end Go.Proofs.YtaghcjbpjnpkbaaGreat

namespace Go.Proofs.YtaghcjbpjnpkbaaGreat
open Go Go.AL Go.Proofs.YtaghcjbpjnpkbaaGreat.T
def idxP {α : Type} (p : α → Bool) (l : List α) : Int := if l.any p then (l.findIdx p : Nat) else -1
theorem idxP_hit {α : Type} {p : α → Bool} {l : List α} {i : Nat} (h : i < l.length) (hp : p l[i] = true) (hb : ∀ j (hj : j < l.length), j < i → p l[j] = false) : idxP p l = i := by
  unfold idxP
  rw [if_pos (List.any_eq_true.2 ⟨_, List.getElem_mem h, hp⟩), (List.findIdx_eq h).2 ⟨hp, fun j hj => hb j (by omega) hj⟩]
theorem idxP_miss {α : Type} {p : α → Bool} {l : List α} (hb : ∀ j (hj : j < l.length), p l[j] = false) : idxP p l = -1 := by
  unfold idxP
  rw [if_neg (fun h => by
    obtain ⟨x, hx, hp⟩ := List.any_eq_true.1 h
    obtain ⟨j, hj, rfl⟩ := List.getElem_of_mem hx
    rw [hb j hj] at hp; cases hp)]
theorem idxP_any {α : Type} {p : α → Bool} {l : List α} : decide (0 ≤ idxP p l) = l.any p := by
  unfold idxP
  cases h : l.any p <;> simp
attribute [local go_sem] nb_u8s u8s_length nb_sum sumA List.length_replicate zero_sum sum_h u8s_nil sums_len nb_sums states_len helds_len nb_states nb_helds signs_len nb_signs nb_keysT nb_valsT
theorem cloneB_nil (nx t : Nat) : FnSpec Tryz.prog 87 nx [.sl 1 [] t] [] (.sl 1 [] 0) [] 0 := by
  refine FnSpec.empty fun b n => ?_
  cases b with
  | none =>
    have h : FnSpec Tryz.prog 87 nx [.val (.slice none 0 n)] [] (.sl 0 [] 1) [] 0 := by
      refine FnSpec.of_code (cx := cx) (an := {}) (rs := [.tmp 2]) mo Tryz.func87 rfl rfl (by kernel_rfl) (by kernel_rfl) (by show 1 ≤ _; decide) (.inl rfl) (by simp [allWr, keys, Res.wr]) ?_
      repeat' (first | omega | assumption | (show AL.ahead _ _ _ = true; rfl) | (first | apply brF | apply brT | apply brVF | apply brVT) <;> intro _ | (with_reducible refine And.intro ?_ ?_) | (simp -dsimp -implicitDefEqProofs only [go_sem, Option.isNone_none]))
    exact h.forget0 ⟨rfl, .inr ⟨.inr rfl, .inl rfl⟩⟩ (by simp [AV.nb, AV.nbs]) (by simp [keys])
  | some a =>
    have h : FnSpec Tryz.prog 87 nx [.val (.slice (some a) 0 n)] [] (.sl 1 [] (nx + 42)) [(nx + 40, some (.tail 0))] 60 := by
      refine FnSpec.of_code (cx := cx) (an := {}) (rs := [.tmp 2]) mo Tryz.func87 rfl rfl (by kernel_rfl) (by kernel_rfl) (by show 1 ≤ _; decide) (.inl rfl) (by simp [allWr, keys, Res.wr]) ?_
      repeat' (first | omega | assumption | (show AL.ahead _ _ _ = true; rfl) | (first | apply brF | apply brT | apply brVF | apply brVT) <;> intro _ | (with_reducible refine And.intro ?_ ?_) | (simp -dsimp -implicitDefEqProofs only [go_sem, Option.isNone_some]))
    exact h.forget0 ⟨rfl, .inr ⟨.inl rfl, .inl rfl⟩⟩ (by simp [AV.nb, AV.nbs]) (by simp [keys])
theorem cloneB_spec (nx : Nat) (l : List UInt8) (hl : l.length < 2 ^ 40) : FnSpec Tryz.prog 87 nx [.sl 1 (u8s l) 0] [] (.sl 1 (u8s l) 0) [] 0 := by
  cases l with
  | nil => exact cloneB_nil nx 0
  | cons a l =>
    have e : u8s (a :: l) = u8 a :: u8s l := rfl
    simp only [List.length_cons] at hl
    have h : FnSpec Tryz.prog 87 nx [.sl 1 (u8s (a :: l)) 0] [] (.sl 1 (u8s (a :: l)) (nx + 42)) [(nx + 40, some (.tail (u8s (a :: l)).length))] 60 := by
      rw [e]
      refine FnSpec.of_code (cx := cx) (an := {}) (rs := [.tmp 2]) mo Tryz.func87 rfl rfl (by kernel_rfl) (by kernel_rfl) (by show 1 ≤ _; decide) (.inl rfl) (by simp [allWr, keys, Res.wr]) ?_
      repeat' (first | omega | assumption | (show AL.ahead _ _ _ = true; rfl) | (first | apply brF | apply brT | apply brVF | apply brVT) <;> intro _ | (with_reducible refine And.intro ?_ ?_) | (simp -dsimp -implicitDefEqProofs only [go_sem, u8]))
    exact h.forget0 ⟨rfl, .inr ⟨.inl rfl, .inl rfl⟩⟩ (by simp [AV.nb, nb_u8s]) (by simp [keys])
abbrev sameH (x : SRec) (h : Held_) : Bool := decide (h.rec_.state = x.rec_.state) && decide (h.rec_.tower = x.rec_.tower)
theorem rc1_spec (nx m : Nat) (x : SRec) (h : Held_) (hm : m < nx) : FnSpec Tryz.prog 86 nx [heldA h, .ref m 0 []] [(m, some (.robj (srecA x)))] (bA (sameH x h)) [] 0 := by
  have x1 := fun k => lt_nx hm k
  have x2 := fun k => nx_gt hm k
  refine FnSpec.of_code (cx := cx) (an := {}) (rs := [.tmp 3]) mo Tryz.func86 rfl rfl (by kernel_rfl) (by kernel_rfl) (by show 2 ≤ _; decide) (.inl rfl) (by simp [allWr, keys, Res.wr]) ?_
  repeat' (first | omega | assumption | (show AL.ahead _ _ _ = true; rfl) | (first | apply brF | apply brT | apply brVF | apply brVT) <;> intro _ | (with_reducible refine And.intro ?_ ?_) | (simp -dsimp -implicitDefEqProofs only [go_sem, heldA, recA, srecA, x1, x2]))
  all_goals first
    | (rename_i hx; simp only [bA, sameH]; rw [decide_eq_true hx, Bool.true_and])
    | (rename_i hx; simp only [bA, sameH]; rw [decide_eq_false hx, Bool.false_and])
   
theorem helds_get {l : List Held_} {i : Nat} (h : i < l.length) : (heldsA l).getD i .undef = heldA l[i] := by simp [heldsA, List.getD_eq_getElem?_getD, List.getElem?_map, List.getElem?_eq_getElem h]
theorem idxH_spec (nx m t : Nat) (x : SRec) (l : List Held_) (hm : m < nx) (hl : l.length < 2 ^ 40) (ht : t < 2 ∨ t - 2 < nx) : FnSpec Tryz.prog 129 nx [.sl 69 (heldsA l) t, .clos 86 [.ref m 0 []]] [(m, some (.robj (srecA x)))] (n64 (idxP (sameH x) l)) [] 0 := by
  have x1 := fun k => lt_nx hm k
  have x2 := fun k => nx_gt hm k
  refine FnSpec.of_code (cx := cx) (an := {}) (rs := [.tmp 4]) mo Tryz.func129 rfl rfl (by kernel_rfl) (by kernel_rfl) (by show 2 ≤ _; decide) (.inl rfl) (by simp [allWr, keys, Res.wr]) ?_
  repeat' (first | omega | assumption | (show AL.ahead _ _ _ = true; rfl) | (first | apply brF | apply brT | apply brVF | apply brVT) <;> intro _ | (with_reducible refine And.intro ?_ ?_) | (simp -dsimp -implicitDefEqProofs only [go_sem]))
  apply loop_keep [0, 1, 7] (fun i : { i : Nat // i ≤ l.length ∧ ∀ j (hj : j < l.length), j < i → sameH x l[j] = false } => [(8, n64 i.1)]) (fun _ => [(m, some (.robj (srecA x)))]) (fun i => l.length - i.1) ⟨0, Nat.zero_le _, fun j _ hj => absurd hj (Nat.not_lt_zero _)⟩
  · simp -dsimp -implicitDefEqProofs only [go_sem]; rfl
  · simp -dsimp -implicitDefEqProofs only [go_sem]; try rfl
  · simp -dsimp -implicitDefEqProofs only [go_sem]; try rfl
  · intro s
    simp -dsimp -implicitDefEqProofs only [go_sem, srecA, recA]
    try omega
  · rintro ⟨i, hi, hall⟩
    have hi : i ≤ l.length := hi
    simp -dsimp -implicitDefEqProofs only [go_sem]
    refine brT (fun hc => ?_) (fun hc => ?_)
    · have hi2 : i < l.length := by omega
      have q1 := helds_get hi2
      have w1 : IntKind.i64.wrap ((i : Int) + 1) = ((i + 1 : Nat) : Int) := wrapE (by omega) (by omega)
      have hr := fun nc (h : m < nc) => rc1_spec nc m x l[i] h
      simp only [heldA, recA, srecA] at hr q1
      repeat' (first | omega | assumption | (show AL.ahead _ _ _ = true; rfl) | (first | apply brF | apply brT | apply brVF | apply brVT) <;> intro _ | (with_reducible refine And.intro ?_ ?_) | (refine callK_by (hr _ (by omega)) ?_) | (simp -dsimp -implicitDefEqProofs only [go_sem, q1, w1, srecA, recA, x1, x2]))
      all_goals first
        | (rename_i hx
           have e : idxP (sameH x) l = i := idxP_hit hi2 hx (fun j h1 h2 => hall j h1 h2)
           rw [e])
        | (rename_i hx
           refine ⟨⟨i + 1, hi2, fun j hj1 hj2 => ?_⟩, by show l.length - (i + 1) < l.length - i; omega, rfl⟩
           by_cases hj3 : j < i
           · exact hall j hj1 hj3
           · have e : j = i := by omega
             subst e
             exact hx)
       
    · have e : i = l.length := by omega
      subst e
      repeat' (first | omega | assumption | (show AL.ahead _ _ _ = true; rfl) | (first | apply brF | apply brT | apply brVF | apply brVT) <;> intro _ | (with_reducible refine And.intro ?_ ?_) | (simp -dsimp -implicitDefEqProofs only [go_sem]))
      have e : idxP (sameH x) l = -1 := idxP_miss (fun j hj => hall j hj hj)
      rw [e]
theorem hasH_spec (nx m t : Nat) (x : SRec) (l : List Held_) (hm : m < nx) (hl : l.length < 2 ^ 40) (ht : t < 2 ∨ t - 2 < nx) : FnSpec Tryz.prog 85 nx [.sl 69 (heldsA l) t, .clos 86 [.ref m 0 []]] [(m, some (.robj (srecA x)))] (bA (l.any (sameH x))) [] 0 := by
  have hi := fun nc (h : nx ≤ nc) => idxH_spec nc m t x l (by omega) hl (by omega)
  simp only [srecA, recA] at hi
  refine FnSpec.of_code (cx := cx) (an := {}) (rs := [.tmp 4]) mo Tryz.func85 rfl rfl (by kernel_rfl) (by kernel_rfl) (by show 2 ≤ _; decide) (.inl rfl) (by simp [allWr, keys, Res.wr]) ?_
  repeat' (first | omega | assumption | (show AL.ahead _ _ _ = true; rfl) | (first | apply brF | apply brT | apply brVF | apply brVT) <;> intro _ | (with_reducible refine And.intro ?_ ?_) | (refine callK_by (hi _ (by omega)) ?_) | (simp -dsimp -implicitDefEqProofs only [go_sem, srecA, recA]))
  all_goals rw [idxP_any]
end Go.Proofs.YtaghcjbpjnpkbaaGreat

namespace Go.Proofs.YtaghcjbpjnpkbaaGreat
open Go Go.AL Go.Proofs.YtaghcjbpjnpkbaaGreat.T
attribute [local go_sem] nb_u8s u8s_length nb_sum sumA List.length_replicate zero_sum sum_h u8s_nil sums_len nb_sums states_len helds_len nb_states nb_helds signs_len nb_signs nb_keysT nb_valsT
noncomputable def receiptB (b : Bk) (r : BR) : Bk × Int :=
 if b.taken.length ≠ b.given + 1 ∨ r.receipt.rec_.state ≠ b.given ∨ r.receipt.rec_.channel ≠ b.chan.id then (b, 9)
 else match lookT r.receipt.rec_.tower b.towers with
  | none => (b, 21)
  | some root => if goodB root r.receipt = false then (b, 11)
   else if b.held.any (sameH r.receipt) = true then (b, 8)
   else ({ b with held := b.held ++ [⟨r.receipt.rec_, r.receipt.sig, r.blob⟩] }, 0)
theorem helds_snoc (l : List Held_) (h : Held_) : heldsA l ++ [heldA h] = heldsA (l ++ [h]) := by simp [heldsA]
def brL (r : BR) : Prop := r.receipt.sig.length < 2 ^ 40 ∧ r.blob.length < 2 ^ 40
theorem receipt_spec (nx N : Nat) (b : Bk) (r : BR) (hN : N + 16 < nx) (hL : bkL b) (hr : brL r) : FnSpec Tryz.prog 40 nx [.ref (N + 16) 0 [], brA r] (bookH b N) (n64 (receiptB b r).2) (bookH (receiptB b r).1 N) 0 := by
 have hx := bkN hN
 obtain ⟨l1, l2, l3, l4, l5, l6⟩ := hL
 obtain ⟨r1, r2⟩ := hr
 have w1 : IntKind.i64.wrap ((b.given : Int) + 1) = ((b.given + 1 : Nat) : Int) := wrapE (by omega) (by omega)
 have hln := fun nc (h : nx ≤ nc) => shlen_spec nc N b (by omega)
 have hl := lookA_T r.receipt.rec_.tower b.towers
 simp only [bookA, chanA, refA] at hln
 by_cases h1 : b.taken.length ≠ b.given + 1 ∨ r.receipt.rec_.state ≠ b.given ∨ r.receipt.rec_.channel ≠ b.chan.id
 ·have e : receiptB b r = (b, 9) := by unfold receiptB; rw [if_pos h1]
  rw [e]
  cases hk : lookT r.receipt.rec_.tower b.towers with
  | none =>
   rw [hk] at hl
   simp only [Option.map_none] at hl
   refine FnSpec.of_code (cx := cx) (an := {}) (rs := [.tmp 4]) mo Tryz.func40 rfl rfl (by kernel_rfl) (by kernel_rfl) (by show 2 ≤ _; decide) (.inl rfl) (by simp [allWr, keys, Res.wr]) ?_
   repeat' (first | omega | assumption | (show AL.ahead _ _ _ = true; rfl) | (first | apply brF | apply brT | apply brVF | apply brVT) <;> intro _ | (with_reducible refine And.intro ?_ ?_) | (refine callK_by (hln _ (by omega)) ?_) | (simp -dsimp -implicitDefEqProofs only [go_sem, bookH, bookA, brA, stateA, signA, srecA, recA, chanA, refA, hx, w1, ↓keysT_ok, hl, Option.getD_none]))
  | some s =>
   rw [hk] at hl
   simp only [Option.map_some] at hl
   refine FnSpec.of_code (cx := cx) (an := {}) (rs := [.tmp 4]) mo Tryz.func40 rfl rfl (by kernel_rfl) (by kernel_rfl) (by show 2 ≤ _; decide) (.inl rfl) (by simp [allWr, keys, Res.wr]) ?_
   repeat' (first | omega | assumption | (show AL.ahead _ _ _ = true; rfl) | (first | apply brF | apply brT | apply brVF | apply brVT) <;> intro _ | (with_reducible refine And.intro ?_ ?_) | (refine callK_by (hln _ (by omega)) ?_) | (simp -dsimp -implicitDefEqProofs only [go_sem, bookH, bookA, brA, stateA, signA, srecA, recA, chanA, refA, hx, w1, ↓keysT_ok, hl, Option.getD_some]))
 ·cases hk : lookT r.receipt.rec_.tower b.towers with
  | none =>
   have e : receiptB b r = (b, 21) := by unfold receiptB; rw [if_neg h1, hk]
   rw [e]
   rw [hk] at hl
   simp only [Option.map_none] at hl
   refine FnSpec.of_code (cx := cx) (an := {}) (rs := [.tmp 4]) mo Tryz.func40 rfl rfl (by kernel_rfl) (by kernel_rfl) (by show 2 ≤ _; decide) (.inl rfl) (by simp [allWr, keys, Res.wr]) ?_
   repeat' (first | omega | assumption | (show AL.ahead _ _ _ = true; rfl) | (first | apply brF | apply brT | apply brVF | apply brVT) <;> intro _ | (with_reducible refine And.intro ?_ ?_) | (refine callK_by (hln _ (by omega)) ?_) | (simp -dsimp -implicitDefEqProofs only [go_sem, bookH, bookA, brA, stateA, signA, srecA, recA, chanA, refA, hx, w1, ↓keysT_ok, hl, Option.getD_none]))
  | some s =>
   rw [hk] at hl
   simp only [Option.map_some] at hl
   have hgd := fun nc => good_spec nc s r.receipt r1
   simp only [srecA, recA, sumA] at hgd hl
   cases h2 : goodB s r.receipt with
   | false =>
    have e : receiptB b r = (b, 11) := by unfold receiptB; rw [if_neg h1, hk]; simp only [h2, if_true]
    rw [e]
    rw [h2] at hgd
    refine FnSpec.of_code (cx := cx) (an := {}) (rs := [.tmp 4]) mo Tryz.func40 rfl rfl (by kernel_rfl) (by kernel_rfl) (by show 2 ≤ _; decide) (.inl rfl) (by simp [allWr, keys, Res.wr]) ?_
    repeat' (first | omega | assumption | (show AL.ahead _ _ _ = true; rfl) | (first | apply brF | apply brT | apply brVF | apply brVT) <;> intro _ | (with_reducible refine And.intro ?_ ?_) | (refine callK_by (hln _ (by omega)) ?_) | (refine callK_by (hgd _) ?_) | (simp -dsimp -implicitDefEqProofs only [go_sem, bookH, bookA, brA, stateA, signA, srecA, recA, chanA, refA, hx, w1, ↓keysT_ok, hl, Option.getD_some]))
   | true =>
    have hha := fun nc (h : nx + 32 < nc) => hasH_spec nc (nx + 32) (N + 14) r.receipt b.held h (by omega) (by omega)
    simp only [srecA, recA, sumA] at hha
    rw [h2] at hgd
    cases h3 : b.held.any (sameH r.receipt) with
    | true =>
     have e : receiptB b r = (b, 8) := by unfold receiptB; rw [if_neg h1, hk]; simp only [h2, h3, if_true, Bool.true_eq_false, if_false]
     rw [e]
     rw [h3] at hha
     refine FnSpec.of_code (cx := cx) (an := {}) (rs := [.tmp 4]) mo Tryz.func40 rfl rfl (by kernel_rfl) (by kernel_rfl) (by show 2 ≤ _; decide) (.inl rfl) (by simp [allWr, keys, Res.wr]) ?_
     repeat' (first | omega | assumption | (show AL.ahead _ _ _ = true; rfl) | (first | apply brF | apply brT | apply brVF | apply brVT) <;> intro _ | (with_reducible refine And.intro ?_ ?_) | (refine callK_by (hln _ (by omega)) ?_) | (refine callK_by (hgd _) ?_) | (refine callK_by (hha _ (by omega)) ?_) | (simp -dsimp -implicitDefEqProofs only [go_sem, bookH, bookA, brA, stateA, signA, srecA, recA, chanA, refA, hx, w1, ↓keysT_ok, hl, Option.getD_some]))
    | false =>
     have e : receiptB b r = ({ b with held := b.held ++ [⟨r.receipt.rec_, r.receipt.sig, r.blob⟩] }, 0) := by unfold receiptB; rw [if_neg h1, hk]; simp only [h2, h3, Bool.true_eq_false, Bool.false_eq_true, if_false]
     rw [e]
     rw [h3] at hha
     have hcl := fun nc => cloneB_spec nc r.blob r2
     have hsn := helds_snoc b.held ⟨r.receipt.rec_, r.receipt.sig, r.blob⟩
     simp only [heldA, recA, sumA] at hsn
     refine FnSpec.of_code (cx := cx) (an := {}) (rs := [.tmp 4]) mo Tryz.func40 rfl rfl (by kernel_rfl) (by kernel_rfl) (by show 2 ≤ _; decide) (.inl rfl) (by simp [allWr, keys, Res.wr]) ?_
     repeat' (first | omega | assumption | (show AL.ahead _ _ _ = true; rfl) | (first | apply brF | apply brT | apply brVF | apply brVT) <;> intro _ | (with_reducible refine And.intro ?_ ?_) | (refine callK_by (hln _ (by omega)) ?_) | (refine callK_by (hgd _) ?_) | (refine callK_by (hha _ (by omega)) ?_) | (refine callK_by (hcl _) ?_) | (simp -dsimp -implicitDefEqProofs only [go_sem, bookH, bookA, brA, stateA, signA, srecA, recA, chanA, refA, hx, w1, ↓keysT_ok, hl, hsn, Option.getD_some]))
end Go.Proofs.YtaghcjbpjnpkbaaGreat

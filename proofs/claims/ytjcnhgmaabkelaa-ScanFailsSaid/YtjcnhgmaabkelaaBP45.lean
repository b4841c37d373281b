/-
  Books: what they hold; a new one; none; the shelf.
-/
import Derived.Test.YtjcnhgmaabkelaaBP42
import Derived.Test.YtjcnhgmaabkelaaBP16
import Derived.Test.YtjcnhgmaabkelaaAL27
set_option linter.unusedSimpArgs false
set_option linter.unusedVariables false
set_option maxRecDepth 100000
set_option maxHeartbeats 1000000
namespace Go.Proofs.Ytjcnhgmaabkelaa
open Go Go.AL Go.Proofs.Ytjcnhgmaabkelaa.T
structure Bk where
  chan : Chan
  opened : Bool
  states : List St_
  signs : List Sign_
  taken : List Sum
  given : Nat
  held : List Held_
  towers : List (Int × Sum)
  closing : Bool
structure BR where
  kind : Int
  chan : Chan
  state : St_
  sign : Sign_
  secret : Sum
  tower : Int
  root : Sum
  receipt : SRec
  blob : List UInt8
def statesA (l : List St_) : List AV := l.map stateA
def heldsA (l : List Held_) : List AV := l.map heldA
def towersE (l : List (Int × Sum)) : List (AV × AV) := l.map fun p => (n64 p.1, sumA p.2)
def brA (r : BR) : AV := .agg 274 [n64 r.kind, chanA r.chan, stateA r.state, signA r.sign, sumA r.secret, n64 r.tower, sumA r.root, srecA r.receipt, .sl 1 (u8s r.blob) 0]
def bookA (b : Bk) (N : Nat) : AV := .agg 47 [chanA b.chan, bA b.opened, .sl 67 (statesA b.states) (N + 11), .sl 33 (signsA b.signs) (N + 12), .agg 1 [.sl 32 (sumsA b.taken) (N + 13)], n64 b.given, .sl 69 (heldsA b.held) (N + 14), .map N, bA b.closing]
/-- a book's heap: its object, its map, what lies behind its four lists -/
abbrev bookH (b : Bk) (N : Nat) : Heap := [(N + 16, some (.obj (bookA b N))), (N, some (.mp (towersE b.towers))), (N + 9, some (.tail b.states.length)), (N + 10, some (.tail b.signs.length)), (N + 11, some (.tail b.taken.length)), (N + 12, some (.tail b.held.length))]
theorem states_len (l : List St_) : (statesA l).length = l.length := by simp [statesA]
theorem helds_len (l : List Held_) : (heldsA l).length = l.length := by simp [heldsA]
theorem nb_states {m : Nat} (l : List St_) : AV.nbs m (statesA l) = True := by
  simp only [eq_iff_iff, iff_true]
  exact nbs_map (fun s => by simp [stateA, AV.nb, AV.nbs, nb_sum]) l
theorem nb_helds {m : Nat} (l : List Held_) : AV.nbs m (heldsA l) = True := by
  simp only [eq_iff_iff, iff_true]
  exact nbs_map (fun s => by simp [heldA, recA, AV.nb, AV.nbs, nb_sum, nb_u8s]) l
theorem nb_keysT {m : Nat} (l : List (Int × Sum)) : AV.nbs m ((towersE l).map (·.1)) = True := by
  simp only [eq_iff_iff, iff_true, towersE, List.map_map]
  exact nbs_map (fun s => by simp [AV.nb]) l
theorem nb_valsT {m : Nat} (l : List (Int × Sum)) : AV.nbs m ((towersE l).map (·.2)) = True := by
  simp only [eq_iff_iff, iff_true, towersE, List.map_map]
  exact nbs_map (fun s => by simp [nb_sum]) l
theorem bkN {N nx : Nat} (h : N + 16 < nx) : (∀ k, (N = nx + k) = False) ∧ (∀ k, (nx + k = N) = False) ∧ (∀ k, (N + 9 = nx + k) = False) ∧ (∀ k, (nx + k = N + 9) = False) ∧ (∀ k, (N + 10 = nx + k) = False) ∧ (∀ k, (nx + k = N + 10) = False) ∧ (∀ k, (N + 11 = nx + k) = False) ∧ (∀ k, (nx + k = N + 11) = False) ∧ (∀ k, (N + 12 = nx + k) = False) ∧ (∀ k, (nx + k = N + 12) = False) ∧ (∀ k, (N + 16 = nx + k) = False) ∧ (∀ k, (nx + k = N + 16) = False) ∧
    (N = nx) = False ∧ (nx = N) = False ∧ (N + 9 = nx) = False ∧ (nx = N + 9) = False ∧ (N + 10 = nx) = False ∧ (nx = N + 10) = False ∧ (N + 11 = nx) = False ∧ (nx = N + 11) = False ∧ (N + 12 = nx) = False ∧ (nx = N + 12) = False ∧ (N + 16 = nx) = False ∧ (nx = N + 16) = False := by
  refine ⟨fun k => ?_, fun k => ?_, fun k => ?_, fun k => ?_, fun k => ?_, fun k => ?_, fun k => ?_, fun k => ?_, fun k => ?_, fun k => ?_, fun k => ?_, fun k => ?_, ?_, ?_, ?_, ?_, ?_, ?_, ?_, ?_, ?_, ?_, ?_, ?_⟩ <;> (simp only [eq_iff_iff, iff_false]; omega)
attribute [local go_sem] nb_u8s u8s_length nb_sum sumA List.length_replicate zero_sum sum_h u8s_nil sums_len nb_sums states_len helds_len nb_states nb_helds signs_len nb_signs nb_keysT nb_valsT
def bk0 : Bk := ⟨chanZ, false, [], [], [], 0, [], [], false⟩
theorem newbk_spec (nx : Nat) : FnSpec Try.prog 17 nx [] [] (.ref (nx + 24) 0 []) (bookH bk0 (nx + 8)) 40 := by
  refine FnSpec.of_code (cx := cx) (an := {mt := [3], tk := [(2, [([2], 67), ([3], 33), ([4, 0], 32), ([6], 69)])]}) (rs := [.tmp 0]) mo Try.func17 rfl rfl (by kernel_rfl) (by kernel_rfl) (by show 0 ≤ _; decide) (.inl rfl) (by simp [allWr, keys, Res.wr]) ?_
  repeat' (first | omega | assumption | (show AL.ahead _ _ _ = true; rfl) | refine brF (fun _ => ?_) (fun _ => ?_) | refine brT (fun _ => ?_) (fun _ => ?_) | refine brVF (fun _ => ?_) (fun _ => ?_) | refine brVT (fun _ => ?_) (fun _ => ?_) | (with_reducible refine And.intro ?_ ?_) | (simp -dsimp -implicitDefEqProofs only [go_sem, ↓reduceIte, Nat.reduceEqDiff, Nat.reduceAdd, Nat.reduceMul, Nat.reduceLeDiff, Nat.reduceLT, Nat.reduceBEq, Nat.reducePow, Int.reduceToNat, Int.reduceLE, Int.reduceLT, Int.reduceNeg, reduceCtorEq, Int.reduceEq, Int.reduceAdd, Int.reduceSub, Int.reduceMul, Nat.reduceSub, bookH, bookA, bk0, chanA, refA, chanZ]))
  all_goals rfl
theorem bnone_spec (nx N : Nat) (b : Bk) (hN : N + 16 < nx) : FnSpec Try.prog 36 nx [.ref (N + 16) 0 []] [(N + 16, some (.robj (bookA b N)))] (bA false) [] 0 := by
  have hx := bkN hN
  refine FnSpec.of_code (cx := cx) (an := {}) (rs := [.tmp 2]) mo Try.func36 rfl rfl (by kernel_rfl) (by kernel_rfl) (by show 1 ≤ _; decide) (.inl rfl) (by simp [allWr, keys, Res.wr]) ?_
  repeat' (first | omega | assumption | (show AL.ahead _ _ _ = true; rfl) | refine brF (fun _ => ?_) (fun _ => ?_) | refine brT (fun _ => ?_) (fun _ => ?_) | refine brVF (fun _ => ?_) (fun _ => ?_) | refine brVT (fun _ => ?_) (fun _ => ?_) | (with_reducible refine And.intro ?_ ?_) | (simp -dsimp -implicitDefEqProofs only [go_sem, ↓reduceIte, Nat.reduceEqDiff, Nat.reduceAdd, Nat.reduceMul, Nat.reduceLeDiff, Nat.reduceLT, Nat.reduceBEq, Nat.reducePow, Int.reduceToNat, Int.reduceLE, Int.reduceLT, Int.reduceNeg, reduceCtorEq, Int.reduceEq, Int.reduceAdd, Int.reduceSub, Int.reduceMul, Nat.reduceSub, bookA, chanA, refA, hx]))
  all_goals trace_state
def lookT (k : Int) : List (Int × Sum) → Option Sum
  | [] => none
  | (a, s) :: r => if k = a then some s else lookT k r
theorem eqB_n64 (a b : Int) : eqB (n64 a) (n64 b) = decide (a = b) := by
  by_cases h : a = b
  · subst h; rw [eqB_yes rfl]; simp
  · rw [eqB_no (fun e => h (by injection e with e; injection e))]; simp [h]
theorem lookA_T (k : Int) : ∀ l : List (Int × Sum), lookA (n64 k) (towersE l) = (lookT k l).map sumA
  | [] => rfl
  | (a, s) :: r => by
    have ih := lookA_T k r
    simp only [towersE, List.map_cons, lookA, lookT, eqB_n64, decide_eq_true_eq] at ih ⊢
    split
    · rfl
    · exact ih
theorem setA_T {k : Int} {v : AV} : ∀ {l : List (Int × Sum)}, lookT k l = none → setA (n64 k) v (towersE l) = towersE l ++ [(n64 k, v)]
  | [], _ => rfl
  | (a, s) :: r, h => by
    simp only [lookT] at h
    by_cases e : k = a
    · rw [if_pos e] at h; cases h
    · rw [if_neg e] at h
      have ih := setA_T (v := v) h
      simp only [towersE, List.map_cons, setA, eqB_n64, decide_eq_true_eq, e, if_false] at ih ⊢
      rw [ih]; rfl
theorem towersE_snoc (l : List (Int × Sum)) (k : Int) (s : Sum) : towersE l ++ [(n64 k, sumA s)] = towersE (l ++ [(k, s)]) := by simp [towersE]
theorem keysT_ok {P : Program} {T : TypeId} (h : tint P T = some .i64) (l : List (Int × Sum)) : (∀ p ∈ towersE l, keyOK P T p.1) = True := by
  simp only [eq_iff_iff, iff_true]
  intro p hp
  obtain ⟨q, _, rfl⟩ := List.mem_map.1 hp
  exact h
theorem shlen_spec (nx N : Nat) (b : Bk) (hN : N + 16 < nx) : FnSpec Try.prog 65 nx [.ref (N + 16) 42 [4]] [(N + 16, some (.robj (bookA b N)))] (n64 b.taken.length) [] 0 := by
  have hx := bkN hN
  refine FnSpec.of_code (cx := cx) (an := {}) (rs := [.tmp 2]) mo Try.func65 rfl rfl (by kernel_rfl) (by kernel_rfl) (by show 1 ≤ _; decide) (.inl rfl) (by simp [allWr, keys, Res.wr]) ?_
  repeat' (first | omega | assumption | (show AL.ahead _ _ _ = true; rfl) | refine brF (fun _ => ?_) (fun _ => ?_) | refine brT (fun _ => ?_) (fun _ => ?_) | refine brVF (fun _ => ?_) (fun _ => ?_) | refine brVT (fun _ => ?_) (fun _ => ?_) | (with_reducible refine And.intro ?_ ?_) | (simp -dsimp -implicitDefEqProofs only [go_sem, ↓reduceIte, Nat.reduceEqDiff, Nat.reduceAdd, Nat.reduceMul, Nat.reduceLeDiff, Nat.reduceLT, Nat.reduceBEq, Nat.reducePow, Int.reduceToNat, Int.reduceLE, Int.reduceLT, Int.reduceNeg, reduceCtorEq, Int.reduceEq, Int.reduceAdd, Int.reduceSub, Int.reduceMul, Nat.reduceSub, bookA, chanA, refA, hx]))
  all_goals trace_state
theorem shput_no (nx N : Nat) (b : Bk) (x h : Sum) (hN : N + 16 < nx) (he : eqB (sumA (hashS x)) (sumA h) = false) :
    FnSpec Try.prog 66 nx [.ref (N + 16) 42 [4], sumA x, sumA h] [(N + 16, some (.robj (bookA b N)))] (n64 16) [] 0 := by
  have hx := bkN hN
  have hs := fun nc => shash_spec nc x
  simp only [sumA] at he
  refine FnSpec.of_code (cx := cx) (an := {}) (rs := [.tmp 6]) mo Try.func66 rfl rfl (by kernel_rfl) (by kernel_rfl) (by show 3 ≤ _; decide) (.inl rfl) (by simp [allWr, keys, Res.wr]) ?_
  repeat' (first | omega | assumption | (show AL.ahead _ _ _ = true; rfl) | refine brF (fun _ => ?_) (fun _ => ?_) | refine brT (fun _ => ?_) (fun _ => ?_) | refine brVF (fun _ => ?_) (fun _ => ?_) | refine brVT (fun _ => ?_) (fun _ => ?_) | (with_reducible refine And.intro ?_ ?_) | (refine callK_by (hs _) ?_) | (simp -dsimp -implicitDefEqProofs only [go_sem, ↓reduceIte, Nat.reduceEqDiff, Nat.reduceAdd, Nat.reduceMul, Nat.reduceLeDiff, Nat.reduceLT, Nat.reduceBEq, Nat.reducePow, Int.reduceToNat, Int.reduceLE, Int.reduceLT, Int.reduceNeg, reduceCtorEq, Int.reduceEq, Int.reduceAdd, Int.reduceSub, Int.reduceMul, Nat.reduceSub, bookA, chanA, refA, hx, he, ↓cmp_sum, isSumT, decide_eq_true_eq, Bool.and_self]))
  all_goals trace_state
theorem shput_ok (nx N : Nat) (b : Bk) (x h : Sum) (hN : N + 16 < nx) (he : eqB (sumA (hashS x)) (sumA h) = true) (ht : b.taken.length ≤ 1000) :
    FnSpec Try.prog 66 nx [.ref (N + 16) 42 [4], sumA x, sumA h] [(N + 16, some (.obj (bookA b N))), (N + 11, some (.tail b.taken.length))] (n64 0) [(N + 16, some (.obj (bookA { b with taken := b.taken ++ [x] } N))), (N + 11, some (.tail (b.taken ++ [x]).length))] 0 := by
  have hx := bkN hN
  have hs := fun nc => shash_spec nc x
  have hsn := sums_snoc b.taken x
  simp only [sumA] at he
  refine FnSpec.of_code (cx := cx) (an := {}) (rs := [.tmp 6]) mo Try.func66 rfl rfl (by kernel_rfl) (by kernel_rfl) (by show 3 ≤ _; decide) (.inl rfl) (by simp [allWr, keys, Res.wr]) ?_
  repeat' (first | omega | assumption | (show AL.ahead _ _ _ = true; rfl) | refine brF (fun _ => ?_) (fun _ => ?_) | refine brT (fun _ => ?_) (fun _ => ?_) | refine brVF (fun _ => ?_) (fun _ => ?_) | refine brVT (fun _ => ?_) (fun _ => ?_) | (with_reducible refine And.intro ?_ ?_) | (refine callK_by (hs _) ?_) | (simp -dsimp -implicitDefEqProofs only [go_sem, ↓reduceIte, Nat.reduceEqDiff, Nat.reduceAdd, Nat.reduceMul, Nat.reduceLeDiff, Nat.reduceLT, Nat.reduceBEq, Nat.reducePow, Int.reduceToNat, Int.reduceLE, Int.reduceLT, Int.reduceNeg, reduceCtorEq, Int.reduceEq, Int.reduceAdd, Int.reduceSub, Int.reduceMul, Nat.reduceSub, bookA, chanA, refA, hx, he, ↓cmp_sum, isSumT, decide_eq_true_eq, Bool.and_self, hsn]))
  all_goals trace_state
end Go.Proofs.Ytjcnhgmaabkelaa

/-
  What records do to a book: towers, the channel, states, secrets.
-/
set_option linter.unusedSimpArgs false
set_option linter.unusedVariables false
set_option maxRecDepth 100000
set_option maxHeartbeats 1000000
namespace Go.Proofs.Ytjcnhgmaabkelaa
open Go Go.AL Go.Proofs.Ytjcnhgmaabkelaa.T
attribute [local go_sem] nb_u8s u8s_length nb_sum sumA List.length_replicate zero_sum sum_h u8s_nil sums_len nb_sums states_len helds_len nb_states nb_helds signs_len nb_signs nb_keysT nb_valsT
/-- books of a size that there is -/
def bkL (b : Bk) : Prop := b.states.length ≤ 1000 ∧ b.signs.length ≤ 1000 ∧ b.taken.length ≤ 1000 ∧ b.given ≤ 1000 ∧ b.held.length ≤ 1000 ∧ (b.opened = false → b.states = [] ∧ b.signs = [])
noncomputable def towerB (b : Bk) (r : BR) : Bk × Int :=
  if r.tower < 0 ∨ 16 ≤ r.tower ∨ eqB (sumA r.root) (sumA zeroS) = true then (b, 1)
  else match lookT r.tower b.towers with
    | some _ => (b, 8)
    | none => ({ b with towers := b.towers ++ [(r.tower, r.root)] }, 0)
theorem tower_spec (nx N : Nat) (b : Bk) (r : BR) (hN : N + 16 < nx) : FnSpec Try.prog 38 nx [.ref (N + 16) 0 [], brA r] (bookH b N) (n64 (towerB b r).2) (bookH (towerB b r).1 N) 0 := by
  have hx := bkN hN
  by_cases hb : r.tower < 0 ∨ 16 ≤ r.tower ∨ eqB (sumA r.root) (sumA zeroS) = true
  · have e : towerB b r = (b, 1) := by unfold towerB; rw [if_pos hb]
    rw [e]
    by_cases hb2 : r.tower < 0 ∨ 16 ≤ r.tower
    · refine FnSpec.of_code (cx := cx) (an := {}) (rs := [.tmp 4]) mo Try.func38 rfl rfl (by kernel_rfl) (by kernel_rfl) (by show 2 ≤ _; decide) (.inl rfl) (by simp [allWr, keys, Res.wr]) ?_
      repeat' (first | omega | assumption | (show AL.ahead _ _ _ = true; rfl) | refine brF (fun _ => ?_) (fun _ => ?_) | refine brT (fun _ => ?_) (fun _ => ?_) | refine brVF (fun _ => ?_) (fun _ => ?_) | refine brVT (fun _ => ?_) (fun _ => ?_) | (with_reducible refine And.intro ?_ ?_) | (simp -dsimp -implicitDefEqProofs only [go_sem, ↓reduceIte, Nat.reduceEqDiff, Nat.reduceAdd, Nat.reduceMul, Nat.reduceLeDiff, Nat.reduceLT, Nat.reduceBEq, Nat.reducePow, Int.reduceToNat, Int.reduceLE, Int.reduceLT, Int.reduceNeg, reduceCtorEq, Int.reduceEq, Int.reduceAdd, Int.reduceSub, Int.reduceMul, Nat.reduceSub, bookH, bookA, brA, stateA, signA, srecA, recA, chanA, refA, hx, ↓cmp_sum, isSumT, decide_eq_true_eq, Bool.and_self, ↓keysT_ok]))
      all_goals trace_state
    · have hz : eqB (sumA r.root) (sumA zeroS) = true := by
        rcases hb with h | h | h
        · omega
        · omega
        · exact h
      simp only [sumA] at hz
      refine FnSpec.of_code (cx := cx) (an := {}) (rs := [.tmp 4]) mo Try.func38 rfl rfl (by kernel_rfl) (by kernel_rfl) (by show 2 ≤ _; decide) (.inl rfl) (by simp [allWr, keys, Res.wr]) ?_
      repeat' (first | omega | assumption | (show AL.ahead _ _ _ = true; rfl) | refine brF (fun _ => ?_) (fun _ => ?_) | refine brT (fun _ => ?_) (fun _ => ?_) | refine brVF (fun _ => ?_) (fun _ => ?_) | refine brVT (fun _ => ?_) (fun _ => ?_) | (with_reducible refine And.intro ?_ ?_) | (simp -dsimp -implicitDefEqProofs only [go_sem, ↓reduceIte, Nat.reduceEqDiff, Nat.reduceAdd, Nat.reduceMul, Nat.reduceLeDiff, Nat.reduceLT, Nat.reduceBEq, Nat.reducePow, Int.reduceToNat, Int.reduceLE, Int.reduceLT, Int.reduceNeg, reduceCtorEq, Int.reduceEq, Int.reduceAdd, Int.reduceSub, Int.reduceMul, Nat.reduceSub, bookH, bookA, brA, stateA, signA, srecA, recA, chanA, refA, hx, ↓cmp_sum, isSumT, decide_eq_true_eq, Bool.and_self, ↓keysT_ok, hz]))
      all_goals trace_state
  · have hz : eqB (sumA r.root) (sumA zeroS) = false := by
      cases h : eqB (sumA r.root) (sumA zeroS) with
      | true => exact absurd (.inr (.inr h)) hb
      | false => rfl
    simp only [sumA] at hz
    have hl := lookA_T r.tower b.towers
    cases hk : lookT r.tower b.towers with
    | some s =>
      have e : towerB b r = (b, 8) := by unfold towerB; rw [if_neg hb, hk]
      rw [e]
      rw [hk] at hl
      simp only [Option.map_some] at hl
      refine FnSpec.of_code (cx := cx) (an := {}) (rs := [.tmp 4]) mo Try.func38 rfl rfl (by kernel_rfl) (by kernel_rfl) (by show 2 ≤ _; decide) (.inl rfl) (by simp [allWr, keys, Res.wr]) ?_
      repeat' (first | omega | assumption | (show AL.ahead _ _ _ = true; rfl) | refine brF (fun _ => ?_) (fun _ => ?_) | refine brT (fun _ => ?_) (fun _ => ?_) | refine brVF (fun _ => ?_) (fun _ => ?_) | refine brVT (fun _ => ?_) (fun _ => ?_) | (with_reducible refine And.intro ?_ ?_) | (simp -dsimp -implicitDefEqProofs only [go_sem, ↓reduceIte, Nat.reduceEqDiff, Nat.reduceAdd, Nat.reduceMul, Nat.reduceLeDiff, Nat.reduceLT, Nat.reduceBEq, Nat.reducePow, Int.reduceToNat, Int.reduceLE, Int.reduceLT, Int.reduceNeg, reduceCtorEq, Int.reduceEq, Int.reduceAdd, Int.reduceSub, Int.reduceMul, Nat.reduceSub, bookH, bookA, brA, stateA, signA, srecA, recA, chanA, refA, hx, ↓cmp_sum, isSumT, decide_eq_true_eq, Bool.and_self, ↓keysT_ok, hz, hl, Option.getD_some]))
      all_goals trace_state
    | none =>
      have e : towerB b r = ({ b with towers := b.towers ++ [(r.tower, r.root)] }, 0) := by unfold towerB; rw [if_neg hb, hk]
      rw [e]
      rw [hk] at hl
      simp only [Option.map_none] at hl
      have hs := setA_T (v := sumA r.root) hk
      rw [towersE_snoc] at hs
      simp only [sumA] at hs
      refine FnSpec.of_code (cx := cx) (an := {}) (rs := [.tmp 4]) mo Try.func38 rfl rfl (by kernel_rfl) (by kernel_rfl) (by show 2 ≤ _; decide) (.inl rfl) (by simp [allWr, keys, Res.wr]) ?_
      repeat' (first | omega | assumption | (show AL.ahead _ _ _ = true; rfl) | refine brF (fun _ => ?_) (fun _ => ?_) | refine brT (fun _ => ?_) (fun _ => ?_) | refine brVF (fun _ => ?_) (fun _ => ?_) | refine brVT (fun _ => ?_) (fun _ => ?_) | (with_reducible refine And.intro ?_ ?_) | (simp -dsimp -implicitDefEqProofs only [go_sem, ↓reduceIte, Nat.reduceEqDiff, Nat.reduceAdd, Nat.reduceMul, Nat.reduceLeDiff, Nat.reduceLT, Nat.reduceBEq, Nat.reducePow, Int.reduceToNat, Int.reduceLE, Int.reduceLT, Int.reduceNeg, reduceCtorEq, Int.reduceEq, Int.reduceAdd, Int.reduceSub, Int.reduceMul, Nat.reduceSub, bookH, bookA, brA, stateA, signA, srecA, recA, chanA, refA, hx, ↓cmp_sum, isSumT, decide_eq_true_eq, Bool.and_self, ↓keysT_ok, hz, hl, hs, Option.getD_none]))
      all_goals trace_state
noncomputable def stateB (b : Bk) (r : BR) : Bk × Int :=
  if b.closing = true ∨ b.states.length ≠ b.given + 1 then (b, 9)
  else if stR b.chan r.state = false ∨ r.state.n ≠ b.states.length then (b, 1)
  else ({ b with states := b.states ++ [r.state] }, 0)
theorem states_snoc (l : List St_) (s : St_) : statesA l ++ [stateA s] = statesA (l ++ [s]) := by simp [statesA]
theorem bstate_spec (nx N : Nat) (b : Bk) (r : BR) (hN : N + 16 < nx) (hL : bkL b) : FnSpec Try.prog 39 nx [.ref (N + 16) 0 [], brA r] (bookH b N) (n64 (stateB b r).2) (bookH (stateB b r).1 N) 0 := by
  have hx := bkN hN
  obtain ⟨l1, l2, l3, l4, l5, _⟩ := hL
  have w1 : IntKind.i64.wrap ((b.given : Int) + 1) = ((b.given + 1 : Nat) : Int) := wrapE (by omega) (by omega)
  have hst := fun nc => stR_spec nc b.chan r.state
  have hsn := states_snoc b.states r.state
  simp only [chanA, refA, stateA, sumA] at hst hsn
  by_cases h1 : b.closing = true ∨ b.states.length ≠ b.given + 1
  · have e : stateB b r = (b, 9) := by unfold stateB; rw [if_pos h1]
    rw [e]
    rcases h1 with h1 | h1
    · refine FnSpec.of_code (cx := cx) (an := {}) (rs := [.tmp 4]) mo Try.func39 rfl rfl (by kernel_rfl) (by kernel_rfl) (by show 2 ≤ _; decide) (.inl rfl) (by simp [allWr, keys, Res.wr]) ?_
      repeat' (first | omega | assumption | (show AL.ahead _ _ _ = true; rfl) | refine brF (fun _ => ?_) (fun _ => ?_) | refine brT (fun _ => ?_) (fun _ => ?_) | refine brVF (fun _ => ?_) (fun _ => ?_) | refine brVT (fun _ => ?_) (fun _ => ?_) | (with_reducible refine And.intro ?_ ?_) | (simp -dsimp -implicitDefEqProofs only [go_sem, ↓reduceIte, Nat.reduceEqDiff, Nat.reduceAdd, Nat.reduceMul, Nat.reduceLeDiff, Nat.reduceLT, Nat.reduceBEq, Nat.reducePow, Int.reduceToNat, Int.reduceLE, Int.reduceLT, Int.reduceNeg, reduceCtorEq, Int.reduceEq, Int.reduceAdd, Int.reduceSub, Int.reduceMul, Nat.reduceSub, bookH, bookA, brA, stateA, signA, srecA, recA, chanA, refA, hx, w1, h1]))
      all_goals trace_state
    · refine FnSpec.of_code (cx := cx) (an := {}) (rs := [.tmp 4]) mo Try.func39 rfl rfl (by kernel_rfl) (by kernel_rfl) (by show 2 ≤ _; decide) (.inl rfl) (by simp [allWr, keys, Res.wr]) ?_
      repeat' (first | omega | assumption | (show AL.ahead _ _ _ = true; rfl) | refine brF (fun _ => ?_) (fun _ => ?_) | refine brT (fun _ => ?_) (fun _ => ?_) | refine brVF (fun _ => ?_) (fun _ => ?_) | refine brVT (fun _ => ?_) (fun _ => ?_) | (with_reducible refine And.intro ?_ ?_) | (simp -dsimp -implicitDefEqProofs only [go_sem, ↓reduceIte, Nat.reduceEqDiff, Nat.reduceAdd, Nat.reduceMul, Nat.reduceLeDiff, Nat.reduceLT, Nat.reduceBEq, Nat.reducePow, Int.reduceToNat, Int.reduceLE, Int.reduceLT, Int.reduceNeg, reduceCtorEq, Int.reduceEq, Int.reduceAdd, Int.reduceSub, Int.reduceMul, Nat.reduceSub, bookH, bookA, brA, stateA, signA, srecA, recA, chanA, refA, hx, w1]))
      all_goals trace_state
  · have hc : b.closing = false := by
      cases h : b.closing with
      | true => exact absurd (.inl h) h1
      | false => rfl
    have hlen : b.states.length = b.given + 1 := Classical.byContradiction fun h => h1 (.inr h)
    by_cases h2 : stR b.chan r.state = false ∨ r.state.n ≠ b.states.length
    · have e : stateB b r = (b, 1) := by unfold stateB; rw [if_neg h1, if_pos h2]
      rw [e]
      rcases h2 with h2 | h2
      · refine FnSpec.of_code (cx := cx) (an := {}) (rs := [.tmp 4]) mo Try.func39 rfl rfl (by kernel_rfl) (by kernel_rfl) (by show 2 ≤ _; decide) (.inl rfl) (by simp [allWr, keys, Res.wr]) ?_
        repeat' (first | omega | assumption | (show AL.ahead _ _ _ = true; rfl) | refine brF (fun _ => ?_) (fun _ => ?_) | refine brT (fun _ => ?_) (fun _ => ?_) | refine brVF (fun _ => ?_) (fun _ => ?_) | refine brVT (fun _ => ?_) (fun _ => ?_) | (with_reducible refine And.intro ?_ ?_) | (refine callK_by (hst _) ?_) | (simp -dsimp -implicitDefEqProofs only [go_sem, ↓reduceIte, Nat.reduceEqDiff, Nat.reduceAdd, Nat.reduceMul, Nat.reduceLeDiff, Nat.reduceLT, Nat.reduceBEq, Nat.reducePow, Int.reduceToNat, Int.reduceLE, Int.reduceLT, Int.reduceNeg, reduceCtorEq, Int.reduceEq, Int.reduceAdd, Int.reduceSub, Int.reduceMul, Nat.reduceSub, bookH, bookA, brA, stateA, signA, srecA, recA, chanA, refA, hx, w1, hc, h2]))
        all_goals trace_state
      · refine FnSpec.of_code (cx := cx) (an := {}) (rs := [.tmp 4]) mo Try.func39 rfl rfl (by kernel_rfl) (by kernel_rfl) (by show 2 ≤ _; decide) (.inl rfl) (by simp [allWr, keys, Res.wr]) ?_
        repeat' (first | omega | assumption | (show AL.ahead _ _ _ = true; rfl) | refine brF (fun _ => ?_) (fun _ => ?_) | refine brT (fun _ => ?_) (fun _ => ?_) | refine brVF (fun _ => ?_) (fun _ => ?_) | refine brVT (fun _ => ?_) (fun _ => ?_) | (with_reducible refine And.intro ?_ ?_) | (refine callK_by (hst _) ?_) | (simp -dsimp -implicitDefEqProofs only [go_sem, ↓reduceIte, Nat.reduceEqDiff, Nat.reduceAdd, Nat.reduceMul, Nat.reduceLeDiff, Nat.reduceLT, Nat.reduceBEq, Nat.reducePow, Int.reduceToNat, Int.reduceLE, Int.reduceLT, Int.reduceNeg, reduceCtorEq, Int.reduceEq, Int.reduceAdd, Int.reduceSub, Int.reduceMul, Nat.reduceSub, bookH, bookA, brA, stateA, signA, srecA, recA, chanA, refA, hx, w1, hc]))
        all_goals trace_state
    · have hs : stR b.chan r.state = true := by
        cases h : stR b.chan r.state with
        | false => exact absurd (.inl h) h2
        | true => rfl
      have hn : r.state.n = b.states.length := Classical.byContradiction fun h => h2 (.inr h)
      have e : stateB b r = ({ b with states := b.states ++ [r.state] }, 0) := by unfold stateB; rw [if_neg h1, if_neg h2]
      rw [e]
      refine FnSpec.of_code (cx := cx) (an := {}) (rs := [.tmp 4]) mo Try.func39 rfl rfl (by kernel_rfl) (by kernel_rfl) (by show 2 ≤ _; decide) (.inl rfl) (by simp [allWr, keys, Res.wr]) ?_
      repeat' (first | omega | assumption | (show AL.ahead _ _ _ = true; rfl) | refine brF (fun _ => ?_) (fun _ => ?_) | refine brT (fun _ => ?_) (fun _ => ?_) | refine brVF (fun _ => ?_) (fun _ => ?_) | refine brVT (fun _ => ?_) (fun _ => ?_) | (with_reducible refine And.intro ?_ ?_) | (refine callK_by (hst _) ?_) | (simp -dsimp -implicitDefEqProofs only [go_sem, ↓reduceIte, Nat.reduceEqDiff, Nat.reduceAdd, Nat.reduceMul, Nat.reduceLeDiff, Nat.reduceLT, Nat.reduceBEq, Nat.reducePow, Int.reduceToNat, Int.reduceLE, Int.reduceLT, Int.reduceNeg, reduceCtorEq, Int.reduceEq, Int.reduceAdd, Int.reduceSub, Int.reduceMul, Nat.reduceSub, bookH, bookA, brA, stateA, signA, srecA, recA, chanA, refA, hx, w1, hsn, hc, hs]))
      all_goals trace_state
end Go.Proofs.Ytjcnhgmaabkelaa

/-
  What records do to a book, on: the channel begun, secrets taken.
-/
set_option linter.unusedSimpArgs false
set_option linter.unusedVariables false
set_option maxRecDepth 100000
set_option maxHeartbeats 2000000
namespace Go.Proofs.Ytjcnhgmaabkelaa
open Go Go.AL Go.Proofs.Ytjcnhgmaabkelaa.T
attribute [local go_sem] nb_u8s u8s_length nb_sum sumA List.length_replicate zero_sum sum_h u8s_nil sums_len nb_sums states_len helds_len nb_states nb_helds signs_len nb_signs nb_keysT nb_valsT
noncomputable def beginB (b : Bk) (r : BR) : Bk × Int :=
  if b.opened = true then (b, 8)
  else if stR r.chan r.state = false ∨ r.state.n ≠ 0 then (b, 1)
  else ({ b with chan := r.chan, opened := true, states := [r.state], signs := [r.sign] }, 0)
theorem begin_spec (nx N : Nat) (b : Bk) (r : BR) (hN : N + 16 < nx) (hL : bkL b) : FnSpec Try.prog 37 nx [.ref (N + 16) 0 [], brA r] (bookH b N) (n64 (beginB b r).2) (bookH (beginB b r).1 N) 0 := by
  have hx := bkN hN
  obtain ⟨l1, l2, l3, l4, l5, l6⟩ := hL
  have hst := fun nc => stR_spec nc r.chan r.state
  simp only [chanA, refA, stateA, sumA] at hst
  cases ho : b.opened with
  | true =>
    have e : beginB b r = (b, 8) := by unfold beginB; rw [if_pos ho]
    rw [e]
    refine FnSpec.of_code (cx := cx) (an := {}) (rs := [.tmp 4]) mo Try.func37 rfl rfl (by kernel_rfl) (by kernel_rfl) (by show 2 ≤ _; decide) (.inl rfl) (by simp [allWr, keys, Res.wr]) ?_
    repeat' (first | omega | assumption | (show AL.ahead _ _ _ = true; rfl) | refine brF (fun _ => ?_) (fun _ => ?_) | refine brT (fun _ => ?_) (fun _ => ?_) | refine brVF (fun _ => ?_) (fun _ => ?_) | refine brVT (fun _ => ?_) (fun _ => ?_) | (with_reducible refine And.intro ?_ ?_) | (simp -dsimp -implicitDefEqProofs only [go_sem, ↓reduceIte, Nat.reduceEqDiff, Nat.reduceAdd, Nat.reduceMul, Nat.reduceLeDiff, Nat.reduceLT, Nat.reduceBEq, Nat.reducePow, Int.reduceToNat, Int.reduceLE, Int.reduceLT, Int.reduceNeg, reduceCtorEq, Int.reduceEq, Int.reduceAdd, Int.reduceSub, Int.reduceMul, Nat.reduceSub, bookH, bookA, brA, stateA, signA, srecA, recA, chanA, refA, hx, ho]))
    all_goals trace_state
  | false =>
    have hno : ¬ b.opened = true := by rw [ho]; decide
    by_cases h2 : stR r.chan r.state = false ∨ r.state.n ≠ 0
    · have e : beginB b r = (b, 1) := by unfold beginB; rw [if_neg hno, if_pos h2]
      rw [e]
      rcases h2 with h2 | h2
      · refine FnSpec.of_code (cx := cx) (an := {}) (rs := [.tmp 4]) mo Try.func37 rfl rfl (by kernel_rfl) (by kernel_rfl) (by show 2 ≤ _; decide) (.inl rfl) (by simp [allWr, keys, Res.wr]) ?_
        repeat' (first | omega | assumption | (show AL.ahead _ _ _ = true; rfl) | refine brF (fun _ => ?_) (fun _ => ?_) | refine brT (fun _ => ?_) (fun _ => ?_) | refine brVF (fun _ => ?_) (fun _ => ?_) | refine brVT (fun _ => ?_) (fun _ => ?_) | (with_reducible refine And.intro ?_ ?_) | (refine callK_by (hst _) ?_) | (simp -dsimp -implicitDefEqProofs only [go_sem, ↓reduceIte, Nat.reduceEqDiff, Nat.reduceAdd, Nat.reduceMul, Nat.reduceLeDiff, Nat.reduceLT, Nat.reduceBEq, Nat.reducePow, Int.reduceToNat, Int.reduceLE, Int.reduceLT, Int.reduceNeg, reduceCtorEq, Int.reduceEq, Int.reduceAdd, Int.reduceSub, Int.reduceMul, Nat.reduceSub, bookH, bookA, brA, stateA, signA, srecA, recA, chanA, refA, hx, ho, h2]))
        all_goals trace_state
      · refine FnSpec.of_code (cx := cx) (an := {}) (rs := [.tmp 4]) mo Try.func37 rfl rfl (by kernel_rfl) (by kernel_rfl) (by show 2 ≤ _; decide) (.inl rfl) (by simp [allWr, keys, Res.wr]) ?_
        repeat' (first | omega | assumption | (show AL.ahead _ _ _ = true; rfl) | refine brF (fun _ => ?_) (fun _ => ?_) | refine brT (fun _ => ?_) (fun _ => ?_) | refine brVF (fun _ => ?_) (fun _ => ?_) | refine brVT (fun _ => ?_) (fun _ => ?_) | (with_reducible refine And.intro ?_ ?_) | (refine callK_by (hst _) ?_) | (simp -dsimp -implicitDefEqProofs only [go_sem, ↓reduceIte, Nat.reduceEqDiff, Nat.reduceAdd, Nat.reduceMul, Nat.reduceLeDiff, Nat.reduceLT, Nat.reduceBEq, Nat.reducePow, Int.reduceToNat, Int.reduceLE, Int.reduceLT, Int.reduceNeg, reduceCtorEq, Int.reduceEq, Int.reduceAdd, Int.reduceSub, Int.reduceMul, Nat.reduceSub, bookH, bookA, brA, stateA, signA, srecA, recA, chanA, refA, hx, ho]))
        all_goals trace_state
    · have hs : stR r.chan r.state = true := by
        cases h : stR r.chan r.state with
        | false => exact absurd (.inl h) h2
        | true => rfl
      have hn : r.state.n = 0 := Classical.byContradiction fun h => h2 (.inr h)
      have e : beginB b r = ({ b with chan := r.chan, opened := true, states := [r.state], signs := [r.sign] }, 0) := by unfold beginB; rw [if_neg hno, if_neg h2]
      rw [e]
      obtain ⟨s1, s2⟩ := l6 ho
      have key : FnSpec Try.prog 37 nx [.ref (N + 16) 0 [], brA r] [(N + 16, some (.obj (bookA b N))), (N, some (.mp (towersE b.towers))), (N + 11, some (.tail b.taken.length)), (N + 12, some (.tail b.held.length))] (n64 0) [(N + 16, some (.obj (.agg 47 [chanA r.chan, bA true, .sl 67 [stateA r.state] 1, .sl 33 [signA r.sign] 1, .agg 1 [.sl 32 (sumsA b.taken) (N + 13)], n64 b.given, .sl 69 (heldsA b.held) (N + 14), .map N, bA b.closing]))), (N, some (.mp (towersE b.towers))), (N + 11, some (.tail b.taken.length)), (N + 12, some (.tail b.held.length))] 0 := by
        refine FnSpec.of_code (cx := cx) (an := {}) (rs := [.tmp 4]) mo Try.func37 rfl rfl (by kernel_rfl) (by kernel_rfl) (by show 2 ≤ _; decide) (.inl rfl) (by simp [allWr, keys, Res.wr]) ?_
        repeat' (first | omega | assumption | (show AL.ahead _ _ _ = true; rfl) | refine brF (fun _ => ?_) (fun _ => ?_) | refine brT (fun _ => ?_) (fun _ => ?_) | refine brVF (fun _ => ?_) (fun _ => ?_) | refine brVT (fun _ => ?_) (fun _ => ?_) | (with_reducible refine And.intro ?_ ?_) | (refine callK_by (hst _) ?_) | (simp -dsimp -implicitDefEqProofs only [go_sem, ↓reduceIte, Nat.reduceEqDiff, Nat.reduceAdd, Nat.reduceMul, Nat.reduceLeDiff, Nat.reduceLT, Nat.reduceBEq, Nat.reducePow, Int.reduceToNat, Int.reduceLE, Int.reduceLT, Int.reduceNeg, reduceCtorEq, Int.reduceEq, Int.reduceAdd, Int.reduceSub, Int.reduceMul, Nat.reduceSub, bookH, bookA, brA, stateA, signA, srecA, recA, chanA, refA, hx, ho, hs]))
        all_goals trace_state
      have k1 := key.frame (Hb := bookH b N) (fun n r h => by
        simp only [bookH, Heap.get] at h ⊢
        repeat' split at h
        all_goals first | (cases h; done) | skip
        all_goals (repeat' split)
        all_goals first | exact h | omega)
      have k2 := k1.wrle (a' := bookA { b with chan := r.chan, opened := true, states := [r.state], signs := [r.sign] } N) ⟨_, rfl, _, _, rfl, AV.le_refl _, _, _, rfl, AV.le_refl _, _, _, rfl, ⟨_, _, rfl, AV.les_refl _, .inr (.inr rfl)⟩, _, _, rfl, ⟨_, _, rfl, AV.les_refl _, .inr (.inr rfl)⟩, AV.les_refl _⟩
      have k3 := k2.bump (q := N + 10) (e := 0) (e' := 1) (by simp [bookH, Heap.get, s2]) (by simp [keys]) (by decide)
      have k4 := k3.bump (q := N + 9) (e := 0) (e' := 1) (by simp [bookH, Heap.get, s1]) (by simp [keys]) (by decide)
      refine k4.perm (fun n => ?_) (fun n => ?_)
      · simp only [bookH, Heap.get, List.length_cons, List.length_nil, Nat.zero_add]
        repeat' split
        all_goals first | rfl | omega
      · simp only [bookH, keys, List.map_cons, List.map_nil, List.mem_cons, List.not_mem_nil, or_false]
        omega
noncomputable def takeB (b : Bk) (r : BR) : Bk × Int :=
  if b.states.length ≠ b.given + 2 ∨ b.taken.length ≠ b.given then (b, 9)
  else if eqB (sumA (hashS r.secret)) (sumA ((b.states[b.given]?).getD ⟨0, 0, 0, zeroS, zeroS⟩).h1) = false then (b, 16)
  else ({ b with taken := b.taken ++ [r.secret], signs := b.signs ++ [r.sign] }, 0)
theorem signs_snoc (l : List Sign_) (s : Sign_) : signsA l ++ [signA s] = signsA (l ++ [s]) := by simp [signsA]
theorem states_get {l : List St_} {i : Nat} (h : i < l.length) : (statesA l).getD i .undef = stateA ((l[i]?).getD ⟨0, 0, 0, zeroS, zeroS⟩) := by simp [statesA, List.getD_eq_getElem?_getD, List.getElem?_map, List.getElem?_eq_getElem h]
theorem take_spec (nx N : Nat) (b : Bk) (r : BR) (hN : N + 16 < nx) (hL : bkL b) : FnSpec Try.prog 40 nx [.ref (N + 16) 0 [], brA r] (bookH b N) (n64 (takeB b r).2) (bookH (takeB b r).1 N) 0 := by
  have hx := bkN hN
  obtain ⟨l1, l2, l3, l4, l5, l6⟩ := hL
  have w1 : IntKind.i64.wrap ((b.given : Int) + 2) = ((b.given + 2 : Nat) : Int) := wrapE (by omega) (by omega)
  have hln := fun nc (h : nx ≤ nc) => shlen_spec nc N b (by omega)
  have hsn := signs_snoc b.signs r.sign
  by_cases h1 : b.states.length ≠ b.given + 2 ∨ b.taken.length ≠ b.given
  · have e : takeB b r = (b, 9) := by unfold takeB; rw [if_pos h1]
    rw [e]
    simp only [bookA, chanA, refA] at hln
    refine FnSpec.of_code (cx := cx) (an := {}) (rs := [.tmp 4]) mo Try.func40 rfl rfl (by kernel_rfl) (by kernel_rfl) (by show 2 ≤ _; decide) (.inl rfl) (by simp [allWr, keys, Res.wr]) ?_
    repeat' (first | omega | assumption | (show AL.ahead _ _ _ = true; rfl) | refine brF (fun _ => ?_) (fun _ => ?_) | refine brT (fun _ => ?_) (fun _ => ?_) | refine brVF (fun _ => ?_) (fun _ => ?_) | refine brVT (fun _ => ?_) (fun _ => ?_) | (with_reducible refine And.intro ?_ ?_) | (refine callK_by (hln _ (by omega)) ?_) | (simp -dsimp -implicitDefEqProofs only [go_sem, ↓reduceIte, Nat.reduceEqDiff, Nat.reduceAdd, Nat.reduceMul, Nat.reduceLeDiff, Nat.reduceLT, Nat.reduceBEq, Nat.reducePow, Int.reduceToNat, Int.reduceLE, Int.reduceLT, Int.reduceNeg, reduceCtorEq, Int.reduceEq, Int.reduceAdd, Int.reduceSub, Int.reduceMul, Nat.reduceSub, bookH, bookA, brA, stateA, signA, srecA, recA, chanA, refA, hx, w1]))
    all_goals trace_state
  · have hlen : b.states.length = b.given + 2 := by omega
    have htl : b.taken.length = b.given := by omega
    have hg := states_get (l := b.states) (i := b.given) (by omega)
    generalize hq : (b.states[b.given]?).getD ⟨0, 0, 0, zeroS, zeroS⟩ = q at *
    cases h2 : eqB (sumA (hashS r.secret)) (sumA q.h1) with
    | false =>
      have e : takeB b r = (b, 16) := by unfold takeB; rw [if_neg h1, hq, if_pos h2]
      rw [e]
      have hp := fun nc (h : nx ≤ nc) => shput_no nc N b r.secret q.h1 (by omega) h2
      simp only [bookA, chanA, refA] at hln hp
      simp only [stateA] at hg
      refine FnSpec.of_code (cx := cx) (an := {}) (rs := [.tmp 4]) mo Try.func40 rfl rfl (by kernel_rfl) (by kernel_rfl) (by show 2 ≤ _; decide) (.inl rfl) (by simp [allWr, keys, Res.wr]) ?_
      repeat' (first | omega | assumption | (show AL.ahead _ _ _ = true; rfl) | refine brF (fun _ => ?_) (fun _ => ?_) | refine brT (fun _ => ?_) (fun _ => ?_) | refine brVF (fun _ => ?_) (fun _ => ?_) | refine brVT (fun _ => ?_) (fun _ => ?_) | (with_reducible refine And.intro ?_ ?_) | (refine callK_by (hln _ (by omega)) ?_) | (refine callK_by (hp _ (by omega)) ?_) | (simp -dsimp -implicitDefEqProofs only [go_sem, ↓reduceIte, Nat.reduceEqDiff, Nat.reduceAdd, Nat.reduceMul, Nat.reduceLeDiff, Nat.reduceLT, Nat.reduceBEq, Nat.reducePow, Int.reduceToNat, Int.reduceLE, Int.reduceLT, Int.reduceNeg, reduceCtorEq, Int.reduceEq, Int.reduceAdd, Int.reduceSub, Int.reduceMul, Nat.reduceSub, bookH, bookA, brA, stateA, signA, srecA, recA, chanA, refA, hx, w1, hg]))
      all_goals trace_state
    | true =>
      have e : takeB b r = ({ b with taken := b.taken ++ [r.secret], signs := b.signs ++ [r.sign] }, 0) := by unfold takeB; rw [if_neg h1, hq, h2]; rfl
      rw [e]
      have hp := fun nc (h : nx ≤ nc) => shput_ok nc N b r.secret q.h1 (by omega) h2 l3
      simp only [bookA, chanA, refA] at hln hp
      simp only [stateA] at hg
      simp only [signA, sumA] at hsn
      refine FnSpec.of_code (cx := cx) (an := {}) (rs := [.tmp 4]) mo Try.func40 rfl rfl (by kernel_rfl) (by kernel_rfl) (by show 2 ≤ _; decide) (.inl rfl) (by simp [allWr, keys, Res.wr]) ?_
      repeat' (first | omega | assumption | (show AL.ahead _ _ _ = true; rfl) | refine brF (fun _ => ?_) (fun _ => ?_) | refine brT (fun _ => ?_) (fun _ => ?_) | refine brVF (fun _ => ?_) (fun _ => ?_) | refine brVT (fun _ => ?_) (fun _ => ?_) | (with_reducible refine And.intro ?_ ?_) | (refine callK_by (hln _ (by omega)) ?_) | (refine callK_by (hp _ (by omega)) ?_) | (simp -dsimp -implicitDefEqProofs only [go_sem, ↓reduceIte, Nat.reduceEqDiff, Nat.reduceAdd, Nat.reduceMul, Nat.reduceLeDiff, Nat.reduceLT, Nat.reduceBEq, Nat.reducePow, Int.reduceToNat, Int.reduceLE, Int.reduceLT, Int.reduceNeg, reduceCtorEq, Int.reduceEq, Int.reduceAdd, Int.reduceSub, Int.reduceMul, Nat.reduceSub, bookH, bookA, brA, stateA, signA, srecA, recA, chanA, refA, hx, w1, hg, hsn]))
      all_goals trace_state
end Go.Proofs.Ytjcnhgmaabkelaa

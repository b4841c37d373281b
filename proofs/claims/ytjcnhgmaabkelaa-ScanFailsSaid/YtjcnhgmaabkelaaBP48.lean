/-
  What records do to a book, on: receipts.
-/
import Derived.Test.YtjcnhgmaabkelaaBP45
set_option linter.unusedSimpArgs false
set_option linter.unusedVariables false
set_option maxRecDepth 100000
set_option maxHeartbeats 2000000
namespace Go.Proofs.Ytjcnhgmaabkelaa
open Go Go.AL Go.Proofs.Ytjcnhgmaabkelaa.T
/-- the first place at which something holds; -1: nowhere -/
def idxP {α : Type} (p : α → Bool) (l : List α) : Int := if l.any p then (l.findIdx p : Nat) else -1
theorem idxP_hit {α : Type} {p : α → Bool} {l : List α} {i : Nat} (h : i < l.length) (hp : p l[i] = true) (hb : ∀ j (hj : j < l.length), j < i → p l[j] = false) : idxP p l = i := by
  unfold idxP
  rw [if_pos (List.any_eq_true.2 ⟨_, List.getElem_mem h, hp⟩), (List.findIdx_eq h).2 ⟨hp, fun j hj => hb j (by omega) hj⟩]
theorem idxP_miss {α : Type} {p : α → Bool} {l : List α} (hb : ∀ j (hj : j < l.length), p l[j] = false) : idxP p l = -1 := by
  unfold idxP
  rw [if_neg (fun h => by
    obtain ⟨x, hx, hp⟩ := List.any_eq_true.1 h
    obtain ⟨j, hj, rfl⟩ := List.getElem_of_mem hx
    rw [hb j hj] at hp; cases hp)]
theorem idxP_any {α : Type} {p : α → Bool} {l : List α} : decide (0 ≤ idxP p l) = l.any p := by
  unfold idxP
  cases h : l.any p <;> simp
attribute [local go_sem] nb_u8s u8s_length nb_sum sumA List.length_replicate zero_sum sum_h u8s_nil sums_len nb_sums states_len helds_len nb_states nb_helds signs_len nb_signs nb_keysT nb_valsT
theorem cloneB_nil (nx t : Nat) : FnSpec Try.prog 70 nx [.sl 1 [] t] [] (.sl 1 [] 0) [] 0 := by
  refine FnSpec.empty fun b n => ?_
  cases b with
  | none =>
    have h : FnSpec Try.prog 70 nx [.val (.slice none 0 n)] [] (.sl 0 [] 1) [] 0 := by
      refine FnSpec.of_code (cx := cx) (an := {}) (rs := [.tmp 2]) mo Try.func70 rfl rfl (by kernel_rfl) (by kernel_rfl) (by show 1 ≤ _; decide) (.inl rfl) (by simp [allWr, keys, Res.wr]) ?_
      repeat' (first | omega | assumption | (show AL.ahead _ _ _ = true; rfl) | refine brF (fun _ => ?_) (fun _ => ?_) | refine brT (fun _ => ?_) (fun _ => ?_) | refine brVF (fun _ => ?_) (fun _ => ?_) | refine brVT (fun _ => ?_) (fun _ => ?_) | (with_reducible refine And.intro ?_ ?_) | (simp -dsimp -implicitDefEqProofs only [go_sem, ↓reduceIte, Nat.reduceEqDiff, Nat.reduceAdd, Nat.reduceMul, Nat.reduceLeDiff, Nat.reduceLT, Nat.reduceBEq, Nat.reducePow, Int.reduceToNat, Int.reduceLE, Int.reduceLT, Int.reduceNeg, reduceCtorEq, Int.reduceEq, Int.reduceAdd, Int.reduceSub, Int.reduceMul, Nat.reduceSub, Option.isNone_none]))
    exact h.forget0 ⟨rfl, .inr ⟨.inr rfl, .inl rfl⟩⟩ (by simp [AV.nb, AV.nbs]) (by simp [keys])
  | some a =>
    have h : FnSpec Try.prog 70 nx [.val (.slice (some a) 0 n)] [] (.sl 1 [] (nx + 42)) [(nx + 40, some (.tail 0))] 60 := by
      refine FnSpec.of_code (cx := cx) (an := {}) (rs := [.tmp 2]) mo Try.func70 rfl rfl (by kernel_rfl) (by kernel_rfl) (by show 1 ≤ _; decide) (.inl rfl) (by simp [allWr, keys, Res.wr]) ?_
      repeat' (first | omega | assumption | (show AL.ahead _ _ _ = true; rfl) | refine brF (fun _ => ?_) (fun _ => ?_) | refine brT (fun _ => ?_) (fun _ => ?_) | refine brVF (fun _ => ?_) (fun _ => ?_) | refine brVT (fun _ => ?_) (fun _ => ?_) | (with_reducible refine And.intro ?_ ?_) | (simp -dsimp -implicitDefEqProofs only [go_sem, ↓reduceIte, Nat.reduceEqDiff, Nat.reduceAdd, Nat.reduceMul, Nat.reduceLeDiff, Nat.reduceLT, Nat.reduceBEq, Nat.reducePow, Int.reduceToNat, Int.reduceLE, Int.reduceLT, Int.reduceNeg, reduceCtorEq, Int.reduceEq, Int.reduceAdd, Int.reduceSub, Int.reduceMul, Nat.reduceSub, Option.isNone_some]))
    exact h.forget0 ⟨rfl, .inr ⟨.inl rfl, .inl rfl⟩⟩ (by simp [AV.nb, AV.nbs]) (by simp [keys])
theorem cloneB_spec (nx : Nat) (l : List UInt8) (hl : l.length < 2 ^ 40) : FnSpec Try.prog 70 nx [.sl 1 (u8s l) 0] [] (.sl 1 (u8s l) 0) [] 0 := by
  cases l with
  | nil => exact cloneB_nil nx 0
  | cons a l =>
    have e : u8s (a :: l) = u8 a :: u8s l := rfl
    simp only [List.length_cons] at hl
    have h : FnSpec Try.prog 70 nx [.sl 1 (u8s (a :: l)) 0] [] (.sl 1 (u8s (a :: l)) (nx + 42)) [(nx + 40, some (.tail (u8s (a :: l)).length))] 60 := by
      rw [e]
      refine FnSpec.of_code (cx := cx) (an := {}) (rs := [.tmp 2]) mo Try.func70 rfl rfl (by kernel_rfl) (by kernel_rfl) (by show 1 ≤ _; decide) (.inl rfl) (by simp [allWr, keys, Res.wr]) ?_
      repeat' (first | omega | assumption | (show AL.ahead _ _ _ = true; rfl) | refine brF (fun _ => ?_) (fun _ => ?_) | refine brT (fun _ => ?_) (fun _ => ?_) | refine brVF (fun _ => ?_) (fun _ => ?_) | refine brVT (fun _ => ?_) (fun _ => ?_) | (with_reducible refine And.intro ?_ ?_) | (simp -dsimp -implicitDefEqProofs only [go_sem, ↓reduceIte, Nat.reduceEqDiff, Nat.reduceAdd, Nat.reduceMul, Nat.reduceLeDiff, Nat.reduceLT, Nat.reduceBEq, Nat.reducePow, Int.reduceToNat, Int.reduceLE, Int.reduceLT, Int.reduceNeg, reduceCtorEq, Int.reduceEq, Int.reduceAdd, Int.reduceSub, Int.reduceMul, Nat.reduceSub, u8]))
      all_goals trace_state
    exact h.forget0 ⟨rfl, .inr ⟨.inl rfl, .inl rfl⟩⟩ (by simp [AV.nb, nb_u8s]) (by simp [keys])
abbrev sameH (x : SRec) (h : Held_) : Bool := decide (h.rec_.state = x.rec_.state) && decide (h.rec_.tower = x.rec_.tower)
theorem rc1_spec (nx m : Nat) (x : SRec) (h : Held_) (hm : m < nx) : FnSpec Try.prog 69 nx [heldA h, .ref m 0 []] [(m, some (.robj (srecA x)))] (bA (sameH x h)) [] 0 := by
  have x1 := fun k => lt_nx hm k
  have x2 := fun k => nx_gt hm k
  refine FnSpec.of_code (cx := cx) (an := {}) (rs := [.tmp 3]) mo Try.func69 rfl rfl (by kernel_rfl) (by kernel_rfl) (by show 2 ≤ _; decide) (.inl rfl) (by simp [allWr, keys, Res.wr]) ?_
  repeat' (first | omega | assumption | (show AL.ahead _ _ _ = true; rfl) | refine brF (fun _ => ?_) (fun _ => ?_) | refine brT (fun _ => ?_) (fun _ => ?_) | refine brVF (fun _ => ?_) (fun _ => ?_) | refine brVT (fun _ => ?_) (fun _ => ?_) | (with_reducible refine And.intro ?_ ?_) | (simp -dsimp -implicitDefEqProofs only [go_sem, ↓reduceIte, Nat.reduceEqDiff, Nat.reduceAdd, Nat.reduceMul, Nat.reduceLeDiff, Nat.reduceLT, Nat.reduceBEq, Nat.reducePow, Int.reduceToNat, Int.reduceLE, Int.reduceLT, Int.reduceNeg, reduceCtorEq, Int.reduceEq, Int.reduceAdd, Int.reduceSub, Int.reduceMul, Nat.reduceSub, heldA, recA, srecA, x1, x2]))
  all_goals first
    | (rename_i hx; simp only [bA, sameH]; rw [decide_eq_true hx, Bool.true_and])
    | (rename_i hx; simp only [bA, sameH]; rw [decide_eq_false hx, Bool.false_and])
    | trace_state
theorem helds_get {l : List Held_} {i : Nat} (h : i < l.length) : (heldsA l).getD i .undef = heldA l[i] := by simp [heldsA, List.getD_eq_getElem?_getD, List.getElem?_map, List.getElem?_eq_getElem h]
theorem idxH_spec (nx m t : Nat) (x : SRec) (l : List Held_) (hm : m < nx) (hl : l.length < 2 ^ 40) (ht : t < 2 ∨ t - 2 < nx) : FnSpec Try.prog 90 nx [.sl 69 (heldsA l) t, .clos 69 [.ref m 0 []]] [(m, some (.robj (srecA x)))] (n64 (idxP (sameH x) l)) [] 0 := by
  have x1 := fun k => lt_nx hm k
  have x2 := fun k => nx_gt hm k
  refine FnSpec.of_code (cx := cx) (an := {}) (rs := [.tmp 4]) mo Try.func90 rfl rfl (by kernel_rfl) (by kernel_rfl) (by show 2 ≤ _; decide) (.inl rfl) (by simp [allWr, keys, Res.wr]) ?_
  repeat' (first | omega | assumption | (show AL.ahead _ _ _ = true; rfl) | refine brF (fun _ => ?_) (fun _ => ?_) | refine brT (fun _ => ?_) (fun _ => ?_) | refine brVF (fun _ => ?_) (fun _ => ?_) | refine brVT (fun _ => ?_) (fun _ => ?_) | (with_reducible refine And.intro ?_ ?_) | (simp -dsimp -implicitDefEqProofs only [go_sem, ↓reduceIte, Nat.reduceEqDiff, Nat.reduceAdd, Nat.reduceMul, Nat.reduceLeDiff, Nat.reduceLT, Nat.reduceBEq, Nat.reducePow, Int.reduceToNat, Int.reduceLE, Int.reduceLT, Int.reduceNeg, reduceCtorEq, Int.reduceEq, Int.reduceAdd, Int.reduceSub, Int.reduceMul, Nat.reduceSub]))
  apply loop_keep [0, 1, 7] (fun i : { i : Nat // i ≤ l.length ∧ ∀ j (hj : j < l.length), j < i → sameH x l[j] = false } => [(8, n64 i.1)]) (fun _ => [(m, some (.robj (srecA x)))]) (fun i => l.length - i.1) ⟨0, Nat.zero_le _, fun j _ hj => absurd hj (Nat.not_lt_zero _)⟩
  · simp -dsimp -implicitDefEqProofs only [go_sem, ↓reduceIte, Nat.reduceEqDiff, Nat.reduceAdd, Nat.reduceMul, Nat.reduceLeDiff, Nat.reduceLT, Nat.reduceBEq, Nat.reducePow, Int.reduceToNat, Int.reduceLE, Int.reduceLT, Int.reduceNeg, reduceCtorEq, Int.reduceEq, Int.reduceAdd, Int.reduceSub, Int.reduceMul, Nat.reduceSub]; rfl
  · simp -dsimp -implicitDefEqProofs only [go_sem, ↓reduceIte, Nat.reduceEqDiff, Nat.reduceAdd, Nat.reduceMul, Nat.reduceLeDiff, Nat.reduceLT, Nat.reduceBEq, Nat.reducePow, Int.reduceToNat, Int.reduceLE, Int.reduceLT, Int.reduceNeg, reduceCtorEq, Int.reduceEq, Int.reduceAdd, Int.reduceSub, Int.reduceMul, Nat.reduceSub]; try rfl
  · simp -dsimp -implicitDefEqProofs only [go_sem, ↓reduceIte, Nat.reduceEqDiff, Nat.reduceAdd, Nat.reduceMul, Nat.reduceLeDiff, Nat.reduceLT, Nat.reduceBEq, Nat.reducePow, Int.reduceToNat, Int.reduceLE, Int.reduceLT, Int.reduceNeg, reduceCtorEq, Int.reduceEq, Int.reduceAdd, Int.reduceSub, Int.reduceMul, Nat.reduceSub]; try rfl
  · intro s
    simp -dsimp -implicitDefEqProofs only [go_sem, ↓reduceIte, Nat.reduceEqDiff, Nat.reduceAdd, Nat.reduceMul, Nat.reduceLeDiff, Nat.reduceLT, Nat.reduceBEq, Nat.reducePow, Int.reduceToNat, Int.reduceLE, Int.reduceLT, Int.reduceNeg, reduceCtorEq, Int.reduceEq, Int.reduceAdd, Int.reduceSub, Int.reduceMul, Nat.reduceSub, srecA, recA]
    try omega
  · rintro ⟨i, hi, hall⟩
    have hi : i ≤ l.length := hi
    simp -dsimp -implicitDefEqProofs only [go_sem, ↓reduceIte, Nat.reduceEqDiff, Nat.reduceAdd, Nat.reduceMul, Nat.reduceLeDiff, Nat.reduceLT, Nat.reduceBEq, Nat.reducePow, Int.reduceToNat, Int.reduceLE, Int.reduceLT, Int.reduceNeg, reduceCtorEq, Int.reduceEq, Int.reduceAdd, Int.reduceSub, Int.reduceMul, Nat.reduceSub]
    refine brT (fun hc => ?_) (fun hc => ?_)
    · have hi2 : i < l.length := by omega
      have q1 := helds_get hi2
      have w1 : IntKind.i64.wrap ((i : Int) + 1) = ((i + 1 : Nat) : Int) := wrapE (by omega) (by omega)
      have hr := fun nc (h : m < nc) => rc1_spec nc m x l[i] h
      simp only [heldA, recA, srecA] at hr q1
      repeat' (first | omega | assumption | (show AL.ahead _ _ _ = true; rfl) | refine brF (fun _ => ?_) (fun _ => ?_) | refine brT (fun _ => ?_) (fun _ => ?_) | refine brVF (fun _ => ?_) (fun _ => ?_) | refine brVT (fun _ => ?_) (fun _ => ?_) | (with_reducible refine And.intro ?_ ?_) | (refine callK_by (hr _ (by omega)) ?_) | (simp -dsimp -implicitDefEqProofs only [go_sem, ↓reduceIte, Nat.reduceEqDiff, Nat.reduceAdd, Nat.reduceMul, Nat.reduceLeDiff, Nat.reduceLT, Nat.reduceBEq, Nat.reducePow, Int.reduceToNat, Int.reduceLE, Int.reduceLT, Int.reduceNeg, reduceCtorEq, Int.reduceEq, Int.reduceAdd, Int.reduceSub, Int.reduceMul, Nat.reduceSub, q1, w1, srecA, recA, x1, x2]))
      all_goals first
        | (rename_i hx
           have e : idxP (sameH x) l = i := idxP_hit hi2 hx (fun j h1 h2 => hall j h1 h2)
           rw [e])
        | (rename_i hx
           refine ⟨⟨i + 1, hi2, fun j hj1 hj2 => ?_⟩, by show l.length - (i + 1) < l.length - i; omega, rfl⟩
           by_cases hj3 : j < i
           · exact hall j hj1 hj3
           · have e : j = i := by omega
             subst e
             exact hx)
        | trace_state
    · have e : i = l.length := by omega
      subst e
      repeat' (first | omega | assumption | (show AL.ahead _ _ _ = true; rfl) | refine brF (fun _ => ?_) (fun _ => ?_) | refine brT (fun _ => ?_) (fun _ => ?_) | refine brVF (fun _ => ?_) (fun _ => ?_) | refine brVT (fun _ => ?_) (fun _ => ?_) | (with_reducible refine And.intro ?_ ?_) | (simp -dsimp -implicitDefEqProofs only [go_sem, ↓reduceIte, Nat.reduceEqDiff, Nat.reduceAdd, Nat.reduceMul, Nat.reduceLeDiff, Nat.reduceLT, Nat.reduceBEq, Nat.reducePow, Int.reduceToNat, Int.reduceLE, Int.reduceLT, Int.reduceNeg, reduceCtorEq, Int.reduceEq, Int.reduceAdd, Int.reduceSub, Int.reduceMul, Nat.reduceSub]))
      have e : idxP (sameH x) l = -1 := idxP_miss (fun j hj => hall j hj hj)
      rw [e]
theorem hasH_spec (nx m t : Nat) (x : SRec) (l : List Held_) (hm : m < nx) (hl : l.length < 2 ^ 40) (ht : t < 2 ∨ t - 2 < nx) : FnSpec Try.prog 68 nx [.sl 69 (heldsA l) t, .clos 69 [.ref m 0 []]] [(m, some (.robj (srecA x)))] (bA (l.any (sameH x))) [] 0 := by
  have hi := fun nc (h : nx ≤ nc) => idxH_spec nc m t x l (by omega) hl (by omega)
  simp only [srecA, recA] at hi
  refine FnSpec.of_code (cx := cx) (an := {}) (rs := [.tmp 4]) mo Try.func68 rfl rfl (by kernel_rfl) (by kernel_rfl) (by show 2 ≤ _; decide) (.inl rfl) (by simp [allWr, keys, Res.wr]) ?_
  repeat' (first | omega | assumption | (show AL.ahead _ _ _ = true; rfl) | refine brF (fun _ => ?_) (fun _ => ?_) | refine brT (fun _ => ?_) (fun _ => ?_) | refine brVF (fun _ => ?_) (fun _ => ?_) | refine brVT (fun _ => ?_) (fun _ => ?_) | (with_reducible refine And.intro ?_ ?_) | (refine callK_by (hi _ (by omega)) ?_) | (simp -dsimp -implicitDefEqProofs only [go_sem, ↓reduceIte, Nat.reduceEqDiff, Nat.reduceAdd, Nat.reduceMul, Nat.reduceLeDiff, Nat.reduceLT, Nat.reduceBEq, Nat.reducePow, Int.reduceToNat, Int.reduceLE, Int.reduceLT, Int.reduceNeg, reduceCtorEq, Int.reduceEq, Int.reduceAdd, Int.reduceSub, Int.reduceMul, Nat.reduceSub, srecA, recA]))
  all_goals rw [idxP_any]
end Go.Proofs.Ytjcnhgmaabkelaa

/-
  What records do to a book, on: a receipt is held, a secret may be given.
-/
set_option linter.unusedSimpArgs false
set_option linter.unusedVariables false
set_option maxRecDepth 100000
set_option maxHeartbeats 4000000
namespace Go.Proofs.Ytjcnhgmaabkelaa
open Go Go.AL Go.Proofs.Ytjcnhgmaabkelaa.T
attribute [local go_sem] nb_u8s u8s_length nb_sum sumA List.length_replicate zero_sum sum_h u8s_nil sums_len nb_sums states_len helds_len nb_states nb_helds signs_len nb_signs nb_keysT nb_valsT
noncomputable def receiptB (b : Bk) (r : BR) : Bk × Int :=
  if b.taken.length ≠ b.given + 1 ∨ r.receipt.rec_.state ≠ b.given ∨ r.receipt.rec_.channel ≠ b.chan.id then (b, 9)
  else match lookT r.receipt.rec_.tower b.towers with
    | none => (b, 21)
    | some root => if goodB root r.receipt = false then (b, 11)
      else if b.held.any (sameH r.receipt) = true then (b, 8)
      else ({ b with held := b.held ++ [⟨r.receipt.rec_, r.receipt.sig, r.blob⟩] }, 0)
theorem helds_snoc (l : List Held_) (h : Held_) : heldsA l ++ [heldA h] = heldsA (l ++ [h]) := by simp [heldsA]
def brL (r : BR) : Prop := r.receipt.sig.length < 2 ^ 40 ∧ r.blob.length < 2 ^ 40
theorem receipt_spec (nx N : Nat) (b : Bk) (r : BR) (hN : N + 16 < nx) (hL : bkL b) (hr : brL r) : FnSpec Try.prog 41 nx [.ref (N + 16) 0 [], brA r] (bookH b N) (n64 (receiptB b r).2) (bookH (receiptB b r).1 N) 0 := by
  have hx := bkN hN
  obtain ⟨l1, l2, l3, l4, l5, l6⟩ := hL
  obtain ⟨r1, r2⟩ := hr
  have w1 : IntKind.i64.wrap ((b.given : Int) + 1) = ((b.given + 1 : Nat) : Int) := wrapE (by omega) (by omega)
  have hln := fun nc (h : nx ≤ nc) => shlen_spec nc N b (by omega)
  have hl := lookA_T r.receipt.rec_.tower b.towers
  simp only [bookA, chanA, refA] at hln
  by_cases h1 : b.taken.length ≠ b.given + 1 ∨ r.receipt.rec_.state ≠ b.given ∨ r.receipt.rec_.channel ≠ b.chan.id
  · have e : receiptB b r = (b, 9) := by unfold receiptB; rw [if_pos h1]
    rw [e]
    cases hk : lookT r.receipt.rec_.tower b.towers with
    | none =>
      rw [hk] at hl
      simp only [Option.map_none] at hl
      refine FnSpec.of_code (cx := cx) (an := {}) (rs := [.tmp 4]) mo Try.func41 rfl rfl (by kernel_rfl) (by kernel_rfl) (by show 2 ≤ _; decide) (.inl rfl) (by simp [allWr, keys, Res.wr]) ?_
      repeat' (first | omega | assumption | (show AL.ahead _ _ _ = true; rfl) | refine brF (fun _ => ?_) (fun _ => ?_) | refine brT (fun _ => ?_) (fun _ => ?_) | refine brVF (fun _ => ?_) (fun _ => ?_) | refine brVT (fun _ => ?_) (fun _ => ?_) | (with_reducible refine And.intro ?_ ?_) | (refine callK_by (hln _ (by omega)) ?_) | (simp -dsimp -implicitDefEqProofs only [go_sem, ↓reduceIte, Nat.reduceEqDiff, Nat.reduceAdd, Nat.reduceMul, Nat.reduceLeDiff, Nat.reduceLT, Nat.reduceBEq, Nat.reducePow, Int.reduceToNat, Int.reduceLE, Int.reduceLT, Int.reduceNeg, reduceCtorEq, Int.reduceEq, Int.reduceAdd, Int.reduceSub, Int.reduceMul, Nat.reduceSub, bookH, bookA, brA, stateA, signA, srecA, recA, chanA, refA, hx, w1, ↓keysT_ok, hl, Option.getD_none]))
      all_goals trace_state
    | some s =>
      rw [hk] at hl
      simp only [Option.map_some] at hl
      refine FnSpec.of_code (cx := cx) (an := {}) (rs := [.tmp 4]) mo Try.func41 rfl rfl (by kernel_rfl) (by kernel_rfl) (by show 2 ≤ _; decide) (.inl rfl) (by simp [allWr, keys, Res.wr]) ?_
      repeat' (first | omega | assumption | (show AL.ahead _ _ _ = true; rfl) | refine brF (fun _ => ?_) (fun _ => ?_) | refine brT (fun _ => ?_) (fun _ => ?_) | refine brVF (fun _ => ?_) (fun _ => ?_) | refine brVT (fun _ => ?_) (fun _ => ?_) | (with_reducible refine And.intro ?_ ?_) | (refine callK_by (hln _ (by omega)) ?_) | (simp -dsimp -implicitDefEqProofs only [go_sem, ↓reduceIte, Nat.reduceEqDiff, Nat.reduceAdd, Nat.reduceMul, Nat.reduceLeDiff, Nat.reduceLT, Nat.reduceBEq, Nat.reducePow, Int.reduceToNat, Int.reduceLE, Int.reduceLT, Int.reduceNeg, reduceCtorEq, Int.reduceEq, Int.reduceAdd, Int.reduceSub, Int.reduceMul, Nat.reduceSub, bookH, bookA, brA, stateA, signA, srecA, recA, chanA, refA, hx, w1, ↓keysT_ok, hl, Option.getD_some]))
      all_goals trace_state
  · cases hk : lookT r.receipt.rec_.tower b.towers with
    | none =>
      have e : receiptB b r = (b, 21) := by unfold receiptB; rw [if_neg h1, hk]
      rw [e]
      rw [hk] at hl
      simp only [Option.map_none] at hl
      refine FnSpec.of_code (cx := cx) (an := {}) (rs := [.tmp 4]) mo Try.func41 rfl rfl (by kernel_rfl) (by kernel_rfl) (by show 2 ≤ _; decide) (.inl rfl) (by simp [allWr, keys, Res.wr]) ?_
      repeat' (first | omega | assumption | (show AL.ahead _ _ _ = true; rfl) | refine brF (fun _ => ?_) (fun _ => ?_) | refine brT (fun _ => ?_) (fun _ => ?_) | refine brVF (fun _ => ?_) (fun _ => ?_) | refine brVT (fun _ => ?_) (fun _ => ?_) | (with_reducible refine And.intro ?_ ?_) | (refine callK_by (hln _ (by omega)) ?_) | (simp -dsimp -implicitDefEqProofs only [go_sem, ↓reduceIte, Nat.reduceEqDiff, Nat.reduceAdd, Nat.reduceMul, Nat.reduceLeDiff, Nat.reduceLT, Nat.reduceBEq, Nat.reducePow, Int.reduceToNat, Int.reduceLE, Int.reduceLT, Int.reduceNeg, reduceCtorEq, Int.reduceEq, Int.reduceAdd, Int.reduceSub, Int.reduceMul, Nat.reduceSub, bookH, bookA, brA, stateA, signA, srecA, recA, chanA, refA, hx, w1, ↓keysT_ok, hl, Option.getD_none]))
      all_goals trace_state
    | some s =>
      rw [hk] at hl
      simp only [Option.map_some] at hl
      have hgd := fun nc => good_spec nc s r.receipt r1
      simp only [srecA, recA, sumA] at hgd hl
      cases h2 : goodB s r.receipt with
      | false =>
        have e : receiptB b r = (b, 11) := by unfold receiptB; rw [if_neg h1, hk]; simp only [h2, if_true]
        rw [e]
        rw [h2] at hgd
        refine FnSpec.of_code (cx := cx) (an := {}) (rs := [.tmp 4]) mo Try.func41 rfl rfl (by kernel_rfl) (by kernel_rfl) (by show 2 ≤ _; decide) (.inl rfl) (by simp [allWr, keys, Res.wr]) ?_
        repeat' (first | omega | assumption | (show AL.ahead _ _ _ = true; rfl) | refine brF (fun _ => ?_) (fun _ => ?_) | refine brT (fun _ => ?_) (fun _ => ?_) | refine brVF (fun _ => ?_) (fun _ => ?_) | refine brVT (fun _ => ?_) (fun _ => ?_) | (with_reducible refine And.intro ?_ ?_) | (refine callK_by (hln _ (by omega)) ?_) | (refine callK_by (hgd _) ?_) | (simp -dsimp -implicitDefEqProofs only [go_sem, ↓reduceIte, Nat.reduceEqDiff, Nat.reduceAdd, Nat.reduceMul, Nat.reduceLeDiff, Nat.reduceLT, Nat.reduceBEq, Nat.reducePow, Int.reduceToNat, Int.reduceLE, Int.reduceLT, Int.reduceNeg, reduceCtorEq, Int.reduceEq, Int.reduceAdd, Int.reduceSub, Int.reduceMul, Nat.reduceSub, bookH, bookA, brA, stateA, signA, srecA, recA, chanA, refA, hx, w1, ↓keysT_ok, hl, Option.getD_some]))
        all_goals trace_state
      | true =>
        have hha := fun nc (h : nx + 32 < nc) => hasH_spec nc (nx + 32) (N + 14) r.receipt b.held h (by omega) (by omega)
        simp only [srecA, recA, sumA] at hha
        rw [h2] at hgd
        cases h3 : b.held.any (sameH r.receipt) with
        | true =>
          have e : receiptB b r = (b, 8) := by unfold receiptB; rw [if_neg h1, hk]; simp only [h2, h3, if_true, Bool.true_eq_false, if_false]
          rw [e]
          rw [h3] at hha
          refine FnSpec.of_code (cx := cx) (an := {}) (rs := [.tmp 4]) mo Try.func41 rfl rfl (by kernel_rfl) (by kernel_rfl) (by show 2 ≤ _; decide) (.inl rfl) (by simp [allWr, keys, Res.wr]) ?_
          repeat' (first | omega | assumption | (show AL.ahead _ _ _ = true; rfl) | refine brF (fun _ => ?_) (fun _ => ?_) | refine brT (fun _ => ?_) (fun _ => ?_) | refine brVF (fun _ => ?_) (fun _ => ?_) | refine brVT (fun _ => ?_) (fun _ => ?_) | (with_reducible refine And.intro ?_ ?_) | (refine callK_by (hln _ (by omega)) ?_) | (refine callK_by (hgd _) ?_) | (refine callK_by (hha _ (by omega)) ?_) | (simp -dsimp -implicitDefEqProofs only [go_sem, ↓reduceIte, Nat.reduceEqDiff, Nat.reduceAdd, Nat.reduceMul, Nat.reduceLeDiff, Nat.reduceLT, Nat.reduceBEq, Nat.reducePow, Int.reduceToNat, Int.reduceLE, Int.reduceLT, Int.reduceNeg, reduceCtorEq, Int.reduceEq, Int.reduceAdd, Int.reduceSub, Int.reduceMul, Nat.reduceSub, bookH, bookA, brA, stateA, signA, srecA, recA, chanA, refA, hx, w1, ↓keysT_ok, hl, Option.getD_some]))
          all_goals trace_state
        | false =>
          have e : receiptB b r = ({ b with held := b.held ++ [⟨r.receipt.rec_, r.receipt.sig, r.blob⟩] }, 0) := by unfold receiptB; rw [if_neg h1, hk]; simp only [h2, h3, Bool.true_eq_false, Bool.false_eq_true, if_false]
          rw [e]
          rw [h3] at hha
          have hcl := fun nc => cloneB_spec nc r.blob r2
          have hsn := helds_snoc b.held ⟨r.receipt.rec_, r.receipt.sig, r.blob⟩
          simp only [heldA, recA, sumA] at hsn
          refine FnSpec.of_code (cx := cx) (an := {}) (rs := [.tmp 4]) mo Try.func41 rfl rfl (by kernel_rfl) (by kernel_rfl) (by show 2 ≤ _; decide) (.inl rfl) (by simp [allWr, keys, Res.wr]) ?_
          repeat' (first | omega | assumption | (show AL.ahead _ _ _ = true; rfl) | refine brF (fun _ => ?_) (fun _ => ?_) | refine brT (fun _ => ?_) (fun _ => ?_) | refine brVF (fun _ => ?_) (fun _ => ?_) | refine brVT (fun _ => ?_) (fun _ => ?_) | (with_reducible refine And.intro ?_ ?_) | (refine callK_by (hln _ (by omega)) ?_) | (refine callK_by (hgd _) ?_) | (refine callK_by (hha _ (by omega)) ?_) | (refine callK_by (hcl _) ?_) | (simp -dsimp -implicitDefEqProofs only [go_sem, ↓reduceIte, Nat.reduceEqDiff, Nat.reduceAdd, Nat.reduceMul, Nat.reduceLeDiff, Nat.reduceLT, Nat.reduceBEq, Nat.reducePow, Int.reduceToNat, Int.reduceLE, Int.reduceLT, Int.reduceNeg, reduceCtorEq, Int.reduceEq, Int.reduceAdd, Int.reduceSub, Int.reduceMul, Nat.reduceSub, bookH, bookA, brA, stateA, signA, srecA, recA, chanA, refA, hx, w1, ↓keysT_ok, hl, hsn, Option.getD_some]))
          all_goals trace_state
end Go.Proofs.Ytjcnhgmaabkelaa

/-
  What records do to a book: all of them.
-/
set_option linter.unusedSimpArgs false
set_option linter.unusedVariables false
set_option maxRecDepth 100000
set_option maxHeartbeats 4000000
namespace Go.Proofs.Ytjcnhgmaabkelaa
open Go Go.AL Go.Proofs.Ytjcnhgmaabkelaa.T
attribute [local go_sem] nb_u8s u8s_length nb_sum sumA List.length_replicate zero_sum sum_h u8s_nil sums_len nb_sums states_len helds_len nb_states nb_helds signs_len nb_signs nb_keysT nb_valsT
def ofN (n : Int) (l : List Held_) : List Held_ := l.filter fun h => decide (h.rec_.state = n)
theorem ofN_snoc {n : Int} {l : List Held_} {i : Nat} (h : i < l.length) : ofN n (l.take (i + 1)) = ofN n (l.take i) ++ (if l[i].rec_.state = n then [l[i]] else []) := by
  unfold ofN
  rw [← List.take_append_getElem h, List.filter_append]
  congr 1
  by_cases e : l[i].rec_.state = n <;> simp [List.filter, e]
theorem ofN_le (n : Int) (l : List Held_) : (ofN n l).length ≤ l.length := List.length_filter_le _ _
theorem helds_app (a b : List Held_) : heldsA a ++ heldsA b = heldsA (a ++ b) := by simp [heldsA]
theorem held_spec (nx N : Nat) (b : Bk) (n : Int) (hN : N + 16 < nx) (hL : bkL b) : FnSpec Try.prog 71 nx [.ref (N + 16) 0 [], n64 n] [(N + 16, some (.robj (bookA b N)))] (.sl 69 (heldsA (ofN n b.held)) 0) [] 0 := by
  have hx := bkN hN
  obtain ⟨l1, l2, l3, l4, l5, l6⟩ := hL
  have hno := fun nc (h : nx ≤ nc) => bnone_spec nc N b (by omega)
  simp only [bookA, chanA, refA] at hno
  have key : FnSpec Try.prog 71 nx [.ref (N + 16) 0 [], n64 n] [(N + 16, some (.robj (bookA b N)))] (.sl 69 (heldsA (ofN n b.held)) (nx + 11)) [(nx + 9, some (.tail (ofN n b.held).length))] 3000 := by
    refine FnSpec.of_code (cx := cx) (an := {tk := [(5, [([], 69)])]}) (rs := [.tmp 4]) mo Try.func71 rfl rfl (by kernel_rfl) (by kernel_rfl) (by show 2 ≤ _; decide) (.inl rfl) (by simp [allWr, keys, Res.wr]) ?_
    repeat' (first | omega | assumption | (show AL.ahead _ _ _ = true; rfl) | refine brF (fun _ => ?_) (fun _ => ?_) | refine brT (fun _ => ?_) (fun _ => ?_) | refine brVF (fun _ => ?_) (fun _ => ?_) | refine brVT (fun _ => ?_) (fun _ => ?_) | (with_reducible refine And.intro ?_ ?_) | (refine callK_by (hno _ (by omega)) ?_) | (simp -dsimp -implicitDefEqProofs only [go_sem, ↓reduceIte, Nat.reduceEqDiff, Nat.reduceAdd, Nat.reduceMul, Nat.reduceLeDiff, Nat.reduceLT, Nat.reduceBEq, Nat.reducePow, Int.reduceToNat, Int.reduceLE, Int.reduceLT, Int.reduceNeg, reduceCtorEq, Int.reduceEq, Int.reduceAdd, Int.reduceSub, Int.reduceMul, Nat.reduceSub, bookA, chanA, refA, hx]))
    apply loop_keep [1, 13, 14] (fun i : { i : Nat // i ≤ b.held.length } => [(5, .sl 69 (heldsA (ofN n (b.held.take i.1))) (nx + 11)), (15, n64 i.1)]) (fun i => [(nx + 9, some (.tail (ofN n (b.held.take i.1)).length)), (N + 16, some (.robj (bookA b N)))]) (fun i => b.held.length - i.1) ⟨0, Nat.zero_le _⟩
    · simp -dsimp -implicitDefEqProofs only [go_sem, ↓reduceIte, Nat.reduceEqDiff, Nat.reduceAdd, Nat.reduceMul, Nat.reduceLeDiff, Nat.reduceLT, Nat.reduceBEq, Nat.reducePow, Int.reduceToNat, Int.reduceLE, Int.reduceLT, Int.reduceNeg, reduceCtorEq, Int.reduceEq, Int.reduceAdd, Int.reduceSub, Int.reduceMul, Nat.reduceSub]; try rfl
    · simp -dsimp -implicitDefEqProofs only [go_sem, ↓reduceIte, Nat.reduceEqDiff, Nat.reduceAdd, Nat.reduceMul, Nat.reduceLeDiff, Nat.reduceLT, Nat.reduceBEq, Nat.reducePow, Int.reduceToNat, Int.reduceLE, Int.reduceLT, Int.reduceNeg, reduceCtorEq, Int.reduceEq, Int.reduceAdd, Int.reduceSub, Int.reduceMul, Nat.reduceSub, List.take_zero, ofN, List.filter_nil, heldsA, List.map_nil]; try rfl
    · simp -dsimp -implicitDefEqProofs only [go_sem, ↓reduceIte, Nat.reduceEqDiff, Nat.reduceAdd, Nat.reduceMul, Nat.reduceLeDiff, Nat.reduceLT, Nat.reduceBEq, Nat.reducePow, Int.reduceToNat, Int.reduceLE, Int.reduceLT, Int.reduceNeg, reduceCtorEq, Int.reduceEq, Int.reduceAdd, Int.reduceSub, Int.reduceMul, Nat.reduceSub, List.take_zero, ofN, List.filter_nil, List.length_nil, bookA, chanA, refA, hx]; try rfl
    · intro s
      simp -dsimp -implicitDefEqProofs only [go_sem, ↓reduceIte, Nat.reduceEqDiff, Nat.reduceAdd, Nat.reduceMul, Nat.reduceLeDiff, Nat.reduceLT, Nat.reduceBEq, Nat.reducePow, Int.reduceToNat, Int.reduceLE, Int.reduceLT, Int.reduceNeg, reduceCtorEq, Int.reduceEq, Int.reduceAdd, Int.reduceSub, Int.reduceMul, Nat.reduceSub, bookA, chanA, refA]
      try omega
    · rintro ⟨i, hi⟩
      have hi : i ≤ b.held.length := hi
      have hle := ofN_le n (b.held.take i)
      rw [List.length_take] at hle
      simp -dsimp -implicitDefEqProofs only [go_sem, ↓reduceIte, Nat.reduceEqDiff, Nat.reduceAdd, Nat.reduceMul, Nat.reduceLeDiff, Nat.reduceLT, Nat.reduceBEq, Nat.reducePow, Int.reduceToNat, Int.reduceLE, Int.reduceLT, Int.reduceNeg, reduceCtorEq, Int.reduceEq, Int.reduceAdd, Int.reduceSub, Int.reduceMul, Nat.reduceSub]
      refine brT (fun hc => ?_) (fun hc => ?_)
      · have hi2 : i < b.held.length := by omega
        have q1 := helds_get hi2
        have w1 : IntKind.i64.wrap ((i : Int) + 1) = ((i + 1 : Nat) : Int) := wrapE (by omega) (by omega)
        have hsn := ofN_snoc (n := n) hi2
        have hap := helds_snoc (ofN n (b.held.take i)) b.held[i]
        generalize b.held[i] = h at *
        simp only [heldA, recA, sumA] at q1 hap
        by_cases he : h.rec_.state = n
        · rw [if_pos he] at hsn
          repeat' (first | omega | assumption | (show AL.ahead _ _ _ = true; rfl) | refine brF (fun _ => ?_) (fun _ => ?_) | refine brT (fun _ => ?_) (fun _ => ?_) | refine brVF (fun _ => ?_) (fun _ => ?_) | refine brVT (fun _ => ?_) (fun _ => ?_) | (with_reducible refine And.intro ?_ ?_) | (simp -dsimp -implicitDefEqProofs only [go_sem, ↓reduceIte, Nat.reduceEqDiff, Nat.reduceAdd, Nat.reduceMul, Nat.reduceLeDiff, Nat.reduceLT, Nat.reduceBEq, Nat.reducePow, Int.reduceToNat, Int.reduceLE, Int.reduceLT, Int.reduceNeg, reduceCtorEq, Int.reduceEq, Int.reduceAdd, Int.reduceSub, Int.reduceMul, Nat.reduceSub, bookA, chanA, refA, hx, q1, w1, hap]))
          refine ⟨⟨i + 1, hi2⟩, by show b.held.length - (i + 1) < b.held.length - i; omega, ⟨by rw [hsn], rfl⟩, ?_⟩
          rw [hsn, List.length_append]; rfl
        · rw [if_neg he, List.append_nil] at hsn
          repeat' (first | omega | assumption | (show AL.ahead _ _ _ = true; rfl) | refine brF (fun _ => ?_) (fun _ => ?_) | refine brT (fun _ => ?_) (fun _ => ?_) | refine brVF (fun _ => ?_) (fun _ => ?_) | refine brVT (fun _ => ?_) (fun _ => ?_) | (with_reducible refine And.intro ?_ ?_) | (simp -dsimp -implicitDefEqProofs only [go_sem, ↓reduceIte, Nat.reduceEqDiff, Nat.reduceAdd, Nat.reduceMul, Nat.reduceLeDiff, Nat.reduceLT, Nat.reduceBEq, Nat.reducePow, Int.reduceToNat, Int.reduceLE, Int.reduceLT, Int.reduceNeg, reduceCtorEq, Int.reduceEq, Int.reduceAdd, Int.reduceSub, Int.reduceMul, Nat.reduceSub, bookA, chanA, refA, hx, q1, w1]))
          exact ⟨⟨i + 1, hi2⟩, by show b.held.length - (i + 1) < b.held.length - i; omega, ⟨by rw [hsn], rfl⟩, by rw [hsn]⟩
      · have e : i = b.held.length := by omega
        subst e
        repeat' (first | omega | assumption | (show AL.ahead _ _ _ = true; rfl) | refine brF (fun _ => ?_) (fun _ => ?_) | refine brT (fun _ => ?_) (fun _ => ?_) | refine brVF (fun _ => ?_) (fun _ => ?_) | refine brVT (fun _ => ?_) (fun _ => ?_) | (with_reducible refine And.intro ?_ ?_) | (simp -dsimp -implicitDefEqProofs only [go_sem, ↓reduceIte, Nat.reduceEqDiff, Nat.reduceAdd, Nat.reduceMul, Nat.reduceLeDiff, Nat.reduceLT, Nat.reduceBEq, Nat.reducePow, Int.reduceToNat, Int.reduceLE, Int.reduceLT, Int.reduceNeg, reduceCtorEq, Int.reduceEq, Int.reduceAdd, Int.reduceSub, Int.reduceMul, Nat.reduceSub, List.take_length, bookA, chanA, refA, hx]))
        all_goals trace_state
  exact key.forget ⟨rfl, .inr ⟨.inl rfl, .inl rfl⟩⟩ (by simp [AV.nb, nb_helds]) trivial (fun n hn => by simp [keys] at hn) (fun m hm _ => by
    simp [keys] at hm; subst hm
    refine ⟨?_, by omega⟩
    simp [Heap.get]; omega)
end Go.Proofs.Ytjcnhgmaabkelaa

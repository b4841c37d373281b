/-
  What is asked of a book: its states, what was given, what is owed.
-/
import Derived.Test.YtjcnhgmaabkelaaGreatZP50
import Derived.Test.YtjcnhgmaabkelaaGreatZP16
set_option linter.unusedSimpArgs false
set_option linter.unusedVariables false
set_option maxRecDepth 100000
set_option maxHeartbeats 4000000
namespace Go.Proofs.YtjcnhgmaabkelaaGreat
open Go Go.AL Go.Proofs.YtjcnhgmaabkelaaGreat.T
attribute [local go_sem] nb_u8s u8s_length nb_sum sumA List.length_replicate zero_sum sum_h u8s_nil sums_len nb_sums states_len helds_len nb_states nb_helds signs_len nb_signs nb_keysT nb_valsT
theorem cloneS_nil (nx t : Nat) : FnSpec Tryz.prog 39 nx [.sl 67 [] t] [] (.sl 67 [] 0) [] 0 := by
  refine FnSpec.empty fun b n => ?_
  cases b with
  | none =>
    have h : FnSpec Tryz.prog 39 nx [.val (.slice none 0 n)] [] (.sl 0 [] 1) [] 0 := by
      refine FnSpec.of_code (cx := cx) (an := {}) (rs := [.tmp 2]) mo Tryz.func39 rfl rfl (by kernel_rfl) (by kernel_rfl) (by show 1 ≤ _; decide) (.inl rfl) (by simp [allWr, keys, Res.wr]) ?_
      repeat' (first | omega | assumption | (show AL.ahead _ _ _ = true; rfl) | refine brF (fun _ => ?_) (fun _ => ?_) | refine brT (fun _ => ?_) (fun _ => ?_) | refine brVF (fun _ => ?_) (fun _ => ?_) | refine brVT (fun _ => ?_) (fun _ => ?_) | (with_reducible refine And.intro ?_ ?_) | (simp -dsimp -implicitDefEqProofs only [go_sem, ↓reduceIte, Nat.reduceEqDiff, Nat.reduceAdd, Nat.reduceMul, Nat.reduceLeDiff, Nat.reduceLT, Nat.reduceBEq, Nat.reducePow, Int.reduceToNat, Int.reduceLE, Int.reduceLT, Int.reduceNeg, reduceCtorEq, Int.reduceEq, Int.reduceAdd, Int.reduceSub, Int.reduceMul, Nat.reduceSub, Option.isNone_none]))
    exact h.forget0 ⟨rfl, .inr ⟨.inr rfl, .inl rfl⟩⟩ (by simp [AV.nb, AV.nbs]) (by simp [keys])
  | some a =>
    have h : FnSpec Tryz.prog 39 nx [.val (.slice (some a) 0 n)] [] (.sl 67 [] (nx + 42)) [(nx + 40, some (.tail 0))] 60 := by
      refine FnSpec.of_code (cx := cx) (an := {}) (rs := [.tmp 2]) mo Tryz.func39 rfl rfl (by kernel_rfl) (by kernel_rfl) (by show 1 ≤ _; decide) (.inl rfl) (by simp [allWr, keys, Res.wr]) ?_
      repeat' (first | omega | assumption | (show AL.ahead _ _ _ = true; rfl) | refine brF (fun _ => ?_) (fun _ => ?_) | refine brT (fun _ => ?_) (fun _ => ?_) | refine brVF (fun _ => ?_) (fun _ => ?_) | refine brVT (fun _ => ?_) (fun _ => ?_) | (with_reducible refine And.intro ?_ ?_) | (simp -dsimp -implicitDefEqProofs only [go_sem, ↓reduceIte, Nat.reduceEqDiff, Nat.reduceAdd, Nat.reduceMul, Nat.reduceLeDiff, Nat.reduceLT, Nat.reduceBEq, Nat.reducePow, Int.reduceToNat, Int.reduceLE, Int.reduceLT, Int.reduceNeg, reduceCtorEq, Int.reduceEq, Int.reduceAdd, Int.reduceSub, Int.reduceMul, Nat.reduceSub, Option.isNone_some]))
    exact h.forget0 ⟨rfl, .inr ⟨.inl rfl, .inl rfl⟩⟩ (by simp [AV.nb, AV.nbs]) (by simp [keys])
theorem cloneS_spec (nx t : Nat) (l : List St_) (hl : l.length ≤ 1000) (ht : t < 2 ∨ t - 2 < nx) : FnSpec Tryz.prog 39 nx [.sl 67 (statesA l) t] [] (.sl 67 (statesA l) 0) [] 0 := by
  cases l with
  | nil => exact cloneS_nil nx t
  | cons a l =>
    have e : statesA (a :: l) = stateA a :: statesA l := rfl
    simp only [List.length_cons] at hl
    have h : FnSpec Tryz.prog 39 nx [.sl 67 (statesA (a :: l)) t] [] (.sl 67 (statesA (a :: l)) (nx + 42)) [(nx + 40, some (.tail (statesA (a :: l)).length))] 60 := by
      rw [e]
      refine FnSpec.of_code (cx := cx) (an := {}) (rs := [.tmp 2]) mo Tryz.func39 rfl rfl (by kernel_rfl) (by kernel_rfl) (by show 1 ≤ _; decide) (.inl rfl) (by simp [allWr, keys, Res.wr]) ?_
      repeat' (first | omega | assumption | (show AL.ahead _ _ _ = true; rfl) | refine brF (fun _ => ?_) (fun _ => ?_) | refine brT (fun _ => ?_) (fun _ => ?_) | refine brVF (fun _ => ?_) (fun _ => ?_) | refine brVT (fun _ => ?_) (fun _ => ?_) | (with_reducible refine And.intro ?_ ?_) | (simp -dsimp -implicitDefEqProofs only [go_sem, ↓reduceIte, Nat.reduceEqDiff, Nat.reduceAdd, Nat.reduceMul, Nat.reduceLeDiff, Nat.reduceLT, Nat.reduceBEq, Nat.reducePow, Int.reduceToNat, Int.reduceLE, Int.reduceLT, Int.reduceNeg, reduceCtorEq, Int.reduceEq, Int.reduceAdd, Int.reduceSub, Int.reduceMul, Nat.reduceSub, stateA]))
      all_goals trace_state
    exact h.forget0 ⟨rfl, .inr ⟨.inl rfl, .inl rfl⟩⟩ (by simp [AV.nb, nb_states]) (by simp [keys])
theorem bstates_spec (nx N : Nat) (b : Bk) (hN : N + 16 < nx) (hL : bkL b) : FnSpec Tryz.prog 17 nx [.ref (N + 16) 0 []] [(N + 16, some (.robj (bookA b N)))] (.sl 67 (statesA b.states) 0) [] 0 := by
  have hx := bkN hN
  have hno := fun nc (h : nx ≤ nc) => bnone_spec nc N b (by omega)
  have hcl := fun nc (h : nx ≤ nc) => cloneS_spec nc (N + 11) b.states hL.1 (by omega)
  simp only [bookA, chanA, refA] at hno
  refine FnSpec.of_code (cx := cx) (an := {}) (rs := [.tmp 2]) mo Tryz.func17 rfl rfl (by kernel_rfl) (by kernel_rfl) (by show 1 ≤ _; decide) (.inl rfl) (by simp [allWr, keys, Res.wr]) ?_
  repeat' (first | omega | assumption | (show AL.ahead _ _ _ = true; rfl) | refine brF (fun _ => ?_) (fun _ => ?_) | refine brT (fun _ => ?_) (fun _ => ?_) | refine brVF (fun _ => ?_) (fun _ => ?_) | refine brVT (fun _ => ?_) (fun _ => ?_) | (with_reducible refine And.intro ?_ ?_) | (refine callK_by (hno _ (by omega)) ?_) | (refine callK_by (hcl _ (by omega)) ?_) | (simp -dsimp -implicitDefEqProofs only [go_sem, ↓reduceIte, Nat.reduceEqDiff, Nat.reduceAdd, Nat.reduceMul, Nat.reduceLeDiff, Nat.reduceLT, Nat.reduceBEq, Nat.reducePow, Int.reduceToNat, Int.reduceLE, Int.reduceLT, Int.reduceNeg, reduceCtorEq, Int.reduceEq, Int.reduceAdd, Int.reduceSub, Int.reduceMul, Nat.reduceSub, bookA, chanA, refA, hx]))
  all_goals trace_state
theorem bgiven_spec (nx N : Nat) (b : Bk) (hN : N + 16 < nx) : FnSpec Tryz.prog 19 nx [.ref (N + 16) 0 []] [(N + 16, some (.robj (bookA b N)))] (n64 b.given) [] 0 := by
  have hx := bkN hN
  have hno := fun nc (h : nx ≤ nc) => bnone_spec nc N b (by omega)
  simp only [bookA, chanA, refA] at hno
  refine FnSpec.of_code (cx := cx) (an := {}) (rs := [.tmp 2]) mo Tryz.func19 rfl rfl (by kernel_rfl) (by kernel_rfl) (by show 1 ≤ _; decide) (.inl rfl) (by simp [allWr, keys, Res.wr]) ?_
  repeat' (first | omega | assumption | (show AL.ahead _ _ _ = true; rfl) | refine brF (fun _ => ?_) (fun _ => ?_) | refine brT (fun _ => ?_) (fun _ => ?_) | refine brVF (fun _ => ?_) (fun _ => ?_) | refine brVT (fun _ => ?_) (fun _ => ?_) | (with_reducible refine And.intro ?_ ?_) | (refine callK_by (hno _ (by omega)) ?_) | (simp -dsimp -implicitDefEqProofs only [go_sem, ↓reduceIte, Nat.reduceEqDiff, Nat.reduceAdd, Nat.reduceMul, Nat.reduceLeDiff, Nat.reduceLT, Nat.reduceBEq, Nat.reducePow, Int.reduceToNat, Int.reduceLE, Int.reduceLT, Int.reduceNeg, reduceCtorEq, Int.reduceEq, Int.reduceAdd, Int.reduceSub, Int.reduceMul, Nat.reduceSub, bookA, chanA, refA, hx]))
  all_goals trace_state
def stZ : St_ := ⟨0, 0, 0, zeroS, zeroS⟩
/-- what a book is sure of -/
def owedB (b : Bk) : Int :=
  if b.opened = true then
    (if b.given + 1 < b.states.length then min ((b.states[b.given]?).getD stZ).client ((b.states[b.given + 1]?).getD stZ).client else ((b.states[b.given]?).getD stZ).client)
  else 0
theorem states_getZ {l : List St_} {i : Nat} (h : i < l.length) : (statesA l).getD i .undef = stateA ((l[i]?).getD stZ) := states_get h
theorem now_closed (nx N : Nat) (b : Bk) (hN : N + 16 < nx) (ho : b.opened = false) : FnSpec Tryz.prog 40 nx [.ref (N + 16) 0 []] [(N + 16, some (.robj (bookA b N)))] (.tup [stateA stZ, stateA stZ, bA false]) [] 0 := by
  have hx := bkN hN
  have hno := fun nc (h : nx ≤ nc) => bnone_spec nc N b (by omega)
  simp only [bookA, chanA, refA] at hno
  refine FnSpec.of_code (cx := cx) (an := {}) (rs := [.cell 2 64, .cell 3 64, .tmp 4]) mo Tryz.func40 rfl rfl (by kernel_rfl) (by kernel_rfl) (by show 1 ≤ _; decide) (.inr ⟨_, rfl, by simp [AV.good, stateA]⟩) (by simp [allWr, keys, Res.wr]) ?_
  repeat' (first | omega | assumption | (show AL.ahead _ _ _ = true; rfl) | refine brF (fun _ => ?_) (fun _ => ?_) | refine brT (fun _ => ?_) (fun _ => ?_) | refine brVF (fun _ => ?_) (fun _ => ?_) | refine brVT (fun _ => ?_) (fun _ => ?_) | (with_reducible refine And.intro ?_ ?_) | (refine callK_by (hno _ (by omega)) ?_) | (simp -dsimp -implicitDefEqProofs only [go_sem, ↓reduceIte, Nat.reduceEqDiff, Nat.reduceAdd, Nat.reduceMul, Nat.reduceLeDiff, Nat.reduceLT, Nat.reduceBEq, Nat.reducePow, Int.reduceToNat, Int.reduceLE, Int.reduceLT, Int.reduceNeg, reduceCtorEq, Int.reduceEq, Int.reduceAdd, Int.reduceSub, Int.reduceMul, Nat.reduceSub, bookA, chanA, refA, stateA, stZ, ho, hx]))
  all_goals (first | (simp [AV.nbs, AV.nb, nb_u8s, List.replicate]; done) | trace_state)
theorem now_one (nx N : Nat) (b : Bk) (hN : N + 16 < nx) (ho : b.opened = true) (h1 : b.given < b.states.length) (h2 : ¬ b.given + 1 < b.states.length) (hg : b.given ≤ 1000) :
    FnSpec Tryz.prog 40 nx [.ref (N + 16) 0 []] [(N + 16, some (.robj (bookA b N)))] (.tup [stateA ((b.states[b.given]?).getD stZ), stateA stZ, bA false]) [] 0 := by
  have hx := bkN hN
  have w1 : IntKind.i64.wrap ((b.given : Int) + 1) = ((b.given + 1 : Nat) : Int) := wrapE (by omega) (by omega)
  have q1 := states_getZ h1
  generalize (b.states[b.given]?).getD stZ = s at *
  simp only [stateA] at q1
  have hno := fun nc (h : nx ≤ nc) => bnone_spec nc N b (by omega)
  simp only [bookA, chanA, refA] at hno
  refine FnSpec.of_code (cx := cx) (an := {}) (rs := [.cell 2 64, .cell 3 64, .tmp 4]) mo Tryz.func40 rfl rfl (by kernel_rfl) (by kernel_rfl) (by show 1 ≤ _; decide) (.inr ⟨_, rfl, by simp [AV.good, stateA]⟩) (by simp [allWr, keys, Res.wr]) ?_
  repeat' (first | omega | assumption | (show AL.ahead _ _ _ = true; rfl) | refine brF (fun _ => ?_) (fun _ => ?_) | refine brT (fun _ => ?_) (fun _ => ?_) | refine brVF (fun _ => ?_) (fun _ => ?_) | refine brVT (fun _ => ?_) (fun _ => ?_) | (with_reducible refine And.intro ?_ ?_) | (refine callK_by (hno _ (by omega)) ?_) | (simp -dsimp -implicitDefEqProofs only [go_sem, ↓reduceIte, Nat.reduceEqDiff, Nat.reduceAdd, Nat.reduceMul, Nat.reduceLeDiff, Nat.reduceLT, Nat.reduceBEq, Nat.reducePow, Int.reduceToNat, Int.reduceLE, Int.reduceLT, Int.reduceNeg, reduceCtorEq, Int.reduceEq, Int.reduceAdd, Int.reduceSub, Int.reduceMul, Nat.reduceSub, bookA, chanA, refA, stateA, stZ, ho, hx, w1, q1]))
  all_goals (first | (simp [AV.nbs, AV.nb, nb_u8s, List.replicate]; done) | trace_state)
theorem now_two (nx N : Nat) (b : Bk) (hN : N + 16 < nx) (ho : b.opened = true) (h2 : b.given + 1 < b.states.length) (hg : b.given ≤ 1000) :
    FnSpec Tryz.prog 40 nx [.ref (N + 16) 0 []] [(N + 16, some (.robj (bookA b N)))] (.tup [stateA ((b.states[b.given]?).getD stZ), stateA ((b.states[b.given + 1]?).getD stZ), bA true]) [] 0 := by
  have hx := bkN hN
  have w1 : IntKind.i64.wrap ((b.given : Int) + 1) = ((b.given + 1 : Nat) : Int) := wrapE (by omega) (by omega)
  have q1 := states_getZ (l := b.states) (i := b.given) (by omega)
  have q2 := states_getZ h2
  generalize (b.states[b.given]?).getD stZ = s at *
  generalize (b.states[b.given + 1]?).getD stZ = s2 at *
  simp only [stateA] at q1 q2
  have hno := fun nc (h : nx ≤ nc) => bnone_spec nc N b (by omega)
  simp only [bookA, chanA, refA] at hno
  refine FnSpec.of_code (cx := cx) (an := {}) (rs := [.cell 2 64, .cell 3 64, .tmp 4]) mo Tryz.func40 rfl rfl (by kernel_rfl) (by kernel_rfl) (by show 1 ≤ _; decide) (.inr ⟨_, rfl, by simp [AV.good, stateA]⟩) (by simp [allWr, keys, Res.wr]) ?_
  repeat' (first | omega | assumption | (show AL.ahead _ _ _ = true; rfl) | refine brF (fun _ => ?_) (fun _ => ?_) | refine brT (fun _ => ?_) (fun _ => ?_) | refine brVF (fun _ => ?_) (fun _ => ?_) | refine brVT (fun _ => ?_) (fun _ => ?_) | (with_reducible refine And.intro ?_ ?_) | (refine callK_by (hno _ (by omega)) ?_) | (simp -dsimp -implicitDefEqProofs only [go_sem, ↓reduceIte, Nat.reduceEqDiff, Nat.reduceAdd, Nat.reduceMul, Nat.reduceLeDiff, Nat.reduceLT, Nat.reduceBEq, Nat.reducePow, Int.reduceToNat, Int.reduceLE, Int.reduceLT, Int.reduceNeg, reduceCtorEq, Int.reduceEq, Int.reduceAdd, Int.reduceSub, Int.reduceMul, Nat.reduceSub, bookA, chanA, refA, stateA, stZ, ho, hx, w1, q1, q2]))
  all_goals (first | (simp [AV.nbs, AV.nb, nb_u8s, List.replicate]; done) | trace_state)
theorem bowed_spec (nx N : Nat) (b : Bk) (hN : N + 16 < nx) (ho : b.opened = true → b.given < b.states.length) (hg : b.given ≤ 1000) : FnSpec Tryz.prog 18 nx [.ref (N + 16) 0 []] [(N + 16, some (.robj (bookA b N)))] (n64 (owedB b)) [] 0 := by
  have hx := bkN hN
  cases hop : b.opened with
  | false =>
    have e : owedB b = 0 := by unfold owedB; rw [hop]; rfl
    rw [e]
    have hn := fun nc (h : nx ≤ nc) => now_closed nc N b (by omega) hop
    simp only [stateA] at hn
    refine FnSpec.of_code (cx := cx) (an := {}) (rs := [.tmp 2]) mo Tryz.func18 rfl rfl (by kernel_rfl) (by kernel_rfl) (by show 1 ≤ _; decide) (.inl rfl) (by simp [allWr, keys, Res.wr]) ?_
    repeat' (first | omega | assumption | (show AL.ahead _ _ _ = true; rfl) | refine brF (fun _ => ?_) (fun _ => ?_) | refine brT (fun _ => ?_) (fun _ => ?_) | refine brVF (fun _ => ?_) (fun _ => ?_) | refine brVT (fun _ => ?_) (fun _ => ?_) | (with_reducible refine And.intro ?_ ?_) | (refine callK_by (hn _ (by omega)) ?_) | (simp -dsimp -implicitDefEqProofs only [go_sem, ↓reduceIte, Nat.reduceEqDiff, Nat.reduceAdd, Nat.reduceMul, Nat.reduceLeDiff, Nat.reduceLT, Nat.reduceBEq, Nat.reducePow, Int.reduceToNat, Int.reduceLE, Int.reduceLT, Int.reduceNeg, reduceCtorEq, Int.reduceEq, Int.reduceAdd, Int.reduceSub, Int.reduceMul, Nat.reduceSub, hx]))
    all_goals first | rfl | trace_state
  | true =>
    have h1 := ho hop
    by_cases h2 : b.given + 1 < b.states.length
    · have e : owedB b = min ((b.states[b.given]?).getD stZ).client ((b.states[b.given + 1]?).getD stZ).client := by unfold owedB; rw [if_pos hop, if_pos h2]
      rw [e]
      have hn := fun nc (h : nx ≤ nc) => now_two nc N b (by omega) hop h2 hg
      simp only [stateA] at hn
      refine FnSpec.of_code (cx := cx) (an := {}) (rs := [.tmp 2]) mo Tryz.func18 rfl rfl (by kernel_rfl) (by kernel_rfl) (by show 1 ≤ _; decide) (.inl rfl) (by simp [allWr, keys, Res.wr]) ?_
      repeat' (first | omega | assumption | (show AL.ahead _ _ _ = true; rfl) | refine brF (fun _ => ?_) (fun _ => ?_) | refine brT (fun _ => ?_) (fun _ => ?_) | refine brVF (fun _ => ?_) (fun _ => ?_) | refine brVT (fun _ => ?_) (fun _ => ?_) | (with_reducible refine And.intro ?_ ?_) | (refine callK_by (hn _ (by omega)) ?_) | (simp -dsimp -implicitDefEqProofs only [go_sem, ↓reduceIte, Nat.reduceEqDiff, Nat.reduceAdd, Nat.reduceMul, Nat.reduceLeDiff, Nat.reduceLT, Nat.reduceBEq, Nat.reducePow, Int.reduceToNat, Int.reduceLE, Int.reduceLT, Int.reduceNeg, reduceCtorEq, Int.reduceEq, Int.reduceAdd, Int.reduceSub, Int.reduceMul, Nat.reduceSub, hx]))
      all_goals trace_state
    · have e : owedB b = ((b.states[b.given]?).getD stZ).client := by unfold owedB; rw [if_pos hop, if_neg h2]
      rw [e]
      have hn := fun nc (h : nx ≤ nc) => now_one nc N b (by omega) hop h1 h2 hg
      simp only [stateA] at hn
      refine FnSpec.of_code (cx := cx) (an := {}) (rs := [.tmp 2]) mo Tryz.func18 rfl rfl (by kernel_rfl) (by kernel_rfl) (by show 1 ≤ _; decide) (.inl rfl) (by simp [allWr, keys, Res.wr]) ?_
      repeat' (first | omega | assumption | (show AL.ahead _ _ _ = true; rfl) | refine brF (fun _ => ?_) (fun _ => ?_) | refine brT (fun _ => ?_) (fun _ => ?_) | refine brVF (fun _ => ?_) (fun _ => ?_) | refine brVT (fun _ => ?_) (fun _ => ?_) | (with_reducible refine And.intro ?_ ?_) | (refine callK_by (hn _ (by omega)) ?_) | (simp -dsimp -implicitDefEqProofs only [go_sem, ↓reduceIte, Nat.reduceEqDiff, Nat.reduceAdd, Nat.reduceMul, Nat.reduceLeDiff, Nat.reduceLT, Nat.reduceBEq, Nat.reducePow, Int.reduceToNat, Int.reduceLE, Int.reduceLT, Int.reduceNeg, reduceCtorEq, Int.reduceEq, Int.reduceAdd, Int.reduceSub, Int.reduceMul, Nat.reduceSub, hx]))
      all_goals trace_state
end Go.Proofs.YtjcnhgmaabkelaaGreat

/-
  What holds of a book, whatever records came: the plain law behind ClaimOwed and ScanFails.
-/
set_option linter.unusedSimpArgs false
set_option linter.unusedVariables false
set_option maxRecDepth 100000
set_option maxHeartbeats 1000000
namespace Go.Proofs.YtjcnhgmaabkelaaGreat
open Go Go.AL Go.Proofs.YtjcnhgmaabkelaaGreat.T
/-- A book behind so many records. -/
def okB (b : Bk) (i : Nat) : Prop := b.states.length ≤ i ∧ b.signs.length ≤ i ∧ b.taken.length ≤ i ∧ b.given ≤ i ∧ b.held.length ≤ i ∧
  (b.opened = false → b.states = [] ∧ b.signs = [] ∧ b.given = 0 ∧ b.taken = []) ∧ (b.opened = true → b.taken.length < b.states.length ∧ b.given ≤ b.taken.length)
theorem okB_bk {b : Bk} {i : Nat} (h : okB b i) (hi : i ≤ 1000) : bkL b := by
  obtain ⟨h1, h2, h3, h4, h5, h6, _⟩ := h
  exact ⟨by omega, by omega, by omega, by omega, by omega, fun h => ⟨(h6 h).1, (h6 h).2.1⟩⟩
theorem okB_mono {b : Bk} {i : Nat} (h : okB b i) : okB b (i + 1) := by
  obtain ⟨h1, h2, h3, h4, h5, h6, h7⟩ := h
  exact ⟨by omega, by omega, by omega, by omega, by omega, h6, h7⟩
theorem okB_zero : okB bk0 0 := ⟨Nat.le_refl _, Nat.le_refl _, Nat.le_refl _, Nat.le_refl _, Nat.le_refl _, fun _ => ⟨rfl, rfl, rfl, rfl⟩, fun h => by cases h⟩
theorem begin_ok {b : Bk} {i : Nat} (r : BR) (h : okB b i) : okB (beginB b r).1 (i + 1) := by
  unfold beginB
  split
  · exact okB_mono h
  · rename_i ho
    split
    · exact okB_mono h
    · obtain ⟨h1, h2, h3, h4, h5, h6, h7⟩ := h
      obtain ⟨e1, e2, e3, e4⟩ := h6 (by cases hh : b.opened with
        | true => exact absurd hh ho
        | false => rfl)
      refine ⟨by simp, by simp, by simp only; omega, by simp only; omega, by simp only; omega, fun h => by simp at h, fun _ => ⟨by simp [e4], by simp [e3]⟩⟩
theorem tower_ok {b : Bk} {i : Nat} (r : BR) (h : okB b i) : okB (towerB b r).1 (i + 1) := by
  unfold towerB
  split
  · exact okB_mono h
  · split
    · exact okB_mono h
    · exact okB_mono h
theorem state_ok {b : Bk} {i : Nat} (r : BR) (h : okB b i) (ho : b.opened = true) : okB (stateB b r).1 (i + 1) := by
  unfold stateB
  split
  · exact okB_mono h
  · split
    · exact okB_mono h
    · obtain ⟨h1, h2, h3, h4, h5, h6, h7⟩ := h
      obtain ⟨g1, g2⟩ := h7 ho
      refine ⟨by simp only [List.length_append, List.length_cons, List.length_nil]; omega, by simp only; omega, by simp only; omega, by simp only; omega, by simp only; omega, fun h => by simp [ho] at h, fun _ => ⟨by simp only [List.length_append, List.length_cons, List.length_nil]; omega, g2⟩⟩
theorem take_ok {b : Bk} {i : Nat} (r : BR) (h : okB b i) (ho : b.opened = true) : okB (takeB b r).1 (i + 1) := by
  unfold takeB
  split
  · exact okB_mono h
  · rename_i hne
    split
    · exact okB_mono h
    · obtain ⟨h1, h2, h3, h4, h5, h6, h7⟩ := h
      obtain ⟨g1, g2⟩ := h7 ho
      refine ⟨by simp only; omega, by simp only [List.length_append, List.length_cons, List.length_nil]; omega, by simp only [List.length_append, List.length_cons, List.length_nil]; omega, by simp only; omega, by simp only; omega, fun h => by simp [ho] at h, fun _ => ⟨by simp only [List.length_append, List.length_cons, List.length_nil]; omega, by simp only [List.length_append, List.length_cons, List.length_nil]; omega⟩⟩
theorem receipt_ok {b : Bk} {i : Nat} (r : BR) (h : okB b i) : okB (receiptB b r).1 (i + 1) := by
  unfold receiptB
  split
  · exact okB_mono h
  · split
    · exact okB_mono h
    · split
      · exact okB_mono h
      · split
        · exact okB_mono h
        · obtain ⟨h1, h2, h3, h4, h5, h6, h7⟩ := h
          exact ⟨by simp only; omega, by simp only; omega, by simp only; omega, by simp only; omega, by simp only [List.length_append, List.length_cons, List.length_nil]; omega, h6, h7⟩
theorem give_ok {b : Bk} {i : Nat} (h : okB b i) (ho : b.opened = true) : okB (giveB b).1 (i + 1) := by
  unfold giveB
  split
  · exact okB_mono h
  · rename_i hne
    split
    · exact okB_mono h
    · obtain ⟨h1, h2, h3, h4, h5, h6, h7⟩ := h
      obtain ⟨g1, g2⟩ := h7 ho
      have hlen : b.taken.length = b.given + 1 := Classical.byContradiction fun h => hne (.inr h)
      exact ⟨by simp only; omega, by simp only; omega, by simp only; omega, by simp only; omega, by simp only; omega, fun h => by simp [ho] at h, fun _ => ⟨g1, by simp only; omega⟩⟩
theorem apply_ok {b : Bk} {i : Nat} (r : BR) (h : okB b i) : okB (applyB b r).1 (i + 1) := by
  unfold applyB
  split
  · exact begin_ok r h
  · split
    · exact tower_ok r h
    · split
      · exact okB_mono h
      · rename_i ho
        have ho : b.opened = true := by cases hh : b.opened with
          | true => rfl
          | false => exact absurd hh ho
        split
        · exact state_ok r h ho
        · split
          · exact take_ok r h ho
          · split
            · exact receipt_ok r h
            · split
              · exact give_ok h ho
              · split
                · split
                  · exact okB_mono h
                  · obtain ⟨h1, h2, h3, h4, h5, h6, h7⟩ := okB_mono h
                    exact ⟨h1, h2, h3, h4, h5, h6, h7⟩
                · exact okB_mono h
/-- the book behind the first so many records -/
noncomputable def runB (l : List BR) (i : Nat) : Bk := (l.take i).foldl (fun b r => (applyB b r).1) bk0
theorem runB_zero (l : List BR) : runB l 0 = bk0 := by simp [runB]
theorem runB_succ {l : List BR} {i : Nat} (h : i < l.length) : runB l (i + 1) = (applyB (runB l i) l[i]).1 := by
  unfold runB
  rw [← List.take_append_getElem h, List.foldl_append]
  rfl
theorem runB_ok (l : List BR) : ∀ i, i ≤ l.length → okB (runB l i) i
  | 0, _ => by rw [runB_zero]; exact okB_zero
  | i + 1, h => by rw [runB_succ h]; exact apply_ok _ (runB_ok l i (by omega))
end Go.Proofs.YtjcnhgmaabkelaaGreat

/-
  The example of the law ClaimOps: a book that is new, a nil one.
-/
set_option linter.unusedSimpArgs false
set_option linter.unusedVariables false
set_option maxRecDepth 100000
set_option maxHeartbeats 1000000
namespace Go.Proofs.YtjcnhgmaabkelaaGreat
open Go Go.AL Go.Proofs.YtjcnhgmaabkelaaGreat.T
attribute [local go_sem] nb_u8s u8s_length nb_sum sumA List.length_replicate zero_sum sum_h nb_vals vals_len u8s_nil
theorem bnone_nil (nx : Nat) : FnSpec Tryz.prog 32 nx [nilP] [] (bA true) [] 0 := by
  refine FnSpec.of_code (cx := cx) (an := {}) (rs := [.tmp 2]) mo Tryz.func32 rfl rfl (by kernel_rfl) (by kernel_rfl) (by show 1 ≤ _; decide) (.inl rfl) (by simp [allWr, keys, Res.wr]) ?_
  repeat' (first | omega | assumption | (show AL.ahead _ _ _ = true; rfl) | refine brF (fun _ => ?_) (fun _ => ?_) | refine brT (fun _ => ?_) (fun _ => ?_) | refine brVF (fun _ => ?_) (fun _ => ?_) | refine brVT (fun _ => ?_) (fun _ => ?_) | (with_reducible refine And.intro ?_ ?_) | (simp -dsimp -implicitDefEqProofs only [go_sem, ↓reduceIte, Nat.reduceEqDiff, Nat.reduceAdd, Nat.reduceMul, Nat.reduceLeDiff, Nat.reduceLT, Nat.reduceBEq, Nat.reducePow, Int.reduceToNat, Int.reduceLE, Int.reduceLT, Int.reduceNeg, reduceCtorEq, Int.reduceEq, Int.reduceAdd, Int.reduceSub, Int.reduceMul, Nat.reduceSub]))
theorem bchan_nil (nx : Nat) : FnSpec Tryz.prog 41 nx [nilP] [] (.tup [chanA chanZ, bA false]) [] 0 := by
  refine FnSpec.of_code (cx := cx) (an := {}) (rs := [.cell 2 27, .tmp 3]) mo Tryz.func41 rfl rfl (by kernel_rfl) (by kernel_rfl) (by show 1 ≤ _; decide) (.inr ⟨_, rfl, by simp [AV.good, chanA]⟩) (by simp [allWr, keys, Res.wr]) ?_
  repeat' (first | omega | assumption | (show AL.ahead _ _ _ = true; rfl) | refine brF (fun _ => ?_) (fun _ => ?_) | refine brT (fun _ => ?_) (fun _ => ?_) | refine brVF (fun _ => ?_) (fun _ => ?_) | refine brVT (fun _ => ?_) (fun _ => ?_) | (with_reducible refine And.intro ?_ ?_) | (refine callK_by (bnone_nil _) ?_) | (simp -dsimp -implicitDefEqProofs only [go_sem, ↓reduceIte, Nat.reduceEqDiff, Nat.reduceAdd, Nat.reduceMul, Nat.reduceLeDiff, Nat.reduceLT, Nat.reduceBEq, Nat.reducePow, Int.reduceToNat, Int.reduceLE, Int.reduceLT, Int.reduceNeg, reduceCtorEq, Int.reduceEq, Int.reduceAdd, Int.reduceSub, Int.reduceMul, Nat.reduceSub, chanA, refA, chanZ]))
/-- the zero state -/
def stateZ : AV := .agg 67 [n64 0, n64 0, n64 0, .vec 32 (List.replicate 2 (sumA zeroS))]
theorem bnow_nil (nx : Nat) : FnSpec Tryz.prog 40 nx [nilP] [] (.tup [stateZ, stateZ, bA false]) [] 0 := by
  refine FnSpec.of_code (cx := cx) (an := {}) (rs := [.cell 2 64, .cell 3 64, .tmp 4]) mo Tryz.func40 rfl rfl (by kernel_rfl) (by kernel_rfl) (by show 1 ≤ _; decide) (.inr ⟨_, rfl, by simp [AV.good, stateZ]⟩) (by simp [allWr, keys, Res.wr]) ?_
  repeat' (first | omega | assumption | (show AL.ahead _ _ _ = true; rfl) | refine brF (fun _ => ?_) (fun _ => ?_) | refine brT (fun _ => ?_) (fun _ => ?_) | refine brVF (fun _ => ?_) (fun _ => ?_) | refine brVT (fun _ => ?_) (fun _ => ?_) | (with_reducible refine And.intro ?_ ?_) | (refine callK_by (bnone_nil _) ?_) | (simp -dsimp -implicitDefEqProofs only [go_sem, ↓reduceIte, Nat.reduceEqDiff, Nat.reduceAdd, Nat.reduceMul, Nat.reduceLeDiff, Nat.reduceLT, Nat.reduceBEq, Nat.reducePow, Int.reduceToNat, Int.reduceLE, Int.reduceLT, Int.reduceNeg, reduceCtorEq, Int.reduceEq, Int.reduceAdd, Int.reduceSub, Int.reduceMul, Nat.reduceSub, stateZ]))
  all_goals simp [AV.nbs, AV.nb, nb_u8s, List.replicate]
theorem owedNil_spec (nx : Nat) : FnSpec Tryz.prog 18 nx [nilP] [] (n64 0) [] 0 := by
  refine FnSpec.of_code (cx := cx) (an := {}) (rs := [.tmp 2]) mo Tryz.func18 rfl rfl (by kernel_rfl) (by kernel_rfl) (by show 1 ≤ _; decide) (.inl rfl) (by simp [allWr, keys, Res.wr]) ?_
  repeat' (first | omega | assumption | (show AL.ahead _ _ _ = true; rfl) | refine brF (fun _ => ?_) (fun _ => ?_) | refine brT (fun _ => ?_) (fun _ => ?_) | refine brVF (fun _ => ?_) (fun _ => ?_) | refine brVT (fun _ => ?_) (fun _ => ?_) | (with_reducible refine And.intro ?_ ?_) | (refine callK_by (bnow_nil _) ?_) | (simp -dsimp -implicitDefEqProofs only [go_sem, ↓reduceIte, Nat.reduceEqDiff, Nat.reduceAdd, Nat.reduceMul, Nat.reduceLeDiff, Nat.reduceLT, Nat.reduceBEq, Nat.reducePow, Int.reduceToNat, Int.reduceLE, Int.reduceLT, Int.reduceNeg, reduceCtorEq, Int.reduceEq, Int.reduceAdd, Int.reduceSub, Int.reduceMul, Nat.reduceSub, stateZ]))
  all_goals trace_state
theorem planNil_spec (nx : Nat) : FnSpec Tryz.prog 21 nx [nilP, nilP, n64 1, bA true, n64 0] [] (.sl 0 [] 1) [] 0 := by
  refine FnSpec.of_code (cx := cx) (an := {}) (rs := [.tmp 10]) mo Tryz.func21 rfl rfl (by kernel_rfl) (by kernel_rfl) (by show 5 ≤ _; decide) (.inl rfl) (by simp [allWr, keys, Res.wr]) ?_
  repeat' (first | omega | assumption | (show AL.ahead _ _ _ = true; rfl) | refine brF (fun _ => ?_) (fun _ => ?_) | refine brT (fun _ => ?_) (fun _ => ?_) | refine brVF (fun _ => ?_) (fun _ => ?_) | refine brVT (fun _ => ?_) (fun _ => ?_) | (with_reducible refine And.intro ?_ ?_) | (refine callK_by (bchan_nil _) ?_) | (simp -dsimp -implicitDefEqProofs only [go_sem, ↓reduceIte, Nat.reduceEqDiff, Nat.reduceAdd, Nat.reduceMul, Nat.reduceLeDiff, Nat.reduceLT, Nat.reduceBEq, Nat.reducePow, Int.reduceToNat, Int.reduceLE, Int.reduceLT, Int.reduceNeg, reduceCtorEq, Int.reduceEq, Int.reduceAdd, Int.reduceSub, Int.reduceMul, Nat.reduceSub, chanA, refA, chanZ]))
end Go.Proofs.YtjcnhgmaabkelaaGreat

/-
  What a new book says; the example of the law ClaimOps.
-/
set_option linter.unusedSimpArgs false
set_option linter.unusedVariables false
set_option maxRecDepth 100000
set_option maxHeartbeats 1000000
namespace Go.Proofs.YtjcnhgmaabkelaaGreat
open Go Go.AL Go.Proofs.YtjcnhgmaabkelaaGreat.T
attribute [local go_sem] nb_u8s u8s_length nb_sum sumA List.length_replicate zero_sum sum_h nb_vals vals_len u8s_nil ways_len nb_ways ins_len outs_len signs_len nb_ins nb_outs nb_signs
def bookZ (m : Nat) : AV := .agg 47 [chanA chanZ, bA false, .sl 67 [] 1, .sl 33 [] 1, .agg 1 [.sl 32 [] 1], n64 0, .sl 69 [] 1, .map m, bA false]
theorem bnew_spec (nx : Nat) : FnSpec Tryz.prog 15 nx [] [] (.cref (bookZ (nx + 8))) [(nx + 8, some (.mp []))] 40 := by
  refine FnSpec.of_code (cx := cx) (an := {}) (rs := [.tmp 0]) mo Tryz.func15 rfl rfl (by kernel_rfl) (by kernel_rfl) (by show 0 ≤ _; decide) (.inl rfl) (by simp [allWr, keys, Res.wr]) ?_
  repeat' (first | omega | assumption | (show AL.ahead _ _ _ = true; rfl) | refine brF (fun _ => ?_) (fun _ => ?_) | refine brT (fun _ => ?_) (fun _ => ?_) | refine brVF (fun _ => ?_) (fun _ => ?_) | refine brVT (fun _ => ?_) (fun _ => ?_) | (with_reducible refine And.intro ?_ ?_) | (simp -dsimp -implicitDefEqProofs only [go_sem, ↓reduceIte, Nat.reduceEqDiff, Nat.reduceAdd, Nat.reduceMul, Nat.reduceLeDiff, Nat.reduceLT, Nat.reduceBEq, Nat.reducePow, Int.reduceToNat, Int.reduceLE, Int.reduceLT, Int.reduceNeg, reduceCtorEq, Int.reduceEq, Int.reduceAdd, Int.reduceSub, Int.reduceMul, Nat.reduceSub, bookZ, chanA, refA, chanZ]))
theorem bnone_new (nx m : Nat) (hm : m < nx) : FnSpec Tryz.prog 32 nx [.cref (bookZ m)] [] (bA false) [] 0 := by
  have x1 := fun k => lt_nx hm k
  have x2 := fun k => nx_gt hm k
  refine FnSpec.of_code (cx := cx) (an := {}) (rs := [.tmp 2]) mo Tryz.func32 rfl rfl (by kernel_rfl) (by kernel_rfl) (by show 1 ≤ _; decide) (.inl rfl) (by simp [allWr, keys, Res.wr]) ?_
  repeat' (first | omega | assumption | (show AL.ahead _ _ _ = true; rfl) | refine brF (fun _ => ?_) (fun _ => ?_) | refine brT (fun _ => ?_) (fun _ => ?_) | refine brVF (fun _ => ?_) (fun _ => ?_) | refine brVT (fun _ => ?_) (fun _ => ?_) | (with_reducible refine And.intro ?_ ?_) | (simp -dsimp -implicitDefEqProofs only [go_sem, ↓reduceIte, Nat.reduceEqDiff, Nat.reduceAdd, Nat.reduceMul, Nat.reduceLeDiff, Nat.reduceLT, Nat.reduceBEq, Nat.reducePow, Int.reduceToNat, Int.reduceLE, Int.reduceLT, Int.reduceNeg, reduceCtorEq, Int.reduceEq, Int.reduceAdd, Int.reduceSub, Int.reduceMul, Nat.reduceSub, bookZ, chanA, refA, chanZ]))
theorem bchan_new (nx m : Nat) (hm : m < nx) : FnSpec Tryz.prog 41 nx [.cref (bookZ m)] [] (.tup [chanA chanZ, bA false]) [] 0 := by
  have h := fun nc (h : m < nc) => bnone_new nc m h
  simp only [bookZ] at h
  refine FnSpec.of_code (cx := cx) (an := {}) (rs := [.cell 2 27, .tmp 3]) mo Tryz.func41 rfl rfl (by kernel_rfl) (by kernel_rfl) (by show 1 ≤ _; decide) (.inr ⟨_, rfl, by simp [AV.good, chanA]⟩) (by simp [allWr, keys, Res.wr]) ?_
  repeat' (first | omega | assumption | (show AL.ahead _ _ _ = true; rfl) | refine brF (fun _ => ?_) (fun _ => ?_) | refine brT (fun _ => ?_) (fun _ => ?_) | refine brVF (fun _ => ?_) (fun _ => ?_) | refine brVT (fun _ => ?_) (fun _ => ?_) | (with_reducible refine And.intro ?_ ?_) | (refine callK_by (h _ (by omega)) ?_) | (simp -dsimp -implicitDefEqProofs only [go_sem, ↓reduceIte, Nat.reduceEqDiff, Nat.reduceAdd, Nat.reduceMul, Nat.reduceLeDiff, Nat.reduceLT, Nat.reduceBEq, Nat.reducePow, Int.reduceToNat, Int.reduceLE, Int.reduceLT, Int.reduceNeg, reduceCtorEq, Int.reduceEq, Int.reduceAdd, Int.reduceSub, Int.reduceMul, Nat.reduceSub, chanA, refA, chanZ, bookZ]))
theorem own_new (nx m : Nat) (hm : m < nx) : FnSpec Tryz.prog 20 nx [.cref (bookZ m)] [] (.tup [tx0, n64 9]) [] 0 := by
  have h := fun nc (h : m < nc) => bchan_new nc m h
  simp only [bookZ] at h
  refine FnSpec.of_code (cx := cx) (an := {}) (rs := [.cell 2 42, .tmp 3]) mo Tryz.func20 rfl rfl (by kernel_rfl) (by kernel_rfl) (by show 1 ≤ _; decide) (.inr ⟨_, rfl, by simp [AV.good, tx0]⟩) (by simp [allWr, keys, Res.wr]) ?_
  repeat' (first | omega | assumption | (show AL.ahead _ _ _ = true; rfl) | refine brF (fun _ => ?_) (fun _ => ?_) | refine brT (fun _ => ?_) (fun _ => ?_) | refine brVF (fun _ => ?_) (fun _ => ?_) | refine brVT (fun _ => ?_) (fun _ => ?_) | (with_reducible refine And.intro ?_ ?_) | (refine callK_by (h _ (by omega)) ?_) | (simp -dsimp -implicitDefEqProofs only [go_sem, ↓reduceIte, Nat.reduceEqDiff, Nat.reduceAdd, Nat.reduceMul, Nat.reduceLeDiff, Nat.reduceLT, Nat.reduceBEq, Nat.reducePow, Int.reduceToNat, Int.reduceLE, Int.reduceLT, Int.reduceNeg, reduceCtorEq, Int.reduceEq, Int.reduceAdd, Int.reduceSub, Int.reduceMul, Nat.reduceSub, chanA, refA, chanZ, bookZ, tx0]))
  all_goals trace_state
theorem tA_p3 (t : Tx_) : (txA t).parts.getD 3 .undef = .sl 33 (signsA t.signs) 0 := rfl
theorem tA_len (t : Tx_) : (txA t).parts.length = 4 := rfl
theorem tA_off (t : Tx_) : (txA t).partOff 3 = 39 := rfl
theorem cawake_spec (nx : Nat) : FnSpec Tryz.prog 5 nx [] [] (bA true) [] 0 := by
  have h := fun nc (h : nx + 80 < nc) => own_new nc (nx + 80) h
  simp only [bookZ] at h
  have hs := fun nc => settle_spec nc ⟨0, 1, 0, ⟨zeroS, 0⟩, 0, 0, 0⟩ 3 5
  simp only [chanA, refA] at hs
  have hn : ∀ t : Tx_, signsA (signedT t 1).signs = [signA ⟨1, txS t⟩] := fun t => rfl
  refine FnSpec.of_code (cx := cx) (an := {}) (rs := [.tmp 0]) mo Tryz.func5 rfl rfl (by kernel_rfl) (by kernel_rfl) (by show 0 ≤ _; decide) (.inl rfl) (by simp [allWr, keys, Res.wr]) ?_
  repeat' (first | omega | assumption | (show AL.ahead _ _ _ = true; rfl) | refine brF (fun _ => ?_) (fun _ => ?_) | refine brT (fun _ => ?_) (fun _ => ?_) | refine brVF (fun _ => ?_) (fun _ => ?_) | refine brVT (fun _ => ?_) (fun _ => ?_) | (with_reducible refine And.intro ?_ ?_) | (refine callK_by (bnew_spec _) ?_) | (refine callK_by (h _ (by omega)) ?_) | (refine callK_by (planNil_spec _) ?_) | (refine callK_by (owedNil_spec _) ?_) | (refine callK_by (hs _) ?_) | (simp -dsimp -implicitDefEqProofs only [go_sem, ↓reduceIte, Nat.reduceEqDiff, Nat.reduceAdd, Nat.reduceMul, Nat.reduceLeDiff, Nat.reduceLT, Nat.reduceBEq, Nat.reducePow, Int.reduceToNat, Int.reduceLE, Int.reduceLT, Int.reduceNeg, reduceCtorEq, Int.reduceEq, Int.reduceAdd, Int.reduceSub, Int.reduceMul, Nat.reduceSub, chanA, refA, chanZ, bookZ, txA_good, txA_csz, txA_agg, nb_tx, tA_p3, tA_len, tA_off, hn, tx0_good, tx0_csz, tx0_agg]))
  all_goals trace_state
end Go.Proofs.YtjcnhgmaabkelaaGreat

/-
  The law ClaimOwed.
-/
set_option linter.unusedSimpArgs false
set_option linter.unusedVariables false
set_option maxRecDepth 100000
set_option maxHeartbeats 4000000
namespace Go.Proofs.YtjcnhgmaabkelaaGreat
open Go Go.AL Go.Proofs.YtjcnhgmaabkelaaGreat.T
attribute [local go_sem] nb_u8s u8s_length nb_sum sumA List.length_replicate zero_sum sum_h u8s_nil sums_len nb_sums states_len helds_len nb_states nb_helds signs_len nb_signs nb_keysT nb_valsT
theorem owed_spec (nx : Nat) (l : List BR) : FnSpec Tryz.prog 4 nx [.sl 274 (brsA l) 0] [] (bA true) [] 0 := by
  by_cases hsm : smallP l
  · obtain ⟨hl, hall⟩ := id hsm
    have hnb := fun b' => bkA_nb (N := nx + 56) (m := nx + 96) (by omega) b'
    refine FnSpec.of_code (cx := cx) (an := {}) (rs := [.tmp 2]) mo Tryz.func4 rfl rfl (by kernel_rfl) (by kernel_rfl) (by show 1 ≤ _; decide) (.inl rfl) (by simp [allWr, keys, Res.wr]) ?_
    repeat' (first | omega | assumption | (show AL.ahead _ _ _ = true; rfl) | refine brF (fun _ => ?_) (fun _ => ?_) | refine brT (fun _ => ?_) (fun _ => ?_) | refine brVF (fun _ => ?_) (fun _ => ?_) | refine brVT (fun _ => ?_) (fun _ => ?_) | (with_reducible refine And.intro ?_ ?_) | (refine callK_by (small_yes _ l hsm) ?_) | (refine callK_by (newbk_spec _) ?_) | (simp -dsimp -implicitDefEqProofs only [go_sem, ↓reduceIte, Nat.reduceEqDiff, Nat.reduceAdd, Nat.reduceMul, Nat.reduceLeDiff, Nat.reduceLT, Nat.reduceBEq, Nat.reducePow, Int.reduceToNat, Int.reduceLE, Int.reduceLT, Int.reduceNeg, reduceCtorEq, Int.reduceEq, Int.reduceAdd, Int.reduceSub, Int.reduceMul, Nat.reduceSub]))
    apply loop_keep [0, 3] (fun i : { i : Nat // i ≤ l.length } => [(4, n64 i.1)]) (fun i => bookH (runB l i.1) (nx + 56)) (fun i => l.length - i.1) ⟨0, Nat.zero_le _⟩
    · simp -dsimp -implicitDefEqProofs only [go_sem, ↓reduceIte, Nat.reduceEqDiff, Nat.reduceAdd, Nat.reduceMul, Nat.reduceLeDiff, Nat.reduceLT, Nat.reduceBEq, Nat.reducePow, Int.reduceToNat, Int.reduceLE, Int.reduceLT, Int.reduceNeg, reduceCtorEq, Int.reduceEq, Int.reduceAdd, Int.reduceSub, Int.reduceMul, Nat.reduceSub]; try rfl
    · simp -dsimp -implicitDefEqProofs only [go_sem, ↓reduceIte, Nat.reduceEqDiff, Nat.reduceAdd, Nat.reduceMul, Nat.reduceLeDiff, Nat.reduceLT, Nat.reduceBEq, Nat.reducePow, Int.reduceToNat, Int.reduceLE, Int.reduceLT, Int.reduceNeg, reduceCtorEq, Int.reduceEq, Int.reduceAdd, Int.reduceSub, Int.reduceMul, Nat.reduceSub]; try rfl
    · simp -dsimp -implicitDefEqProofs only [go_sem, ↓reduceIte, Nat.reduceEqDiff, Nat.reduceAdd, Nat.reduceMul, Nat.reduceLeDiff, Nat.reduceLT, Nat.reduceBEq, Nat.reducePow, Int.reduceToNat, Int.reduceLE, Int.reduceLT, Int.reduceNeg, reduceCtorEq, Int.reduceEq, Int.reduceAdd, Int.reduceSub, Int.reduceMul, Nat.reduceSub, runB_zero]; try rfl
    · intro s
      simp -dsimp -implicitDefEqProofs only [go_sem, ↓reduceIte, Nat.reduceEqDiff, Nat.reduceAdd, Nat.reduceMul, Nat.reduceLeDiff, Nat.reduceLT, Nat.reduceBEq, Nat.reducePow, Int.reduceToNat, Int.reduceLE, Int.reduceLT, Int.reduceNeg, reduceCtorEq, Int.reduceEq, Int.reduceAdd, Int.reduceSub, Int.reduceMul, Nat.reduceSub, nb_brs, hnb]
      all_goals omega
    · rintro ⟨i, hi⟩
      have hi : i ≤ l.length := hi
      have hok := runB_ok l i hi
      simp -dsimp -implicitDefEqProofs only [go_sem, ↓reduceIte, Nat.reduceEqDiff, Nat.reduceAdd, Nat.reduceMul, Nat.reduceLeDiff, Nat.reduceLT, Nat.reduceBEq, Nat.reducePow, Int.reduceToNat, Int.reduceLE, Int.reduceLT, Int.reduceNeg, reduceCtorEq, Int.reduceEq, Int.reduceAdd, Int.reduceSub, Int.reduceMul, Nat.reduceSub, brs_len]
      refine brT (fun hc => ?_) (fun hc => ?_)
      · have hi2 : i < l.length := by omega
        have q1 := brs_get hi2
        have w1 : IntKind.i64.wrap ((i : Int) + 1) = ((i + 1 : Nat) : Int) := wrapE (by omega) (by omega)
        have hrs := runB_succ hi2
        obtain ⟨g1, g2⟩ := hall l[i] (List.getElem_mem _)
        generalize l[i] = r at *
        have hap := fun nc (h : nx + 88 ≤ nc) => apply_spec nc (nx + 56) (runB l i) r (by omega) (okB_bk hok (by omega)) ⟨by omega, by omega⟩
        rw [← hrs] at hap
        repeat' (first | omega | assumption | (show AL.ahead _ _ _ = true; rfl) | refine brF (fun _ => ?_) (fun _ => ?_) | refine brT (fun _ => ?_) (fun _ => ?_) | refine brVF (fun _ => ?_) (fun _ => ?_) | refine brVT (fun _ => ?_) (fun _ => ?_) | (with_reducible refine And.intro ?_ ?_) | (refine callK_by (hap _ (by omega)) ?_) | (simp -dsimp -implicitDefEqProofs only [go_sem, ↓reduceIte, Nat.reduceEqDiff, Nat.reduceAdd, Nat.reduceMul, Nat.reduceLeDiff, Nat.reduceLT, Nat.reduceBEq, Nat.reducePow, Int.reduceToNat, Int.reduceLE, Int.reduceLT, Int.reduceNeg, reduceCtorEq, Int.reduceEq, Int.reduceAdd, Int.reduceSub, Int.reduceMul, Nat.reduceSub, q1, w1, brs_len, brA_good, brA_csz, brA_agg, brA_nb]))
        exact ⟨⟨i + 1, hi2⟩, by show l.length - (i + 1) < l.length - i; omega, rfl, rfl, rfl, rfl, rfl, rfl, rfl⟩
      · have e : i = l.length := by omega
        subst e
        have hbk := okB_bk hok (by omega)
        obtain ⟨o1, o2, o3, o4, o5, o6, o7⟩ := hok
        generalize runB l l.length = b at *
        have hst := fun nc (h : nx + 88 ≤ nc) => bstates_spec nc (nx + 56) b (by omega) hbk
        have hgv := fun nc (h : nx + 88 ≤ nc) => bgiven_spec nc (nx + 56) b (by omega)
        have how := fun nc (h : nx + 88 ≤ nc) => bowed_spec nc (nx + 56) b (by omega) (fun ho => by have := o7 ho; omega) (by omega)
        have w2 : IntKind.i64.wrap ((b.given : Int) + 1) = ((b.given + 1 : Nat) : Int) := wrapE (by omega) (by omega)
        cases hop : b.opened with
        | false =>
          have e : owedB b = 0 := by unfold owedB; rw [hop]; rfl
          rw [e] at how
          have hs0 : b.states.length = 0 := by rw [(o6 hop).1]; rfl
          repeat' (first | omega | assumption | (show AL.ahead _ _ _ = true; rfl) | refine brF (fun _ => ?_) (fun _ => ?_) | refine brT (fun _ => ?_) (fun _ => ?_) | refine brVF (fun _ => ?_) (fun _ => ?_) | refine brVT (fun _ => ?_) (fun _ => ?_) | (with_reducible refine And.intro ?_ ?_) | (refine callK_by (hst _ (by omega)) ?_) | (refine callK_by (hgv _ (by omega)) ?_) | (refine callK_by (how _ (by omega)) ?_) | (refine callK_by (cawake_spec _) ?_) | (simp -dsimp -implicitDefEqProofs only [go_sem, ↓reduceIte, Nat.reduceEqDiff, Nat.reduceAdd, Nat.reduceMul, Nat.reduceLeDiff, Nat.reduceLT, Nat.reduceBEq, Nat.reducePow, Int.reduceToNat, Int.reduceLE, Int.reduceLT, Int.reduceNeg, reduceCtorEq, Int.reduceEq, Int.reduceAdd, Int.reduceSub, Int.reduceMul, Nat.reduceSub, states_len, hs0]))
          all_goals trace_state
        | true =>
          obtain ⟨p1, p2⟩ := o7 hop
          have q1 := states_getZ (l := b.states) (i := b.given) (by omega)
          by_cases h2 : b.given + 1 < b.states.length
          · have q2 := states_getZ h2
            have e : owedB b = min ((b.states[b.given]?).getD stZ).client ((b.states[b.given + 1]?).getD stZ).client := by unfold owedB; rw [if_pos hop, if_pos h2]
            generalize (b.states[b.given]?).getD stZ = s at *
            generalize (b.states[b.given + 1]?).getD stZ = s2 at *
            simp only [stateA] at q1 q2
            by_cases h3 : s2.client < s.client
            · have e2 : owedB b = s2.client := by rw [e]; omega
              rw [e2] at how
              repeat' (first | omega | assumption | (show AL.ahead _ _ _ = true; rfl) | refine brF (fun _ => ?_) (fun _ => ?_) | refine brT (fun _ => ?_) (fun _ => ?_) | refine brVF (fun _ => ?_) (fun _ => ?_) | refine brVT (fun _ => ?_) (fun _ => ?_) | (with_reducible refine And.intro ?_ ?_) | (refine callK_by (hst _ (by omega)) ?_) | (refine callK_by (hgv _ (by omega)) ?_) | (refine callK_by (how _ (by omega)) ?_) | (refine callK_by (cawake_spec _) ?_) | (simp -dsimp -implicitDefEqProofs only [go_sem, ↓reduceIte, Nat.reduceEqDiff, Nat.reduceAdd, Nat.reduceMul, Nat.reduceLeDiff, Nat.reduceLT, Nat.reduceBEq, Nat.reducePow, Int.reduceToNat, Int.reduceLE, Int.reduceLT, Int.reduceNeg, reduceCtorEq, Int.reduceEq, Int.reduceAdd, Int.reduceSub, Int.reduceMul, Nat.reduceSub, states_len, q1, q2, w2]))
              all_goals trace_state
            · have e2 : owedB b = s.client := by rw [e]; omega
              rw [e2] at how
              repeat' (first | omega | assumption | (show AL.ahead _ _ _ = true; rfl) | refine brF (fun _ => ?_) (fun _ => ?_) | refine brT (fun _ => ?_) (fun _ => ?_) | refine brVF (fun _ => ?_) (fun _ => ?_) | refine brVT (fun _ => ?_) (fun _ => ?_) | (with_reducible refine And.intro ?_ ?_) | (refine callK_by (hst _ (by omega)) ?_) | (refine callK_by (hgv _ (by omega)) ?_) | (refine callK_by (how _ (by omega)) ?_) | (refine callK_by (cawake_spec _) ?_) | (simp -dsimp -implicitDefEqProofs only [go_sem, ↓reduceIte, Nat.reduceEqDiff, Nat.reduceAdd, Nat.reduceMul, Nat.reduceLeDiff, Nat.reduceLT, Nat.reduceBEq, Nat.reducePow, Int.reduceToNat, Int.reduceLE, Int.reduceLT, Int.reduceNeg, reduceCtorEq, Int.reduceEq, Int.reduceAdd, Int.reduceSub, Int.reduceMul, Nat.reduceSub, states_len, q1, q2, w2]))
              all_goals trace_state
          · have e : owedB b = ((b.states[b.given]?).getD stZ).client := by unfold owedB; rw [if_pos hop, if_neg h2]
            generalize (b.states[b.given]?).getD stZ = s at *
            simp only [stateA] at q1
            rw [e] at how
            repeat' (first | omega | assumption | (show AL.ahead _ _ _ = true; rfl) | refine brF (fun _ => ?_) (fun _ => ?_) | refine brT (fun _ => ?_) (fun _ => ?_) | refine brVF (fun _ => ?_) (fun _ => ?_) | refine brVT (fun _ => ?_) (fun _ => ?_) | (with_reducible refine And.intro ?_ ?_) | (refine callK_by (hst _ (by omega)) ?_) | (refine callK_by (hgv _ (by omega)) ?_) | (refine callK_by (how _ (by omega)) ?_) | (refine callK_by (cawake_spec _) ?_) | (simp -dsimp -implicitDefEqProofs only [go_sem, ↓reduceIte, Nat.reduceEqDiff, Nat.reduceAdd, Nat.reduceMul, Nat.reduceLeDiff, Nat.reduceLT, Nat.reduceBEq, Nat.reducePow, Int.reduceToNat, Int.reduceLE, Int.reduceLT, Int.reduceNeg, reduceCtorEq, Int.reduceEq, Int.reduceAdd, Int.reduceSub, Int.reduceMul, Nat.reduceSub, states_len, q1, w2]))
            all_goals trace_state
  · refine FnSpec.of_code (cx := cx) (an := {}) (rs := [.tmp 2]) mo Tryz.func4 rfl rfl (by kernel_rfl) (by kernel_rfl) (by show 1 ≤ _; decide) (.inl rfl) (by simp [allWr, keys, Res.wr]) ?_
    repeat' (first | omega | assumption | (show AL.ahead _ _ _ = true; rfl) | refine brF (fun _ => ?_) (fun _ => ?_) | refine brT (fun _ => ?_) (fun _ => ?_) | refine brVF (fun _ => ?_) (fun _ => ?_) | refine brVT (fun _ => ?_) (fun _ => ?_) | (with_reducible refine And.intro ?_ ?_) | (refine callK_by (small_no _ l hsm) ?_) | (refine callK_by (cawake_spec _) ?_) | (simp -dsimp -implicitDefEqProofs only [go_sem, ↓reduceIte, Nat.reduceEqDiff, Nat.reduceAdd, Nat.reduceMul, Nat.reduceLeDiff, Nat.reduceLT, Nat.reduceBEq, Nat.reducePow, Int.reduceToNat, Int.reduceLE, Int.reduceLT, Int.reduceNeg, reduceCtorEq, Int.reduceEq, Int.reduceAdd, Int.reduceSub, Int.reduceMul, Nat.reduceSub]))
    all_goals trace_state
end Go.Proofs.YtjcnhgmaabkelaaGreat

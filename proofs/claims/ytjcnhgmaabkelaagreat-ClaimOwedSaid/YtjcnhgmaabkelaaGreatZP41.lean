/-
  The key that a signature leads back to: lamport.Digest, bit, Back.
-/
import Derived.Test.YtjcnhgmaabkelaaGreatZP38
import Derived.Test.YtjcnhgmaabkelaaGreatZP14
set_option linter.unusedSimpArgs false
set_option linter.unusedVariables false
set_option maxRecDepth 100000
set_option maxHeartbeats 1000000
namespace Go.Proofs.YtjcnhgmaabkelaaGreat
open Go Go.AL Go.Proofs.YtjcnhgmaabkelaaGreat.T
attribute [local go_sem] nb_u8s u8s_length nb_sum sumA List.length_replicate u8_wrap take32 List.drop_zero zero_sum sum_h u8s_nil sums_len nb_sums u8s_app
theorem digest_spec (nx t : Nat) (a : List UInt8) (ha : a.length < 2 ^ 39) (ht : t < 2 ∨ t - 2 < nx) : FnSpec Tryz.prog 127 nx [.sl 1 (u8s a) t] [] (sumA (joinS 14 [a])) [] 0 := by
  have hj := fun nc (h : nx ≤ nc) => join1_spec nc 1 t 14 a ha (by omega) (by omega)
  refine FnSpec.of_code (cx := cx) (an := {}) (rs := [.cell 2 23]) mo Tryz.func127 rfl rfl (by kernel_rfl) (by kernel_rfl) (by show 1 ≤ _; decide) (.inl rfl) (by simp [allWr, keys, Res.wr]) ?_
  repeat' (first | omega | assumption | (show AL.ahead _ _ _ = true; rfl) | refine brF (fun _ => ?_) (fun _ => ?_) | refine brT (fun _ => ?_) (fun _ => ?_) | refine brVF (fun _ => ?_) (fun _ => ?_) | refine brVT (fun _ => ?_) (fun _ => ?_) | (with_reducible refine And.intro ?_ ?_) | (refine callK_by (hj _ (by omega)) ?_) | (simp -dsimp -implicitDefEqProofs only [go_sem, ↓reduceIte, Nat.reduceEqDiff, Nat.reduceAdd, Nat.reduceMul, Nat.reduceLeDiff, Nat.reduceLT, Nat.reduceBEq, Nat.reducePow, Int.reduceToNat, Int.reduceLE, Int.reduceLT, Int.reduceNeg, reduceCtorEq, Int.reduceEq, Int.reduceAdd, Int.reduceSub, Int.reduceMul, Nat.reduceSub]))
  all_goals trace_state
def bitI (s : Sum) (i : Nat) : Int := IntKind.i64.wrap ((BitVec.ofInt IntKind.i64.bits (IntKind.i64.wrap (((s.b.getD (i / 8) 0).toNat : Int).fdiv (2 ^ min (7 - i % 8) 8))) &&& BitVec.ofInt IntKind.i64.bits 1).toNat : Int)
theorem bit_spec (nx : Nat) (s : Sum) (i : Nat) (hi : i < 64) : FnSpec Tryz.prog 129 nx [sumA s, n64 i] [] (n64 (bitI s i)) [] 0 := by
  have hl := s.h
  have w1 : IntKind.i64.wrap ((i : Int).tdiv 8) = ((i / 8 : Nat) : Int) := by rw [IntKind.wrap_i64, Int.tdiv_eq_ediv_of_nonneg (by omega)]; omega
  have w2 : IntKind.i64.wrap (7 - (i : Int).tmod 8) = ((7 - i % 8 : Nat) : Int) := by rw [IntKind.wrap_i64, Int.tmod_eq_emod_of_nonneg (by omega)]; omega
  have q1 := u8s_get (l := s.b) (i := i / 8) (by omega)
  refine FnSpec.of_code (cx := cx) (an := {}) (rs := [.tmp 4]) mo Tryz.func129 rfl rfl (by kernel_rfl) (by kernel_rfl) (by show 2 ≤ _; decide) (.inl rfl) (by simp [allWr, keys, Res.wr]) ?_
  repeat' (first | omega | assumption | (show AL.ahead _ _ _ = true; rfl) | refine brF (fun _ => ?_) (fun _ => ?_) | refine brT (fun _ => ?_) (fun _ => ?_) | refine brVF (fun _ => ?_) (fun _ => ?_) | refine brVT (fun _ => ?_) (fun _ => ?_) | (with_reducible refine And.intro ?_ ?_) | (simp -dsimp -implicitDefEqProofs only [go_sem, ↓reduceIte, Nat.reduceEqDiff, Nat.reduceAdd, Nat.reduceMul, Nat.reduceLeDiff, Nat.reduceLT, Nat.reduceBEq, Nat.reducePow, Int.reduceToNat, Int.reduceLE, Int.reduceLT, Int.reduceNeg, reduceCtorEq, Int.reduceEq, Int.reduceAdd, Int.reduceSub, Int.reduceMul, Nat.reduceSub, w1, w2, q1]))
  all_goals rfl
def halfS (sig : List UInt8) (i : Nat) : Sum := sumOf ((sig.drop (64 * i)).take 32)
def othL (sig : List UInt8) (i : Nat) : List UInt8 := (sig.take (64 * i + 64)).drop (64 * i + 32)
noncomputable def backL (d : Sum) (sig : List UInt8) : Nat → List UInt8
  | 0 => []
  | i + 1 => backL d sig i ++ (if bitI d i = 0 then (shownS (halfS sig i)).b ++ othL sig i else othL sig i ++ (shownS (halfS sig i)).b)
theorem othL_len {sig : List UInt8} {i : Nat} (h : sig.length = 4096) (hi : i < 64) : (othL sig i).length = 32 := by
  unfold othL; rw [List.length_drop, List.length_take]; omega
theorem backL_len (d : Sum) {sig : List UInt8} (h : sig.length = 4096) : ∀ i, i ≤ 64 → (backL d sig i).length = 64 * i
  | 0, _ => rfl
  | i + 1, hi => by
    have h1 := othL_len (i := i) h (by omega)
    rw [backL, List.length_append, backL_len d h i (by omega)]
    split <;> rw [List.length_append, sum_h, h1] <;> omega
noncomputable def backS (text sig : List UInt8) : Sum := joinS 13 [backL (joinS 14 [text]) sig 64]
theorem sum_take (s : Sum) : s.b.take 32 = s.b := List.take_of_length_le (by rw [s.h]; omega)
theorem u8s_takeP (l : List UInt8) (n : Nat) : (u8s l).take n = u8s (l.take n) := by simp [u8s, List.map_take]
theorem u8s_dropP (l : List UInt8) (n : Nat) : (u8s l).drop n = u8s (l.drop n) := by simp [u8s, List.map_drop]
theorem backBad_spec (nx t t2 : Nat) (text sig : List UInt8) (hs : sig.length ≠ 4096) (ht : t < 2 ∨ t - 2 < nx) (ht2 : t2 < 2 ∨ t2 - 2 < nx) : FnSpec Tryz.prog 120 nx [.sl 1 (u8s text) t, .sl 1 (u8s sig) t2] [] (.tup [sumA zeroS, n64 11]) [] 0 := by
  refine FnSpec.of_code (cx := cx) (an := {}) (rs := [.cell 4 23, .tmp 5]) mo Tryz.func120 rfl rfl (by kernel_rfl) (by kernel_rfl) (by show 2 ≤ _; decide) (.inr ⟨_, rfl, by simp [AV.good, sumA]⟩) (by simp [allWr, keys, Res.wr]) ?_
  repeat' (first | omega | assumption | (show AL.ahead _ _ _ = true; rfl) | refine brF (fun _ => ?_) (fun _ => ?_) | refine brT (fun _ => ?_) (fun _ => ?_) | refine brVF (fun _ => ?_) (fun _ => ?_) | refine brVT (fun _ => ?_) (fun _ => ?_) | (with_reducible refine And.intro ?_ ?_) | (simp -dsimp -implicitDefEqProofs only [go_sem, ↓reduceIte, Nat.reduceEqDiff, Nat.reduceAdd, Nat.reduceMul, Nat.reduceLeDiff, Nat.reduceLT, Nat.reduceBEq, Nat.reducePow, Int.reduceToNat, Int.reduceLE, Int.reduceLT, Int.reduceNeg, reduceCtorEq, Int.reduceEq, Int.reduceAdd, Int.reduceSub, Int.reduceMul, Nat.reduceSub]))
  all_goals trace_state
theorem backT_spec (nx t t2 : Nat) (text sig : List UInt8) (hx : text.length < 2 ^ 39) (hs : sig.length = 4096) (ht : t < 2 ∨ t - 2 < nx) (ht2 : t2 < 2 ∨ t2 - 2 < nx) : FnSpec Tryz.prog 120 nx [.sl 1 (u8s text) t, .sl 1 (u8s sig) t2] [] (.tup [sumA (backS text sig), n64 0]) [] 0 := by
  have hdg := fun nc (h : nx ≤ nc) => digest_spec nc t text hx (by omega)
  obtain ⟨d, hd⟩ : ∃ d, d = joinS 14 [text] := ⟨_, rfl⟩
  rw [← hd] at hdg
  obtain ⟨R, hR⟩ : ∃ R, R = backS text sig := ⟨_, rfl⟩
  rw [← hR]
  refine FnSpec.of_code (cx := cx) (an := {mt := [27]}) (rs := [.cell 4 23, .tmp 5]) mo Tryz.func120 rfl rfl (by kernel_rfl) (by kernel_rfl) (by show 2 ≤ _; decide) (.inr ⟨_, rfl, by simp [AV.good, sumA]⟩) (by simp [allWr, keys, Res.wr]) ?_
  repeat' (first | omega | assumption | (show AL.ahead _ _ _ = true; rfl) | refine brF (fun _ => ?_) (fun _ => ?_) | refine brT (fun _ => ?_) (fun _ => ?_) | refine brVF (fun _ => ?_) (fun _ => ?_) | refine brVT (fun _ => ?_) (fun _ => ?_) | (with_reducible refine And.intro ?_ ?_) | (refine callK_by (hdg _ (by omega)) ?_) | (simp -dsimp -implicitDefEqProofs only [go_sem, ↓reduceIte, Nat.reduceEqDiff, Nat.reduceAdd, Nat.reduceMul, Nat.reduceLeDiff, Nat.reduceLT, Nat.reduceBEq, Nat.reducePow, Int.reduceToNat, Int.reduceLE, Int.reduceLT, Int.reduceNeg, reduceCtorEq, Int.reduceEq, Int.reduceAdd, Int.reduceSub, Int.reduceMul, Nat.reduceSub]))
  apply loop_keep [1, 4, 6] (fun i : { i : Nat // i ≤ 64 } => [(7, .sl 1 (u8s (backL d sig i.1)) (nx + 74)), (19, n64 i.1)]) (fun i => [(nx + 72, some (.tail (backL d sig i.1).length)), (nx + 56, some (.obj (sumA d))), (nx, some (.obj (sumA zeroS)))]) (fun i => 64 - i.1) ⟨0, Nat.zero_le _⟩
  · simp -dsimp -implicitDefEqProofs only [go_sem, ↓reduceIte, Nat.reduceEqDiff, Nat.reduceAdd, Nat.reduceMul, Nat.reduceLeDiff, Nat.reduceLT, Nat.reduceBEq, Nat.reducePow, Int.reduceToNat, Int.reduceLE, Int.reduceLT, Int.reduceNeg, reduceCtorEq, Int.reduceEq, Int.reduceAdd, Int.reduceSub, Int.reduceMul, Nat.reduceSub]; try rfl
  · simp -dsimp -implicitDefEqProofs only [go_sem, ↓reduceIte, Nat.reduceEqDiff, Nat.reduceAdd, Nat.reduceMul, Nat.reduceLeDiff, Nat.reduceLT, Nat.reduceBEq, Nat.reducePow, Int.reduceToNat, Int.reduceLE, Int.reduceLT, Int.reduceNeg, reduceCtorEq, Int.reduceEq, Int.reduceAdd, Int.reduceSub, Int.reduceMul, Nat.reduceSub, backL, u8s_nil]; try rfl
  · simp -dsimp -implicitDefEqProofs only [go_sem, ↓reduceIte, Nat.reduceEqDiff, Nat.reduceAdd, Nat.reduceMul, Nat.reduceLeDiff, Nat.reduceLT, Nat.reduceBEq, Nat.reducePow, Int.reduceToNat, Int.reduceLE, Int.reduceLT, Int.reduceNeg, reduceCtorEq, Int.reduceEq, Int.reduceAdd, Int.reduceSub, Int.reduceMul, Nat.reduceSub, backL]; try rfl
  · intro s
    simp -dsimp -implicitDefEqProofs only [go_sem, ↓reduceIte, Nat.reduceEqDiff, Nat.reduceAdd, Nat.reduceMul, Nat.reduceLeDiff, Nat.reduceLT, Nat.reduceBEq, Nat.reducePow, Int.reduceToNat, Int.reduceLE, Int.reduceLT, Int.reduceNeg, reduceCtorEq, Int.reduceEq, Int.reduceAdd, Int.reduceSub, Int.reduceMul, Nat.reduceSub]
    try omega
  · rintro ⟨i, hi⟩
    have hi : i ≤ 64 := hi
    have hbl := backL_len d hs i hi
    simp -dsimp -implicitDefEqProofs only [go_sem, ↓reduceIte, Nat.reduceEqDiff, Nat.reduceAdd, Nat.reduceMul, Nat.reduceLeDiff, Nat.reduceLT, Nat.reduceBEq, Nat.reducePow, Int.reduceToNat, Int.reduceLE, Int.reduceLT, Int.reduceNeg, reduceCtorEq, Int.reduceEq, Int.reduceAdd, Int.reduceSub, Int.reduceMul, Nat.reduceSub]
    refine brT (fun h => ?_) (fun h => ?_)
    · have hi2 : i < 64 := by omega
      have w1 : IntKind.i64.wrap ((i : Int) + 1) = ((i + 1 : Nat) : Int) := wrapE (by omega) (by omega)
      have w2 : IntKind.i64.wrap (64 * (i : Int)) = ((64 * i : Nat) : Int) := wrapE (by omega) (by omega)
      have w3 : IntKind.i64.wrap (((64 * i : Nat) : Int) + 32) = ((64 * i + 32 : Nat) : Int) := wrapE (by omega) (by omega)
      have w4 : IntKind.i64.wrap (((64 * i : Nat) : Int) + 64) = ((64 * i + 64 : Nat) : Int) := wrapE (by omega) (by omega)
      have hq := range_full ((sig.drop (64 * i)).take 32) (by rw [List.length_take, List.length_drop]; omega)
      have hq2 : sumOf ((sig.drop (64 * i)).take 32) = halfS sig i := rfl
      rw [hq2] at hq
      have hdl : 32 ≤ (List.drop (64 * i) sig).length := by rw [List.length_drop]; omega
      have ho := othL_len (i := i) hs hi2
      have ho2 : (sig.take (64 * i + 64)).drop (64 * i + 32) = othL sig i := rfl
      repeat' (first | omega | assumption | (show AL.ahead _ _ _ = true; rfl) | refine brF (fun _ => ?_) (fun _ => ?_) | refine brT (fun _ => ?_) (fun _ => ?_) | refine brVF (fun _ => ?_) (fun _ => ?_) | refine brVT (fun _ => ?_) (fun _ => ?_) | (with_reducible refine And.intro ?_ ?_) | (refine callK_by (shown_spec _ (halfS sig i)) ?_) | (refine callK_by (bit_spec _ d i hi2) ?_) | (simp -dsimp -implicitDefEqProofs only [go_sem, ↓reduceIte, Nat.reduceEqDiff, Nat.reduceAdd, Nat.reduceMul, Nat.reduceLeDiff, Nat.reduceLT, Nat.reduceBEq, Nat.reducePow, Int.reduceToNat, Int.reduceLE, Int.reduceLT, Int.reduceNeg, reduceCtorEq, Int.reduceEq, Int.reduceAdd, Int.reduceSub, Int.reduceMul, Nat.reduceSub, w1, w2, w3, w4, hq, ho2, ho, u8s_takeP, u8s_dropP, List.take_length, sum_take, u8s_app]))
      all_goals
        rename_i hx
        have hb2 := backL_len d hs (i + 1) (by omega)
        have hb3 : backL d sig (i + 1) = backL d sig i ++ (if bitI d i = 0 then (shownS (halfS sig i)).b ++ othL sig i else othL sig i ++ (shownS (halfS sig i)).b) := rfl
      · rw [if_pos hx] at hb3
        refine ⟨⟨i + 1, by omega⟩, by show 64 - (i + 1) < 64 - i; omega, ⟨?_, rfl⟩, ?_⟩
        · simp only [hb3, List.append_assoc]
        · simp only [hb2, hbl]; congr 2
      · rw [if_neg hx] at hb3
        refine ⟨⟨i + 1, by omega⟩, by show 64 - (i + 1) < 64 - i; omega, ⟨?_, rfl⟩, ?_⟩
        · simp only [hb3, List.append_assoc]
        · simp only [hb2, hbl]; congr 2
    · have e : i = 64 := by omega
      have hR2 : R = joinS 13 [backL d sig i] := by rw [hR, hd, e]; rfl
      rw [hR2]
      clear hR hR2
      generalize backL d sig i = L at *
      repeat' (first | omega | assumption | (show AL.ahead _ _ _ = true; rfl) | refine brF (fun _ => ?_) (fun _ => ?_) | refine brT (fun _ => ?_) (fun _ => ?_) | refine brVF (fun _ => ?_) (fun _ => ?_) | refine brVT (fun _ => ?_) (fun _ => ?_) | (with_reducible refine And.intro ?_ ?_) | (refine callK_by (join1_spec _ 1 (nx + 74) 13 L (by omega) (by omega) (by omega)) ?_) | (simp -dsimp -implicitDefEqProofs only [go_sem, ↓reduceIte, Nat.reduceEqDiff, Nat.reduceAdd, Nat.reduceMul, Nat.reduceLeDiff, Nat.reduceLT, Nat.reduceBEq, Nat.reducePow, Int.reduceToNat, Int.reduceLE, Int.reduceLT, Int.reduceNeg, reduceCtorEq, Int.reduceEq, Int.reduceAdd, Int.reduceSub, Int.reduceMul, Nat.reduceSub]))
      all_goals trace_state
end Go.Proofs.YtjcnhgmaabkelaaGreat

/-
  Does something stand at a place of a list of sums?
-/
set_option linter.unusedSimpArgs false
set_option linter.unusedVariables false
set_option maxRecDepth 100000
set_option maxHeartbeats 1000000
namespace Go.Proofs.YtjcnhgmaabkelaaGreat
open Go Go.AL Go.Proofs.YtjcnhgmaabkelaaGreat.T
attribute [local go_sem] nb_u8s u8s_length nb_sum sumA List.length_replicate u8_wrap take32 List.drop_zero zero_sum sum_h u8s_nil sums_len nb_sums
/-- what merkle.Check goes through: the place, how many, the sum so far, what is left of the path -/
structure CS where
  at_ : Nat
  many : Nat
  now : Sum
  path : List Sum
noncomputable def stepC (s : CS) : Option CS :=
  if s.at_ ^^^ 1 < s.many then
    match s.path with
    | [] => none
    | a :: r => some ⟨s.at_ / 2, (s.many + 1) / 2, if s.at_ % 2 = 0 then pairS 2 s.now a else pairS 2 a s.now, r⟩
  else some ⟨s.at_ / 2, (s.many + 1) / 2, s.now, s.path⟩
theorem stepC_many {s s' : CS} (h : stepC s = some s') : s'.many = (s.many + 1) / 2 ∧ s'.at_ = s.at_ / 2 := by
  unfold stepC at h
  split at h
  · split at h
    · cases h
    · injection h with h; subst h; exact ⟨rfl, rfl⟩
  · injection h with h; subst h; exact ⟨rfl, rfl⟩
noncomputable def checkC (root : Sum) (s : CS) : Bool :=
  if h : 1 < s.many then
    match hs : stepC s with
    | none => false
    | some s' => checkC root s'
  else decide (s.path.length = 0) && eqB (sumA s.now) (sumA root)
termination_by s.many
decreasing_by
  have := (stepC_many hs).1
  omega
theorem checkC_end (root : Sum) (s : CS) (h : ¬ 1 < s.many) : checkC root s = (decide (s.path.length = 0) && eqB (sumA s.now) (sumA root)) := by
  rw [checkC, dif_neg h]
theorem checkC_none (root : Sum) (s : CS) (h : 1 < s.many) (hs : stepC s = none) : checkC root s = false := by
  rw [checkC, dif_pos h]
  split
  · rfl
  · rename_i h2; rw [hs] at h2; cases h2
theorem checkC_some (root : Sum) {s s' : CS} (h : 1 < s.many) (hs : stepC s = some s') : checkC root s = checkC root s' := by
  rw [checkC, dif_pos h]
  split
  · rename_i h2; rw [hs] at h2; cases h2
  · rename_i h2; rw [hs] at h2; injection h2 with h2; rw [h2]
theorem xor1 {a : Nat} (h : a < 2 ^ 62) : IntKind.i64.wrap ((BitVec.ofInt IntKind.i64.bits (a : Int) ^^^ BitVec.ofInt IntKind.i64.bits 1).toNat : Int) = ((a ^^^ 1 : Nat) : Int) := by
  have h1 : a ^^^ 1 < 2 ^ 62 := Nat.xor_lt_two_pow h (by decide)
  have e : (BitVec.ofInt IntKind.i64.bits (a : Int) ^^^ BitVec.ofInt IntKind.i64.bits 1).toNat = a ^^^ 1 := by
    rw [BitVec.toNat_xor]
    have e1 : (BitVec.ofInt IntKind.i64.bits (a : Int)).toNat = a := by
      rw [BitVec.toNat_ofInt]
      show (((a : Int) % ((2 ^ 64 : Nat) : Int)).toNat) = a
      omega
    have e2 : (BitVec.ofInt IntKind.i64.bits 1).toNat = 1 := by decide
    rw [e1, e2]
  rw [e]
  exact wrapE (by omega) (by omega)
theorem checkBad_spec (nx t : Nat) (root k : Sum) (a m : Int) (l : List Sum) (h : a < 0 ∨ m ≤ a ∨ 4096 < m) (ht : t < 2 ∨ t - 2 < nx) :
    FnSpec Tryz.prog 121 nx [sumA root, sumA k, n64 a, n64 m, .sl 32 (sumsA l) t] [] (bA false) [] 0 := by
  refine FnSpec.of_code (cx := cx) (an := {}) (rs := [.tmp 10]) mo Tryz.func121 rfl rfl (by kernel_rfl) (by kernel_rfl) (by show 5 ≤ _; decide) (.inl rfl) (by simp [allWr, keys, Res.wr]) ?_
  repeat' (first | omega | assumption | (show AL.ahead _ _ _ = true; rfl) | refine brF (fun _ => ?_) (fun _ => ?_) | refine brT (fun _ => ?_) (fun _ => ?_) | refine brVF (fun _ => ?_) (fun _ => ?_) | refine brVT (fun _ => ?_) (fun _ => ?_) | (with_reducible refine And.intro ?_ ?_) | (simp -dsimp -implicitDefEqProofs only [go_sem, ↓reduceIte, Nat.reduceEqDiff, Nat.reduceAdd, Nat.reduceMul, Nat.reduceLeDiff, Nat.reduceLT, Nat.reduceBEq, Nat.reducePow, Int.reduceToNat, Int.reduceLE, Int.reduceLT, Int.reduceNeg, reduceCtorEq, Int.reduceEq, Int.reduceAdd, Int.reduceSub, Int.reduceMul, Nat.reduceSub]))
  all_goals trace_state
theorem check_spec (nx : Nat) (root k : Sum) (a m : Nat) (l : List Sum) (h1 : a < m) (h2 : m ≤ 4096) :
    FnSpec Tryz.prog 121 nx [sumA root, sumA k, n64 a, n64 m, .sl 32 (sumsA l) 0] [] (bA (checkC root ⟨a, m, leafS k, l⟩)) [] 0 := by
  obtain ⟨B, hB⟩ : ∃ B, B = checkC root ⟨a, m, leafS k, l⟩ := ⟨_, rfl⟩
  rw [← hB]
  refine FnSpec.of_code (cx := cx) (an := {}) (rs := [.tmp 10]) mo Tryz.func121 rfl rfl (by kernel_rfl) (by kernel_rfl) (by show 5 ≤ _; decide) (.inl rfl) (by simp [allWr, keys, Res.wr]) ?_
  repeat' (first | omega | assumption | (show AL.ahead _ _ _ = true; rfl) | refine brF (fun _ => ?_) (fun _ => ?_) | refine brT (fun _ => ?_) (fun _ => ?_) | refine brVF (fun _ => ?_) (fun _ => ?_) | refine brVT (fun _ => ?_) (fun _ => ?_) | (with_reducible refine And.intro ?_ ?_) | (refine callK_by (leaf_spec _ k) ?_) | (simp -dsimp -implicitDefEqProofs only [go_sem, ↓reduceIte, Nat.reduceEqDiff, Nat.reduceAdd, Nat.reduceMul, Nat.reduceLeDiff, Nat.reduceLT, Nat.reduceBEq, Nat.reducePow, Int.reduceToNat, Int.reduceLE, Int.reduceLT, Int.reduceNeg, reduceCtorEq, Int.reduceEq, Int.reduceAdd, Int.reduceSub, Int.reduceMul, Nat.reduceSub]))
  apply loop_keep [5, 11] (fun s : { s : CS // s.at_ < s.many ∧ s.many ≤ 4096 ∧ checkC root s = B } => [(2, n64 s.1.at_), (3, n64 s.1.many), (4, .sl 32 (sumsA s.1.path) 0)]) (fun s => [(nx + 128, some (.obj (sumA s.1.now)))]) (fun s => s.1.many) ⟨⟨a, m, leafS k, l⟩, h1, h2, hB.symm⟩
  · simp -dsimp -implicitDefEqProofs only [go_sem, ↓reduceIte, Nat.reduceEqDiff, Nat.reduceAdd, Nat.reduceMul, Nat.reduceLeDiff, Nat.reduceLT, Nat.reduceBEq, Nat.reducePow, Int.reduceToNat, Int.reduceLE, Int.reduceLT, Int.reduceNeg, reduceCtorEq, Int.reduceEq, Int.reduceAdd, Int.reduceSub, Int.reduceMul, Nat.reduceSub]; try rfl
  · simp -dsimp -implicitDefEqProofs only [go_sem, ↓reduceIte, Nat.reduceEqDiff, Nat.reduceAdd, Nat.reduceMul, Nat.reduceLeDiff, Nat.reduceLT, Nat.reduceBEq, Nat.reducePow, Int.reduceToNat, Int.reduceLE, Int.reduceLT, Int.reduceNeg, reduceCtorEq, Int.reduceEq, Int.reduceAdd, Int.reduceSub, Int.reduceMul, Nat.reduceSub]; try rfl
  · simp -dsimp -implicitDefEqProofs only [go_sem, ↓reduceIte, Nat.reduceEqDiff, Nat.reduceAdd, Nat.reduceMul, Nat.reduceLeDiff, Nat.reduceLT, Nat.reduceBEq, Nat.reducePow, Int.reduceToNat, Int.reduceLE, Int.reduceLT, Int.reduceNeg, reduceCtorEq, Int.reduceEq, Int.reduceAdd, Int.reduceSub, Int.reduceMul, Nat.reduceSub]; try rfl
  · intro s
    simp -dsimp -implicitDefEqProofs only [go_sem, ↓reduceIte, Nat.reduceEqDiff, Nat.reduceAdd, Nat.reduceMul, Nat.reduceLeDiff, Nat.reduceLT, Nat.reduceBEq, Nat.reducePow, Int.reduceToNat, Int.reduceLE, Int.reduceLT, Int.reduceNeg, reduceCtorEq, Int.reduceEq, Int.reduceAdd, Int.reduceSub, Int.reduceMul, Nat.reduceSub]
    try omega
  · rintro ⟨⟨x, c, now, p⟩, g1, g2, g3⟩
    simp only at g1 g2
    have q1 := xor1 (a := x) (by omega)
    have q2 : IntKind.i64.wrap ((x : Int).tdiv 2) = ((x / 2 : Nat) : Int) := by rw [IntKind.wrap_i64, Int.tdiv_eq_ediv_of_nonneg (by omega)]; omega
    have q3 : (x : Int).tmod 2 = ((x % 2 : Nat) : Int) := by rw [Int.tmod_eq_emod_of_nonneg (by omega)]; omega
    have q4 : IntKind.i64.wrap ((c : Int) + 1) = ((c + 1 : Nat) : Int) := wrapE (by omega) (by omega)
    have q5 : IntKind.i64.wrap (((c + 1 : Nat) : Int).tdiv 2) = (((c + 1) / 2 : Nat) : Int) := by rw [IntKind.wrap_i64, Int.tdiv_eq_ediv_of_nonneg (by omega)]; omega
    by_cases hc : 1 < c
    · cases p with
      | nil =>
        repeat' (first | omega | assumption | (show AL.ahead _ _ _ = true; rfl) | refine brF (fun _ => ?_) (fun _ => ?_) | refine brT (fun _ => ?_) (fun _ => ?_) | refine brVF (fun _ => ?_) (fun _ => ?_) | refine brVT (fun _ => ?_) (fun _ => ?_) | (with_reducible refine And.intro ?_ ?_) | (simp -dsimp -implicitDefEqProofs only [go_sem, ↓reduceIte, Nat.reduceEqDiff, Nat.reduceAdd, Nat.reduceMul, Nat.reduceLeDiff, Nat.reduceLT, Nat.reduceBEq, Nat.reducePow, Int.reduceToNat, Int.reduceLE, Int.reduceLT, Int.reduceNeg, reduceCtorEq, Int.reduceEq, Int.reduceAdd, Int.reduceSub, Int.reduceMul, Nat.reduceSub, q1, q2, q3, q4, q5, sumsA, List.map_nil]))
        all_goals rename_i hx
        · rw [← g3, checkC_none root _ hc (by simp only [stepC]; rw [if_pos hx])]
        · refine ⟨⟨⟨x / 2, (c + 1) / 2, now, []⟩, by show x / 2 < (c + 1) / 2; omega, by show (c + 1) / 2 ≤ 4096; omega, ?_⟩, by show (c + 1) / 2 < c; omega, ⟨rfl, rfl, rfl⟩, rfl⟩
          rw [← g3]
          exact (checkC_some root hc (by simp only [stepC]; rw [if_neg hx])).symm
      | cons y r =>
        repeat' (first | omega | assumption | (show AL.ahead _ _ _ = true; rfl) | refine brF (fun _ => ?_) (fun _ => ?_) | refine brT (fun _ => ?_) (fun _ => ?_) | refine brVF (fun _ => ?_) (fun _ => ?_) | refine brVT (fun _ => ?_) (fun _ => ?_) | (with_reducible refine And.intro ?_ ?_) | (refine callK_by (pair_spec _ 2 _ _) ?_) | (simp -dsimp -implicitDefEqProofs only [go_sem, ↓reduceIte, Nat.reduceEqDiff, Nat.reduceAdd, Nat.reduceMul, Nat.reduceLeDiff, Nat.reduceLT, Nat.reduceBEq, Nat.reducePow, Int.reduceToNat, Int.reduceLE, Int.reduceLT, Int.reduceNeg, reduceCtorEq, Int.reduceEq, Int.reduceAdd, Int.reduceSub, Int.reduceMul, Nat.reduceSub, q1, q2, q3, q4, q5, sumsA, List.map_cons, List.drop_one, List.tail_cons, List.take_length]))
        · rename_i hx _ hy
          refine ⟨⟨⟨x / 2, (c + 1) / 2, pairS 2 now y, r⟩, by show x / 2 < (c + 1) / 2; omega, by show (c + 1) / 2 ≤ 4096; omega, ?_⟩, by show (c + 1) / 2 < c; omega, ⟨rfl, rfl, rfl⟩, rfl⟩
          rw [← g3]
          exact (checkC_some root hc (by simp only [stepC]; rw [if_pos hx, if_pos (by omega)])).symm
        · rename_i hx _ hy
          refine ⟨⟨⟨x / 2, (c + 1) / 2, pairS 2 y now, r⟩, by show x / 2 < (c + 1) / 2; omega, by show (c + 1) / 2 ≤ 4096; omega, ?_⟩, by show (c + 1) / 2 < c; omega, ⟨rfl, rfl, rfl⟩, rfl⟩
          rw [← g3]
          exact (checkC_some root hc (by simp only [stepC]; rw [if_pos hx, if_neg (by omega)])).symm
        · rename_i hx
          refine ⟨⟨⟨x / 2, (c + 1) / 2, now, y :: r⟩, by show x / 2 < (c + 1) / 2; omega, by show (c + 1) / 2 ≤ 4096; omega, ?_⟩, by show (c + 1) / 2 < c; omega, ⟨rfl, rfl, rfl⟩, rfl⟩
          rw [← g3]
          exact (checkC_some root hc (by simp only [stepC]; rw [if_neg hx])).symm
    · have hend := checkC_end root ⟨x, c, now, p⟩ hc
      rw [g3] at hend
      simp only at hend
      simp -dsimp -implicitDefEqProofs only [go_sem, ↓reduceIte, Nat.reduceEqDiff, Nat.reduceAdd, Nat.reduceMul, Nat.reduceLeDiff, Nat.reduceLT, Nat.reduceBEq, Nat.reducePow, Int.reduceToNat, Int.reduceLE, Int.reduceLT, Int.reduceNeg, reduceCtorEq, Int.reduceEq, Int.reduceAdd, Int.reduceSub, Int.reduceMul, Nat.reduceSub]
      refine brT (fun h => absurd h (by omega)) (fun h => ?_)
      repeat' (first | omega | assumption | (show AL.ahead _ _ _ = true; rfl) | refine brF (fun _ => ?_) (fun _ => ?_) | refine brT (fun _ => ?_) (fun _ => ?_) | refine brVF (fun _ => ?_) (fun _ => ?_) | refine brVT (fun _ => ?_) (fun _ => ?_) | (with_reducible refine And.intro ?_ ?_) | (simp -dsimp -implicitDefEqProofs only [go_sem, ↓reduceIte, Nat.reduceEqDiff, Nat.reduceAdd, Nat.reduceMul, Nat.reduceLeDiff, Nat.reduceLT, Nat.reduceBEq, Nat.reducePow, Int.reduceToNat, Int.reduceLE, Int.reduceLT, Int.reduceNeg, reduceCtorEq, Int.reduceEq, Int.reduceAdd, Int.reduceSub, Int.reduceMul, Nat.reduceSub, ↓cmp_sum, isSumT, decide_eq_true_eq, Bool.and_self]))
      all_goals rw [hend]
      · rename_i hx
        rw [decide_eq_true (by omega : p.length = 0), Bool.true_and]; rfl
      · rename_i hx
        rw [decide_eq_false (by omega : ¬ p.length = 0), Bool.false_and]
end Go.Proofs.YtjcnhgmaabkelaaGreat

/-
  Receipts' texts, proofs' bytes, what proves.
-/
set_option linter.unusedSimpArgs false
set_option linter.unusedVariables false
set_option maxRecDepth 100000
set_option maxHeartbeats 1000000
namespace Go.Proofs.YtjcnhgmaabkelaaGreat
open Go Go.AL Go.Proofs.YtjcnhgmaabkelaaGreat.T
attribute [local go_sem] nb_u8s u8s_length nb_sum sumA List.length_replicate u8_wrap take32 List.drop_zero zero_sum sum_h u8s_cons u8s_one u8_gc u8_gd1 u8_cs1 List.length_append u8s_app penA nb_vals vals_len u8s_nil
structure Rec_ where
  tower : Int
  channel : Int
  state : Int
  hint : Sum
  blob : Sum
def recA (r : Rec_) : AV := .agg 67 [n64 r.tower, n64 r.channel, n64 r.state, sumA r.hint, sumA r.blob]
def recL (r : Rec_) : List UInt8 := [r.tower, r.channel, r.state].flatMap numI ++ r.hint.b ++ r.blob.b
abbrev recR (r : Rec_) : Prop := 0 ≤ r.tower ∧ r.tower < 16 ∧ 0 ≤ r.channel ∧ r.channel ≤ 1048576 ∧ 0 ≤ r.state ∧ r.state ≤ 1048576
theorem recRight_spec (nx : Nat) (r : Rec_) : FnSpec Tryz.prog 51 nx [recA r] [] (bA (decide (recR r))) [] 0 := by
  refine FnSpec.of_code (cx := cx) (an := {}) (rs := [.tmp 2]) mo Tryz.func51 rfl rfl (by kernel_rfl) (by kernel_rfl) (by show 1 ≤ _; decide) (.inl rfl) (by simp [allWr, keys, Res.wr]) ?_
  repeat' (first | omega | assumption | (show AL.ahead _ _ _ = true; rfl) | refine brF (fun _ => ?_) (fun _ => ?_) | refine brT (fun _ => ?_) (fun _ => ?_) | refine brVF (fun _ => ?_) (fun _ => ?_) | refine brVT (fun _ => ?_) (fun _ => ?_) | (with_reducible refine And.intro ?_ ?_) | (simp -dsimp -implicitDefEqProofs only [go_sem, ↓reduceIte, Nat.reduceEqDiff, Nat.reduceAdd, Nat.reduceMul, Nat.reduceLeDiff, Nat.reduceLT, Nat.reduceBEq, Nat.reducePow, Int.reduceToNat, Int.reduceLE, Int.reduceLT, Int.reduceNeg, reduceCtorEq, Int.reduceEq, Int.reduceAdd, Int.reduceSub, Int.reduceMul, Nat.reduceSub, recA]))
  all_goals (simp only [bA, recR]; congr 2; first | (simp; omega) | (apply decide_eq_decide.2; omega) | trace_state)
theorem recText_spec (nx : Nat) (r : Rec_) : FnSpec Tryz.prog 53 nx [recA r] [] (.sl 1 (u8s (recL r)) 0) [] 0 := by
  have h1 := flat_numI [r.tower, r.channel, r.state]
  have h2 := r.hint.h
  have h3 := r.blob.h
  simp only [List.length_cons, List.length_nil] at h1
  have key : FnSpec Tryz.prog 53 nx [recA r] [] (.sl 1 (u8s (recL r)) (nx + 210)) [(nx + 208, some (.tail (recL r).length))] 600 := by
    unfold recL
    refine FnSpec.of_code (cx := cx) (an := {tk := [(3, [([0], 1)])]}) (rs := [.tmp 2]) mo Tryz.func53 rfl rfl (by kernel_rfl) (by kernel_rfl) (by show 1 ≤ _; decide) (.inl rfl) (by simp [allWr, keys, Res.wr]) ?_
    repeat' (first | omega | assumption | (show AL.ahead _ _ _ = true; rfl) | refine brF (fun _ => ?_) (fun _ => ?_) | refine brT (fun _ => ?_) (fun _ => ?_) | refine brVF (fun _ => ?_) (fun _ => ?_) | refine brVT (fun _ => ?_) (fun _ => ?_) | (with_reducible refine And.intro ?_ ?_) | (refine callK_by (nums_spec _ (nx + 16) (nx + 17) 1 [] [r.tower, r.channel, r.state] (by simp) (by omega) (by omega) (by omega) (by omega)) ?_) | (refine callK_by (psum_spec _ (nx + 16) (nx + 17) ([r.tower, r.channel, r.state].flatMap numI) r.hint (by omega) (by omega) (by omega) (by omega)) ?_) | (refine callK_by (psum_spec _ (nx + 16) (nx + 17) ([r.tower, r.channel, r.state].flatMap numI ++ r.hint.b) r.blob (by simp only [List.length_append]; omega) (by omega) (by omega) (by omega)) ?_) | (refine callK_by (bytes_spec _ (nx + 16) (nx + 19) ([r.tower, r.channel, r.state].flatMap numI ++ r.hint.b ++ r.blob.b) (by simp only [List.length_append]; omega) (by omega) (by omega)) ?_) | (simp -dsimp -implicitDefEqProofs only [go_sem, ↓reduceIte, Nat.reduceEqDiff, Nat.reduceAdd, Nat.reduceMul, Nat.reduceLeDiff, Nat.reduceLT, Nat.reduceBEq, Nat.reducePow, Int.reduceToNat, Int.reduceLE, Int.reduceLT, Int.reduceNeg, reduceCtorEq, Int.reduceEq, Int.reduceAdd, Int.reduceSub, Int.reduceMul, Nat.reduceSub, recA]))
    all_goals trace_state
  exact key.forget0 ⟨rfl, .inr ⟨.inl rfl, .inl rfl⟩⟩ (by simp [AV.nb, nb_u8s]) (by simp [keys])
structure Proof_ where
  rec_ : Rec_
  sig : List UInt8
  blob : List UInt8
  commit : Sum
def proofA (p : Proof_) : AV := .agg 101 [recA p.rec_, .sl 1 (u8s p.sig) 0, .sl 1 (u8s p.blob) 0, sumA p.commit]
def textL (d : List UInt8) : List UInt8 := numI d.length ++ d
def proofL (p : Proof_) : List UInt8 := textL (recL p.rec_) ++ textL p.sig ++ textL p.blob ++ p.commit.b
abbrev proofR (p : Proof_) : Prop := recR p.rec_ ∧ p.sig.length ≤ 65536 ∧ p.blob.length ≤ 65536
theorem putBad_spec (nx : Nat) (p : Proof_) (h1 : p.sig.length < 2 ^ 40) (h2 : p.blob.length < 2 ^ 40) (h : ¬ proofR p) : FnSpec Tryz.prog 22 nx [proofA p] [] (.tup [.sl 0 [] 1, n64 1]) [] 0 := by
  refine FnSpec.of_code (cx := cx) (an := {}) (rs := [.tmp 2, .tmp 3]) mo Tryz.func22 rfl rfl (by kernel_rfl) (by kernel_rfl) (by show 1 ≤ _; decide) (.inr ⟨_, rfl, by simp [AV.good]⟩) (by simp [allWr, keys, Res.wr]) ?_
  repeat' (first | omega | assumption | (show AL.ahead _ _ _ = true; rfl) | refine brF (fun _ => ?_) (fun _ => ?_) | refine brT (fun _ => ?_) (fun _ => ?_) | refine brVF (fun _ => ?_) (fun _ => ?_) | refine brVT (fun _ => ?_) (fun _ => ?_) | (with_reducible refine And.intro ?_ ?_) | (refine callK_by (recRight_spec _ p.rec_) ?_) | (simp -dsimp -implicitDefEqProofs only [go_sem, ↓reduceIte, Nat.reduceEqDiff, Nat.reduceAdd, Nat.reduceMul, Nat.reduceLeDiff, Nat.reduceLT, Nat.reduceBEq, Nat.reducePow, Int.reduceToNat, Int.reduceLE, Int.reduceLT, Int.reduceNeg, reduceCtorEq, Int.reduceEq, Int.reduceAdd, Int.reduceSub, Int.reduceMul, Nat.reduceSub, proofA, recA]))
theorem proof_len (p : Proof_) (h : proofR p) : (recL p.rec_).length ≤ 94 ∧ (proofL p).length = (numI (recL p.rec_).length).length + (recL p.rec_).length + ((numI p.sig.length).length + p.sig.length) + ((numI p.blob.length).length + p.blob.length) + 32 := by
  have h1 := flat_numI [p.rec_.tower, p.rec_.channel, p.rec_.state]
  simp only [List.length_cons, List.length_nil] at h1
  have h2 : (recL p.rec_).length ≤ 94 := by simp only [recL, List.length_append, sum_h]; omega
  refine ⟨h2, ?_⟩
  simp only [proofL, textL, List.length_append, sum_h]
theorem putOk_spec (nx : Nat) (p : Proof_) (h : proofR p) (hl : (proofL p).length ≤ 65536) : FnSpec Tryz.prog 22 nx [proofA p] [] (.tup [.sl 1 (u8s (proofL p)) 0, n64 0]) [] 0 := by
  obtain ⟨h1, h2⟩ := proof_len p h
  have n1 := numI_len (recL p.rec_).length
  have n2 := numI_len p.sig.length
  have n3 := numI_len p.blob.length
  have hp : p.sig.length ≤ 65536 ∧ p.blob.length ≤ 65536 := ⟨h.2.1, h.2.2⟩
  have key : FnSpec Tryz.prog 22 nx [proofA p] [] (.tup [.sl 1 (u8s (proofL p)) (nx + 338), n64 0]) [(nx + 336, some (.tail (proofL p).length))] 900 := by
    have e : proofL p = numI (recL p.rec_).length ++ recL p.rec_ ++ numI p.sig.length ++ p.sig ++ numI p.blob.length ++ p.blob ++ p.commit.b := by
      simp only [proofL, textL, List.append_assoc]
    rw [e]
    refine FnSpec.of_code (cx := cx) (an := {tk := [(4, [([0], 1)])]}) (rs := [.tmp 2, .tmp 3]) mo Tryz.func22 rfl rfl (by kernel_rfl) (by kernel_rfl) (by show 1 ≤ _; decide) (.inr ⟨_, rfl, by simp [AV.good]⟩) (by simp [allWr, keys, Res.wr]) ?_
    repeat' (first | omega | assumption | (show AL.ahead _ _ _ = true; rfl) | refine brF (fun _ => ?_) (fun _ => ?_) | refine brT (fun _ => ?_) (fun _ => ?_) | refine brVF (fun _ => ?_) (fun _ => ?_) | refine brVT (fun _ => ?_) (fun _ => ?_) | (with_reducible refine And.intro ?_ ?_) | (refine callK_by (recRight_spec _ p.rec_) ?_) | (refine callK_by (recText_spec _ p.rec_) ?_) | (refine callK_by (text_spec _ (nx + 152) (nx + 153) 0 [] (recL p.rec_) (by simp; omega) (by omega) (by omega) (by omega) (by omega)) ?_) | (refine callK_by (text_spec _ (nx + 152) (nx + 153) 0 (numI (recL p.rec_).length ++ recL p.rec_) p.sig (by simp; omega) (by omega) (by omega) (by omega) (by omega)) ?_) | (refine callK_by (text_spec _ (nx + 152) (nx + 153) 0 (numI (recL p.rec_).length ++ recL p.rec_ ++ numI p.sig.length ++ p.sig) p.blob (by simp; omega) (by omega) (by omega) (by omega) (by omega)) ?_) | (refine callK_by (psum_spec _ (nx + 152) (nx + 153) (numI (recL p.rec_).length ++ recL p.rec_ ++ numI p.sig.length ++ p.sig ++ numI p.blob.length ++ p.blob) p.commit (by simp; omega) (by omega) (by omega) (by omega)) ?_) | (refine callK_by (bytes_spec _ (nx + 152) (nx + 155) (numI (recL p.rec_).length ++ recL p.rec_ ++ numI p.sig.length ++ p.sig ++ numI p.blob.length ++ p.blob ++ p.commit.b) (by simp only [List.length_append, sum_h]; omega) (by omega) (by omega)) ?_) | (simp -dsimp -implicitDefEqProofs only [go_sem, ↓reduceIte, Nat.reduceEqDiff, Nat.reduceAdd, Nat.reduceMul, Nat.reduceLeDiff, Nat.reduceLT, Nat.reduceBEq, Nat.reducePow, Int.reduceToNat, Int.reduceLE, Int.reduceLT, Int.reduceNeg, reduceCtorEq, Int.reduceEq, Int.reduceAdd, Int.reduceSub, Int.reduceMul, Nat.reduceSub, proofA, recA]))
  exact (key.outle (av' := .tup [.sl 1 (u8s (proofL p)) 0, n64 0]) ⟨_, _, rfl, ⟨_, _, rfl, AV.les_refl _, .inr (.inl rfl)⟩, AV.les_refl _⟩).forget0 ⟨rfl, fun i x y h1 h2 => .inl (by rw [h1] at h2; exact Option.some.inj h2)⟩ (by simp [AV.nb, AV.nbs, nb_u8s]) (by simp [keys])
theorem putLong_spec (nx : Nat) (p : Proof_) (h : proofR p) (hl : ¬ (proofL p).length ≤ 65536) : FnSpec Tryz.prog 22 nx [proofA p] [] (.tup [.sl 0 [] 1, n64 3]) [] 0 := by
  obtain ⟨h1, h2⟩ := proof_len p h
  have n1 := numI_len (recL p.rec_).length
  have n2 := numI_len p.sig.length
  have n3 := numI_len p.blob.length
  have hp : p.sig.length ≤ 65536 ∧ p.blob.length ≤ 65536 := ⟨h.2.1, h.2.2⟩
  have key : FnSpec Tryz.prog 22 nx [proofA p] [] (.tup [.sl 0 [] 1, n64 3]) [(nx + 336, some (.tail (proofL p).length))] 900 := by
    have e : proofL p = numI (recL p.rec_).length ++ recL p.rec_ ++ numI p.sig.length ++ p.sig ++ numI p.blob.length ++ p.blob ++ p.commit.b := by
      simp only [proofL, textL, List.append_assoc]
    rw [e]
    refine FnSpec.of_code (cx := cx) (an := {tk := [(4, [([0], 1)])]}) (rs := [.tmp 2, .tmp 3]) mo Tryz.func22 rfl rfl (by kernel_rfl) (by kernel_rfl) (by show 1 ≤ _; decide) (.inr ⟨_, rfl, by simp [AV.good]⟩) (by simp [allWr, keys, Res.wr]) ?_
    repeat' (first | omega | assumption | (show AL.ahead _ _ _ = true; rfl) | refine brF (fun _ => ?_) (fun _ => ?_) | refine brT (fun _ => ?_) (fun _ => ?_) | refine brVF (fun _ => ?_) (fun _ => ?_) | refine brVT (fun _ => ?_) (fun _ => ?_) | (with_reducible refine And.intro ?_ ?_) | (refine callK_by (recRight_spec _ p.rec_) ?_) | (refine callK_by (recText_spec _ p.rec_) ?_) | (refine callK_by (text_spec _ (nx + 152) (nx + 153) 0 [] (recL p.rec_) (by simp; omega) (by omega) (by omega) (by omega) (by omega)) ?_) | (refine callK_by (text_spec _ (nx + 152) (nx + 153) 0 (numI (recL p.rec_).length ++ recL p.rec_) p.sig (by simp; omega) (by omega) (by omega) (by omega) (by omega)) ?_) | (refine callK_by (text_spec _ (nx + 152) (nx + 153) 0 (numI (recL p.rec_).length ++ recL p.rec_ ++ numI p.sig.length ++ p.sig) p.blob (by simp; omega) (by omega) (by omega) (by omega) (by omega)) ?_) | (refine callK_by (psum_spec _ (nx + 152) (nx + 153) (numI (recL p.rec_).length ++ recL p.rec_ ++ numI p.sig.length ++ p.sig ++ numI p.blob.length ++ p.blob) p.commit (by simp; omega) (by omega) (by omega) (by omega)) ?_) | (refine callK_by (bytes_spec _ (nx + 152) (nx + 155) (numI (recL p.rec_).length ++ recL p.rec_ ++ numI p.sig.length ++ p.sig ++ numI p.blob.length ++ p.blob ++ p.commit.b) (by simp only [List.length_append, sum_h]; omega) (by omega) (by omega)) ?_) | (simp -dsimp -implicitDefEqProofs only [go_sem, ↓reduceIte, Nat.reduceEqDiff, Nat.reduceAdd, Nat.reduceMul, Nat.reduceLeDiff, Nat.reduceLT, Nat.reduceBEq, Nat.reducePow, Int.reduceToNat, Int.reduceLE, Int.reduceLT, Int.reduceNeg, reduceCtorEq, Int.reduceEq, Int.reduceAdd, Int.reduceSub, Int.reduceMul, Nat.reduceSub, proofA, recA]))
  exact key.forget0 ⟨rfl, fun i x y h1 h2 => .inl (by rw [h1] at h2; exact Option.some.inj h2)⟩ (by simp [AV.nb, AV.nbs, nb_u8s]) (by simp [keys])
end Go.Proofs.YtjcnhgmaabkelaaGreat

/-
  Is a signature that of a key with a root? Is a receipt good?
-/
set_option linter.unusedSimpArgs false
set_option linter.unusedVariables false
set_option maxRecDepth 100000
set_option maxHeartbeats 1000000
namespace Go.Proofs.YtjcnhgmaabkelaaGreat
open Go Go.AL Go.Proofs.YtjcnhgmaabkelaaGreat.T
attribute [local go_sem] nb_u8s u8s_length nb_sum sumA List.length_replicate u8_wrap take32 List.drop_zero zero_sum sum_h u8s_nil sums_len nb_sums
noncomputable def verB (root : Sum) (text sig : List UInt8) : Bool :=
  if (readS sig).e = 0 ∧ (readS sig).one.length = 4096 ∧ (readS sig).at_ < (readS sig).leaves then checkC root ⟨(readS sig).at_.toNat, (readS sig).leaves.toNat, leafS (backS text (readS sig).one), (readS sig).path⟩ else false
theorem readS_rng (b : List UInt8) : 0 ≤ (readS b).at_ ∧ 0 ≤ (readS b).leaves ∧ (readS b).leaves ≤ 64 := by
  have h1 := uptoS_rng ⟨b, 0⟩ 64 (by decide)
  have h2 := uptoS_rng (uptoS ⟨b, 0⟩ 64).2 64 (by decide)
  exact ⟨h1.1, h2.1, h2.2⟩
theorem mver_spec (nx t t2 : Nat) (root : Sum) (text sig : List UInt8) (hx : text.length < 2 ^ 39) (hs : sig.length < 2 ^ 40) (ht : t < 2 ∨ t - 2 < nx) (ht2 : t2 = 0) :
    FnSpec Tryz.prog 114 nx [sumA root, .sl 1 (u8s text) t, .sl 1 (u8s sig) t2] [] (bA (verB root text sig)) [] 0 := by
  subst ht2
  have hrd := fun nc => read_spec nc sig hs
  have hrg := readS_rng sig
  have hvb : ∀ b, b = verB root text sig → (bA b = bA (verB root text sig)) := fun b h => by rw [h]
  unfold verB at hvb ⊢
  generalize readS sig = R at *
  by_cases he : R.e = 0
  · simp only [he, if_true] at hrd
    by_cases ho : R.one.length = 4096
    · have hbk := fun nc (h : nx ≤ nc) => backT_spec nc t 0 text R.one hx ho (by omega) (by omega)
      by_cases hc : R.at_ < R.leaves
      · have hck := fun nc => check_spec nc root (backS text R.one) R.at_.toNat R.leaves.toNat R.path (by omega) (by omega)
        rw [Int.toNat_of_nonneg hrg.1, Int.toNat_of_nonneg hrg.2.1] at hck
        rw [if_pos ⟨he, ho, hc⟩]
        refine FnSpec.of_code (cx := cx) (an := {}) (rs := [.tmp 6]) mo Tryz.func114 rfl rfl (by kernel_rfl) (by kernel_rfl) (by show 3 ≤ _; decide) (.inl rfl) (by simp [allWr, keys, Res.wr]) ?_
        repeat' (first | omega | assumption | (show AL.ahead _ _ _ = true; rfl) | refine brF (fun _ => ?_) (fun _ => ?_) | refine brT (fun _ => ?_) (fun _ => ?_) | refine brVF (fun _ => ?_) (fun _ => ?_) | refine brVT (fun _ => ?_) (fun _ => ?_) | (with_reducible refine And.intro ?_ ?_) | (refine callK_by (hrd _) ?_) | (refine callK_by (hbk _ (by omega)) ?_) | (refine callK_by (hck _) ?_) | (simp -dsimp -implicitDefEqProofs only [go_sem, ↓reduceIte, Nat.reduceEqDiff, Nat.reduceAdd, Nat.reduceMul, Nat.reduceLeDiff, Nat.reduceLT, Nat.reduceBEq, Nat.reducePow, Int.reduceToNat, Int.reduceLE, Int.reduceLT, Int.reduceNeg, reduceCtorEq, Int.reduceEq, Int.reduceAdd, Int.reduceSub, Int.reduceMul, Nat.reduceSub]))
        all_goals trace_state
      · have hck := fun nc => checkBad_spec nc 0 root (backS text R.one) R.at_ R.leaves R.path (by omega) (by omega)
        rw [if_neg (fun h => hc h.2.2)]
        refine FnSpec.of_code (cx := cx) (an := {}) (rs := [.tmp 6]) mo Tryz.func114 rfl rfl (by kernel_rfl) (by kernel_rfl) (by show 3 ≤ _; decide) (.inl rfl) (by simp [allWr, keys, Res.wr]) ?_
        repeat' (first | omega | assumption | (show AL.ahead _ _ _ = true; rfl) | refine brF (fun _ => ?_) (fun _ => ?_) | refine brT (fun _ => ?_) (fun _ => ?_) | refine brVF (fun _ => ?_) (fun _ => ?_) | refine brVT (fun _ => ?_) (fun _ => ?_) | (with_reducible refine And.intro ?_ ?_) | (refine callK_by (hrd _) ?_) | (refine callK_by (hbk _ (by omega)) ?_) | (refine callK_by (hck _) ?_) | (simp -dsimp -implicitDefEqProofs only [go_sem, ↓reduceIte, Nat.reduceEqDiff, Nat.reduceAdd, Nat.reduceMul, Nat.reduceLeDiff, Nat.reduceLT, Nat.reduceBEq, Nat.reducePow, Int.reduceToNat, Int.reduceLE, Int.reduceLT, Int.reduceNeg, reduceCtorEq, Int.reduceEq, Int.reduceAdd, Int.reduceSub, Int.reduceMul, Nat.reduceSub]))
        all_goals trace_state
    · have hbk := fun nc (h : nx ≤ nc) => backBad_spec nc t 0 text R.one ho (by omega) (by omega)
      rw [if_neg (fun h => ho h.2.1)]
      refine FnSpec.of_code (cx := cx) (an := {}) (rs := [.tmp 6]) mo Tryz.func114 rfl rfl (by kernel_rfl) (by kernel_rfl) (by show 3 ≤ _; decide) (.inl rfl) (by simp [allWr, keys, Res.wr]) ?_
      repeat' (first | omega | assumption | (show AL.ahead _ _ _ = true; rfl) | refine brF (fun _ => ?_) (fun _ => ?_) | refine brT (fun _ => ?_) (fun _ => ?_) | refine brVF (fun _ => ?_) (fun _ => ?_) | refine brVT (fun _ => ?_) (fun _ => ?_) | (with_reducible refine And.intro ?_ ?_) | (refine callK_by (hrd _) ?_) | (refine callK_by (hbk _ (by omega)) ?_) | (simp -dsimp -implicitDefEqProofs only [go_sem, ↓reduceIte, Nat.reduceEqDiff, Nat.reduceAdd, Nat.reduceMul, Nat.reduceLeDiff, Nat.reduceLT, Nat.reduceBEq, Nat.reducePow, Int.reduceToNat, Int.reduceLE, Int.reduceLT, Int.reduceNeg, reduceCtorEq, Int.reduceEq, Int.reduceAdd, Int.reduceSub, Int.reduceMul, Nat.reduceSub]))
      all_goals trace_state
  · simp only [he, if_false] at hrd
    rw [if_neg (fun h => he h.1)]
    refine FnSpec.of_code (cx := cx) (an := {}) (rs := [.tmp 6]) mo Tryz.func114 rfl rfl (by kernel_rfl) (by kernel_rfl) (by show 3 ≤ _; decide) (.inl rfl) (by simp [allWr, keys, Res.wr]) ?_
    repeat' (first | omega | assumption | (show AL.ahead _ _ _ = true; rfl) | refine brF (fun _ => ?_) (fun _ => ?_) | refine brT (fun _ => ?_) (fun _ => ?_) | refine brVF (fun _ => ?_) (fun _ => ?_) | refine brVT (fun _ => ?_) (fun _ => ?_) | (with_reducible refine And.intro ?_ ?_) | (refine callK_by (hrd _) ?_) | (simp -dsimp -implicitDefEqProofs only [go_sem, ↓reduceIte, Nat.reduceEqDiff, Nat.reduceAdd, Nat.reduceMul, Nat.reduceLeDiff, Nat.reduceLT, Nat.reduceBEq, Nat.reducePow, Int.reduceToNat, Int.reduceLE, Int.reduceLT, Int.reduceNeg, reduceCtorEq, Int.reduceEq, Int.reduceAdd, Int.reduceSub, Int.reduceMul, Nat.reduceSub]))
    all_goals trace_state
structure SRec where
  rec_ : Rec_
  sig : List UInt8
def srecA (x : SRec) : AV := .agg 68 [recA x.rec_, .sl 1 (u8s x.sig) 0]
noncomputable def goodB (root : Sum) (x : SRec) : Bool := decide (recR x.rec_) && verB root (recL x.rec_) x.sig
theorem rver_spec (nx : Nat) (root : Sum) (x : SRec) (hs : x.sig.length < 2 ^ 40) : FnSpec Tryz.prog 98 nx [sumA root, recA x.rec_, .sl 1 (u8s x.sig) 0] [] (bA (goodB root x)) [] 0 := by
  have h1 := flat_numI [x.rec_.tower, x.rec_.channel, x.rec_.state]
  simp only [List.length_cons, List.length_nil] at h1
  have hl : (recL x.rec_).length < 2 ^ 39 := by simp only [recL, List.length_append, sum_h]; omega
  have h2 := fun nc => recRight_spec nc x.rec_
  have h3 := fun nc => recText_spec nc x.rec_
  have h4 := fun nc => mver_spec nc 0 0 root (recL x.rec_) x.sig hl hs (by omega) rfl
  simp only [recA] at h2 h3
  unfold goodB
  refine FnSpec.of_code (cx := cx) (an := {}) (rs := [.tmp 6]) mo Tryz.func98 rfl rfl (by kernel_rfl) (by kernel_rfl) (by show 3 ≤ _; decide) (.inl rfl) (by simp [allWr, keys, Res.wr]) ?_
  repeat' (first | omega | assumption | (show AL.ahead _ _ _ = true; rfl) | refine brF (fun _ => ?_) (fun _ => ?_) | refine brT (fun _ => ?_) (fun _ => ?_) | refine brVF (fun _ => ?_) (fun _ => ?_) | refine brVT (fun _ => ?_) (fun _ => ?_) | (with_reducible refine And.intro ?_ ?_) | (refine callK_by (h2 _) ?_) | (refine callK_by (h3 _) ?_) | (refine callK_by (h4 _) ?_) | (simp -dsimp -implicitDefEqProofs only [go_sem, ↓reduceIte, Nat.reduceEqDiff, Nat.reduceAdd, Nat.reduceMul, Nat.reduceLeDiff, Nat.reduceLT, Nat.reduceBEq, Nat.reducePow, Int.reduceToNat, Int.reduceLE, Int.reduceLT, Int.reduceNeg, reduceCtorEq, Int.reduceEq, Int.reduceAdd, Int.reduceSub, Int.reduceMul, Nat.reduceSub, recA]))
  · rename_i hx
    rw [decide_eq_true hx, Bool.true_and]
  · rename_i hx
    rw [decide_eq_false hx, Bool.false_and]
theorem good_spec (nx : Nat) (root : Sum) (x : SRec) (hs : x.sig.length < 2 ^ 40) : FnSpec Tryz.prog 73 nx [srecA x, sumA root] [] (bA (goodB root x)) [] 0 := by
  have h1 := fun nc => rver_spec nc root x hs
  simp only [recA] at h1
  refine FnSpec.of_code (cx := cx) (an := {}) (rs := [.tmp 4]) mo Tryz.func73 rfl rfl (by kernel_rfl) (by kernel_rfl) (by show 2 ≤ _; decide) (.inl rfl) (by simp [allWr, keys, Res.wr]) ?_
  repeat' (first | omega | assumption | (show AL.ahead _ _ _ = true; rfl) | refine brF (fun _ => ?_) (fun _ => ?_) | refine brT (fun _ => ?_) (fun _ => ?_) | refine brVF (fun _ => ?_) (fun _ => ?_) | refine brVT (fun _ => ?_) (fun _ => ?_) | (with_reducible refine And.intro ?_ ?_) | (refine callK_by (h1 _) ?_) | (simp -dsimp -implicitDefEqProofs only [go_sem, ↓reduceIte, Nat.reduceEqDiff, Nat.reduceAdd, Nat.reduceMul, Nat.reduceLeDiff, Nat.reduceLT, Nat.reduceBEq, Nat.reducePow, Int.reduceToNat, Int.reduceLE, Int.reduceLT, Int.reduceNeg, reduceCtorEq, Int.reduceEq, Int.reduceAdd, Int.reduceSub, Int.reduceMul, Nat.reduceSub, srecA, recA]))
  all_goals trace_state
end Go.Proofs.YtjcnhgmaabkelaaGreat

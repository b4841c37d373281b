/-
  Sums: arrays of 32 bytes; what is reckoned of them by one call of sha.Join.
-/
import Derived.Test.YtdkcobnhcpgpaaaGreatZP4
set_option linter.unusedSimpArgs false
set_option linter.unusedVariables false
set_option maxRecDepth 100000
set_option maxHeartbeats 1000000
namespace Go.Proofs.YtdkcobnhcpgpaaaGreat
open Go Go.AL Go.Proofs.YtdkcobnhcpgpaaaGreat.T

abbrev bA (b : Bool) : AV := .val (.bool b)
/-- a sum -/
structure Sum where
  b : List UInt8
  h : b.length = 32
theorem Sum.ext' {s t : Sum} (h : s.b = t.b) : s = t := by cases s; cases t; cases h; rfl
def sumA (s : Sum) : AV := .vec 1 (u8s s.b)
theorem nb_sum {m : Nat} (s : Sum) : (sumA s).nb m = True := by simp [sumA, AV.nb, nb_u8s]
def zeroS : Sum := ⟨List.replicate 32 0, by simp⟩
noncomputable def shaS (l : List UInt8) : Sum := ⟨shaOf l, shaOf_len l⟩
noncomputable def joinS (tag : UInt8) (ps : List (List UInt8)) : Sum := shaS (joinL tag ps)
theorem sum_h (s : Sum) : s.b.length = 32 := s.h
theorem sum_lenA (s : Sum) : (u8s s.b).length = 32 := by rw [u8s_length]; exact s.h
theorem take32 (s : Sum) : (u8s s.b).take 32 = u8s s.b := List.take_of_length_le (by rw [sum_lenA]; omega)
theorem u8_lit (b : UInt8) : [AV.val (Value.int .u8 (b.toNat : Int))] = u8s [b] := rfl
theorem sum_csz (s : Sum) : (sumA s).csize = 32 := by simp [sumA, AV.csize, sum_lenA]
theorem sum_agg (s : Sum) : (sumA s).isAgg = true := rfl
theorem zero_sum : AV.vec 1 (List.replicate 32 (AV.val (Value.int .u8 0))) = sumA zeroS := by simp [sumA, zeroS, u8s, u8]
theorem parts_nil (l : List UInt8) (t : Nat) : AV.sl 1 (u8s l) t = partA (l, t) := rfl

theorem sumA_join (tag : UInt8) (ps : List (List UInt8)) : AV.vec 1 (u8s (shaOf (joinL tag ps))) = sumA (joinS tag ps) := rfl
/-- a call of Join on few parts -/
theorem join1_spec (nx tok t1 : Nat) (tag : UInt8) (a : List UInt8) (ha : a.length < 2 ^ 39) (h1 : t1 < 2 ∨ t1 - 2 < nx) (ht : tok < 2 ∨ tok - 2 < nx) :
    FnSpec Tryz.prog 120 nx [u8 tag, .sl 1 [.sl 1 (u8s a) t1] tok] [] (sumA (joinS tag [a])) [] 0 := by
  have h := join_spec nx tok tag [(a, t1)] (fun p hp => by simp at hp; subst hp; exact h1) (by rw [joinL_len]; simp [joinPart, len4]; omega) ht
  simp only [List.map_cons, List.map_nil, partA, sumA_join] at h
  exact h
theorem join2_spec (nx tok t1 t2 : Nat) (tag : UInt8) (a b : List UInt8) (ha : a.length + b.length < 2 ^ 39) (h1 : t1 < 2 ∨ t1 - 2 < nx) (h2 : t2 < 2 ∨ t2 - 2 < nx) (ht : tok < 2 ∨ tok - 2 < nx) :
    FnSpec Tryz.prog 120 nx [u8 tag, .sl 1 [.sl 1 (u8s a) t1, .sl 1 (u8s b) t2] tok] [] (sumA (joinS tag [a, b])) [] 0 := by
  have h := join_spec nx tok tag [(a, t1), (b, t2)] (fun p hp => by simp at hp; rcases hp with rfl | rfl; exact h1; exact h2) (by rw [joinL_len]; simp [joinPart, len4]; omega) ht
  simp only [List.map_cons, List.map_nil, partA, sumA_join] at h
  exact h

theorem and_bit0 : IntKind.i64.wrap ((BitVec.ofInt IntKind.i64.bits 0 &&& BitVec.ofInt IntKind.i64.bits 1).toNat : Int) = 0 := by decide
theorem and_bit1 : IntKind.i64.wrap ((BitVec.ofInt IntKind.i64.bits 1 &&& BitVec.ofInt IntKind.i64.bits 1).toNat : Int) = 1 := by decide
theorem u8s_cons (a : UInt8) (l : List UInt8) : u8 a :: u8s l = u8s (a :: l) := rfl
theorem u8_gc (l : List UInt8) : (∀ (u : AV), u ∈ u8s l → u.good = true ∧ u.csize = 1) = True := by
  simp only [eq_iff_iff, iff_true]
  intro u hu
  obtain ⟨a, _, rfl⟩ := List.mem_map.1 hu
  exact ⟨rfl, rfl⟩
theorem u8_gd1 (a : UInt8) : (u8 a).good = true := rfl
theorem u8_cs1 (a : UInt8) : (u8 a).csize = 1 := rfl
theorem u8s_app (a b : List UInt8) : u8s a ++ u8s b = u8s (a ++ b) := by simp [u8s]

noncomputable def shownS (s : Sum) : Sum := joinS 12 [s.b]
noncomputable def secS (s : Sum) (k : Int) (bit : Nat) : Sum := joinS 11 [s.b, [b8 k, b8 bit]]
noncomputable def seedS (s : Sum) (k : Int) : Sum := joinS 21 [s.b, [b8 k]]
noncomputable def leafS (s : Sum) : Sum := joinS 1 [s.b]
noncomputable def pairS (tag : UInt8) (a b : Sum) : Sum := joinS tag [a.b, b.b]
/-- what is shown of a key's secrets, the first k of them -/
noncomputable def pubL (s : Sum) : Nat → List UInt8
  | 0 => []
  | k + 1 => pubL s k ++ (shownS (secS s ((k / 2 : Nat) : Int) (k % 2))).b
theorem pubL_len (s : Sum) : ∀ k, (pubL s k).length = 32 * k
  | 0 => rfl
  | k + 1 => by rw [pubL, List.length_append, pubL_len s k, sum_h]; omega
noncomputable def pubS (s : Sum) : Sum := joinS 13 [pubL s 128]

attribute [local go_sem] nb_u8s u8s_length nb_sum sumA List.length_replicate u8_wrap take32 List.drop_zero zero_sum sum_h u8s_cons u8s_one u8_gc u8_gd1 u8_cs1 List.length_append
theorem shown_spec (nx : Nat) (s : Sum) : FnSpec Tryz.prog 183 nx [sumA s] [] (sumA (shownS s)) [] 0 := by
  have hl := s.h
  refine FnSpec.of_code (cx := cx) (an := {}) (rs := [.cell 2 23]) mo Tryz.func183 rfl rfl (by kernel_rfl) (by kernel_rfl) (by show 1 ≤ _; decide) (.inl rfl) (by simp [allWr, keys, Res.wr]) ?_
  repeat' (first | omega | assumption | (show AL.ahead _ _ _ = true; rfl) | refine brF (fun _ => ?_) (fun _ => ?_) | refine brT (fun _ => ?_) (fun _ => ?_) | refine brVF (fun _ => ?_) (fun _ => ?_) | refine brVT (fun _ => ?_) (fun _ => ?_) | (with_reducible refine And.intro ?_ ?_) | (refine callK_by (join1_spec _ 1 1 12 s.b (by omega) (by omega) (by omega)) ?_) | (simp -dsimp -implicitDefEqProofs only [go_sem, ↓reduceIte, Nat.reduceEqDiff, Nat.reduceAdd, Nat.reduceMul, Nat.reduceLeDiff, Nat.reduceLT, Nat.reduceBEq, Nat.reducePow, Int.reduceToNat, Int.reduceLE, Int.reduceLT, Int.reduceNeg, reduceCtorEq, Int.reduceEq, Int.reduceAdd, Int.reduceSub, Int.reduceMul, Nat.reduceSub, shownS]))
theorem leaf_spec (nx : Nat) (s : Sum) : FnSpec Tryz.prog 236 nx [sumA s] [] (sumA (leafS s)) [] 0 := by
  have hl := s.h
  refine FnSpec.of_code (cx := cx) (an := {}) (rs := [.cell 2 23]) mo Tryz.func236 rfl rfl (by kernel_rfl) (by kernel_rfl) (by show 1 ≤ _; decide) (.inl rfl) (by simp [allWr, keys, Res.wr]) ?_
  repeat' (first | omega | assumption | (show AL.ahead _ _ _ = true; rfl) | refine brF (fun _ => ?_) (fun _ => ?_) | refine brT (fun _ => ?_) (fun _ => ?_) | refine brVF (fun _ => ?_) (fun _ => ?_) | refine brVT (fun _ => ?_) (fun _ => ?_) | (with_reducible refine And.intro ?_ ?_) | (refine callK_by (join1_spec _ 1 1 1 s.b (by omega) (by omega) (by omega)) ?_) | (simp -dsimp -implicitDefEqProofs only [go_sem, ↓reduceIte, Nat.reduceEqDiff, Nat.reduceAdd, Nat.reduceMul, Nat.reduceLeDiff, Nat.reduceLT, Nat.reduceBEq, Nat.reducePow, Int.reduceToNat, Int.reduceLE, Int.reduceLT, Int.reduceNeg, reduceCtorEq, Int.reduceEq, Int.reduceAdd, Int.reduceSub, Int.reduceMul, Nat.reduceSub, leafS]))
theorem pair_spec (nx : Nat) (tag : UInt8) (a b : Sum) : FnSpec Tryz.prog 237 nx [u8 tag, sumA a, sumA b] [] (sumA (pairS tag a b)) [] 0 := by
  have h1 := a.h
  have h2 := b.h
  refine FnSpec.of_code (cx := cx) (an := {}) (rs := [.cell 6 23]) mo Tryz.func237 rfl rfl (by kernel_rfl) (by kernel_rfl) (by show 3 ≤ _; decide) (.inl rfl) (by simp [allWr, keys, Res.wr]) ?_
  repeat' (first | omega | assumption | (show AL.ahead _ _ _ = true; rfl) | refine brF (fun _ => ?_) (fun _ => ?_) | refine brT (fun _ => ?_) (fun _ => ?_) | refine brVF (fun _ => ?_) (fun _ => ?_) | refine brVT (fun _ => ?_) (fun _ => ?_) | (with_reducible refine And.intro ?_ ?_) | (refine callK_by (join2_spec _ 1 1 1 tag a.b b.b (by omega) (by omega) (by omega) (by omega)) ?_) | (simp -dsimp -implicitDefEqProofs only [go_sem, ↓reduceIte, Nat.reduceEqDiff, Nat.reduceAdd, Nat.reduceMul, Nat.reduceLeDiff, Nat.reduceLT, Nat.reduceBEq, Nat.reducePow, Int.reduceToNat, Int.reduceLE, Int.reduceLT, Int.reduceNeg, reduceCtorEq, Int.reduceEq, Int.reduceAdd, Int.reduceSub, Int.reduceMul, Nat.reduceSub, pairS]))
theorem seed_spec (nx : Nat) (s : Sum) (k : Int) : FnSpec Tryz.prog 137 nx [sumA s, n64 k] [] (sumA (seedS s k)) [] 0 := by
  have hl := s.h
  refine FnSpec.of_code (cx := cx) (an := {}) (rs := [.cell 4 23]) mo Tryz.func137 rfl rfl (by kernel_rfl) (by kernel_rfl) (by show 2 ≤ _; decide) (.inl rfl) (by simp [allWr, keys, Res.wr]) ?_
  repeat' (first | omega | assumption | (show AL.ahead _ _ _ = true; rfl) | refine brF (fun _ => ?_) (fun _ => ?_) | refine brT (fun _ => ?_) (fun _ => ?_) | refine brVF (fun _ => ?_) (fun _ => ?_) | refine brVT (fun _ => ?_) (fun _ => ?_) | (with_reducible refine And.intro ?_ ?_) | (refine callK_by (join2_spec _ 1 1 1 21 s.b [b8 k] (by simp only [hl, List.length_cons, List.length_nil]; omega) (by omega) (by omega) (by omega)) ?_) | (simp -dsimp -implicitDefEqProofs only [go_sem, ↓reduceIte, Nat.reduceEqDiff, Nat.reduceAdd, Nat.reduceMul, Nat.reduceLeDiff, Nat.reduceLT, Nat.reduceBEq, Nat.reducePow, Int.reduceToNat, Int.reduceLE, Int.reduceLT, Int.reduceNeg, reduceCtorEq, Int.reduceEq, Int.reduceAdd, Int.reduceSub, Int.reduceMul, Nat.reduceSub, seedS]))
theorem secret_spec (nx : Nat) (s : Sum) (k : Int) (bit : Nat) (hb : bit < 2) : FnSpec Tryz.prog 184 nx [sumA s, n64 k, n64 bit] [] (sumA (secS s k bit)) [] 0 := by
  have hl := s.h
  have hc : bit = 0 ∨ bit = 1 := by omega
  rcases hc with rfl | rfl
  · have e : ((0 : Nat) : Int) = 0 := rfl
    refine FnSpec.of_code (cx := cx) (an := {}) (rs := [.cell 6 23]) mo Tryz.func184 rfl rfl (by kernel_rfl) (by kernel_rfl) (by show 3 ≤ _; decide) (.inl rfl) (by simp [allWr, keys, Res.wr]) ?_
    repeat' (first | omega | assumption | (show AL.ahead _ _ _ = true; rfl) | refine brF (fun _ => ?_) (fun _ => ?_) | refine brT (fun _ => ?_) (fun _ => ?_) | refine brVF (fun _ => ?_) (fun _ => ?_) | refine brVT (fun _ => ?_) (fun _ => ?_) | (with_reducible refine And.intro ?_ ?_) | (refine callK_by (join2_spec _ 1 1 1 11 s.b [b8 k, b8 0] (by simp only [hl, List.length_cons, List.length_nil]; omega) (by omega) (by omega) (by omega)) ?_) | (simp -dsimp -implicitDefEqProofs only [go_sem, ↓reduceIte, Nat.reduceEqDiff, Nat.reduceAdd, Nat.reduceMul, Nat.reduceLeDiff, Nat.reduceLT, Nat.reduceBEq, Nat.reducePow, Int.reduceToNat, Int.reduceLE, Int.reduceLT, Int.reduceNeg, reduceCtorEq, Int.reduceEq, Int.reduceAdd, Int.reduceSub, Int.reduceMul, Nat.reduceSub, e, and_bit0, secS]))
  · have e : ((1 : Nat) : Int) = 1 := rfl
    refine FnSpec.of_code (cx := cx) (an := {}) (rs := [.cell 6 23]) mo Tryz.func184 rfl rfl (by kernel_rfl) (by kernel_rfl) (by show 3 ≤ _; decide) (.inl rfl) (by simp [allWr, keys, Res.wr]) ?_
    repeat' (first | omega | assumption | (show AL.ahead _ _ _ = true; rfl) | refine brF (fun _ => ?_) (fun _ => ?_) | refine brT (fun _ => ?_) (fun _ => ?_) | refine brVF (fun _ => ?_) (fun _ => ?_) | refine brVT (fun _ => ?_) (fun _ => ?_) | (with_reducible refine And.intro ?_ ?_) | (refine callK_by (join2_spec _ 1 1 1 11 s.b [b8 k, b8 1] (by simp only [hl, List.length_cons, List.length_nil]; omega) (by omega) (by omega) (by omega)) ?_) | (simp -dsimp -implicitDefEqProofs only [go_sem, ↓reduceIte, Nat.reduceEqDiff, Nat.reduceAdd, Nat.reduceMul, Nat.reduceLeDiff, Nat.reduceLT, Nat.reduceBEq, Nat.reducePow, Int.reduceToNat, Int.reduceLE, Int.reduceLT, Int.reduceNeg, reduceCtorEq, Int.reduceEq, Int.reduceAdd, Int.reduceSub, Int.reduceMul, Nat.reduceSub, e, and_bit1, secS]))

theorem public_spec (nx : Nat) (s : Sum) : FnSpec Tryz.prog 136 nx [sumA s] [] (sumA (pubS s)) [] 0 := by
  have hl := s.h
  refine FnSpec.of_code (cx := cx) (an := {}) (rs := [.cell 2 23]) mo Tryz.func136 rfl rfl (by kernel_rfl) (by kernel_rfl) (by show 1 ≤ _; decide) (.inl rfl) (by simp [allWr, keys, Res.wr]) ?_
  repeat' (first | omega | assumption | (show AL.ahead _ _ _ = true; rfl) | refine brF (fun _ => ?_) (fun _ => ?_) | refine brT (fun _ => ?_) (fun _ => ?_) | refine brVF (fun _ => ?_) (fun _ => ?_) | refine brVT (fun _ => ?_) (fun _ => ?_) | (with_reducible refine And.intro ?_ ?_) | (simp -dsimp -implicitDefEqProofs only [go_sem, ↓reduceIte, Nat.reduceEqDiff, Nat.reduceAdd, Nat.reduceMul, Nat.reduceLeDiff, Nat.reduceLT, Nat.reduceBEq, Nat.reducePow, Int.reduceToNat, Int.reduceLE, Int.reduceLT, Int.reduceNeg, reduceCtorEq, Int.reduceEq, Int.reduceAdd, Int.reduceSub, Int.reduceMul, Nat.reduceSub]))
  apply loop_keep [1, 2] (fun i : { i : Nat // i ≤ 64 } => [(3, .sl 1 (u8s (pubL s (2 * i.1))) (nx + 18)), (8, n64 i.1)]) (fun i => [(nx + 8, some (.obj (sumA zeroS))), (nx + 16, some (.tail (pubL s (2 * i.1)).length))]) (fun i => 64 - i.1) ⟨0, Nat.zero_le _⟩
  · simp -dsimp -implicitDefEqProofs only [go_sem, ↓reduceIte, Nat.reduceEqDiff, Nat.reduceAdd, Nat.reduceMul, Nat.reduceLeDiff, Nat.reduceLT, Nat.reduceBEq, Nat.reducePow, Int.reduceToNat, Int.reduceLE, Int.reduceLT, Int.reduceNeg, reduceCtorEq, Int.reduceEq, Int.reduceAdd, Int.reduceSub, Int.reduceMul, Nat.reduceSub]; rfl
  · simp -dsimp -implicitDefEqProofs only [go_sem, ↓reduceIte, Nat.reduceEqDiff, Nat.reduceAdd, Nat.reduceMul, Nat.reduceLeDiff, Nat.reduceLT, Nat.reduceBEq, Nat.reducePow, Int.reduceToNat, Int.reduceLE, Int.reduceLT, Int.reduceNeg, reduceCtorEq, Int.reduceEq, Int.reduceAdd, Int.reduceSub, Int.reduceMul, Nat.reduceSub]; try rfl
  · simp -dsimp -implicitDefEqProofs only [go_sem, ↓reduceIte, Nat.reduceEqDiff, Nat.reduceAdd, Nat.reduceMul, Nat.reduceLeDiff, Nat.reduceLT, Nat.reduceBEq, Nat.reducePow, Int.reduceToNat, Int.reduceLE, Int.reduceLT, Int.reduceNeg, reduceCtorEq, Int.reduceEq, Int.reduceAdd, Int.reduceSub, Int.reduceMul, Nat.reduceSub]; try rfl
  · intro s
    simp -dsimp -implicitDefEqProofs only [go_sem, ↓reduceIte, Nat.reduceEqDiff, Nat.reduceAdd, Nat.reduceMul, Nat.reduceLeDiff, Nat.reduceLT, Nat.reduceBEq, Nat.reducePow, Int.reduceToNat, Int.reduceLE, Int.reduceLT, Int.reduceNeg, reduceCtorEq, Int.reduceEq, Int.reduceAdd, Int.reduceSub, Int.reduceMul, Nat.reduceSub]
    omega
  · rintro ⟨i, hi⟩
    have hi : i ≤ 64 := hi
    simp -dsimp -implicitDefEqProofs only [go_sem, ↓reduceIte, Nat.reduceEqDiff, Nat.reduceAdd, Nat.reduceMul, Nat.reduceLeDiff, Nat.reduceLT, Nat.reduceBEq, Nat.reducePow, Int.reduceToNat, Int.reduceLE, Int.reduceLT, Int.reduceNeg, reduceCtorEq, Int.reduceEq, Int.reduceAdd, Int.reduceSub, Int.reduceMul, Nat.reduceSub]
    refine brT (fun h => ?_) (fun h => ?_)
    · have hi2 : i < 64 := by omega
      have w1 : IntKind.i64.wrap ((i : Int) + 1) = ((i + 1 : Nat) : Int) := wrapE (by omega) (by omega)
      simp -dsimp -implicitDefEqProofs only [go_sem, ↓reduceIte, Nat.reduceEqDiff, Nat.reduceAdd, Nat.reduceMul, Nat.reduceLeDiff, Nat.reduceLT, Nat.reduceBEq, Nat.reducePow, Int.reduceToNat, Int.reduceLE, Int.reduceLT, Int.reduceNeg, reduceCtorEq, Int.reduceEq, Int.reduceAdd, Int.reduceSub, Int.reduceMul, Nat.reduceSub]
      apply loop_keep [1, 2, 4, 8] (fun j : { j : Nat // j ≤ 2 } => [(3, .sl 1 (u8s (pubL s (2 * i + j.1))) (nx + 18)), (11, n64 j.1)]) (fun j => [(nx + 8, some (.obj (sumA zeroS))), (nx + 16, some (.tail (pubL s (2 * i + j.1)).length))]) (fun j => 2 - j.1) ⟨0, Nat.zero_le _⟩
      · simp -dsimp -implicitDefEqProofs only [go_sem, ↓reduceIte, Nat.reduceEqDiff, Nat.reduceAdd, Nat.reduceMul, Nat.reduceLeDiff, Nat.reduceLT, Nat.reduceBEq, Nat.reducePow, Int.reduceToNat, Int.reduceLE, Int.reduceLT, Int.reduceNeg, reduceCtorEq, Int.reduceEq, Int.reduceAdd, Int.reduceSub, Int.reduceMul, Nat.reduceSub]; try rfl
      · simp -dsimp -implicitDefEqProofs only [go_sem, ↓reduceIte, Nat.reduceEqDiff, Nat.reduceAdd, Nat.reduceMul, Nat.reduceLeDiff, Nat.reduceLT, Nat.reduceBEq, Nat.reducePow, Int.reduceToNat, Int.reduceLE, Int.reduceLT, Int.reduceNeg, reduceCtorEq, Int.reduceEq, Int.reduceAdd, Int.reduceSub, Int.reduceMul, Nat.reduceSub]; try rfl
      · simp -dsimp -implicitDefEqProofs only [go_sem, ↓reduceIte, Nat.reduceEqDiff, Nat.reduceAdd, Nat.reduceMul, Nat.reduceLeDiff, Nat.reduceLT, Nat.reduceBEq, Nat.reducePow, Int.reduceToNat, Int.reduceLE, Int.reduceLT, Int.reduceNeg, reduceCtorEq, Int.reduceEq, Int.reduceAdd, Int.reduceSub, Int.reduceMul, Nat.reduceSub]; try rfl
      · intro s
        simp -dsimp -implicitDefEqProofs only [go_sem, ↓reduceIte, Nat.reduceEqDiff, Nat.reduceAdd, Nat.reduceMul, Nat.reduceLeDiff, Nat.reduceLT, Nat.reduceBEq, Nat.reducePow, Int.reduceToNat, Int.reduceLE, Int.reduceLT, Int.reduceNeg, reduceCtorEq, Int.reduceEq, Int.reduceAdd, Int.reduceSub, Int.reduceMul, Nat.reduceSub]
        omega
      · rintro ⟨j, hj⟩
        have hj : j ≤ 2 := hj
        simp -dsimp -implicitDefEqProofs only [go_sem, ↓reduceIte, Nat.reduceEqDiff, Nat.reduceAdd, Nat.reduceMul, Nat.reduceLeDiff, Nat.reduceLT, Nat.reduceBEq, Nat.reducePow, Int.reduceToNat, Int.reduceLE, Int.reduceLT, Int.reduceNeg, reduceCtorEq, Int.reduceEq, Int.reduceAdd, Int.reduceSub, Int.reduceMul, Nat.reduceSub]
        refine brT (fun h => ?_) (fun h => ?_)
        · have hj2 : j < 2 := by omega
          have w2 : IntKind.i64.wrap ((j : Int) + 1) = ((j + 1 : Nat) : Int) := wrapE (by omega) (by omega)
          have e1 : pubL s (2 * i + (j + 1)) = pubL s (2 * i + j) ++ (shownS (secS s (i : Int) j)).b := by
            rw [show 2 * i + (j + 1) = (2 * i + j) + 1 by omega, pubL, show (2 * i + j) / 2 = i by omega, show (2 * i + j) % 2 = j by omega]
          have hpl := pubL_len s (2 * i + j)
          repeat' (first | omega | assumption | (show AL.ahead _ _ _ = true; rfl) | refine brF (fun _ => ?_) (fun _ => ?_) | refine brT (fun _ => ?_) (fun _ => ?_) | refine brVF (fun _ => ?_) (fun _ => ?_) | refine brVT (fun _ => ?_) (fun _ => ?_) | (with_reducible refine And.intro ?_ ?_) | (refine callK_by (secret_spec _ s i j hj2) ?_) | (refine callK_by (shown_spec _ _) ?_) | (simp -dsimp -implicitDefEqProofs only [go_sem, ↓reduceIte, Nat.reduceEqDiff, Nat.reduceAdd, Nat.reduceMul, Nat.reduceLeDiff, Nat.reduceLT, Nat.reduceBEq, Nat.reducePow, Int.reduceToNat, Int.reduceLE, Int.reduceLT, Int.reduceNeg, reduceCtorEq, Int.reduceEq, Int.reduceAdd, Int.reduceSub, Int.reduceMul, Nat.reduceSub, w2, u8s_app]))
          exact ⟨⟨j + 1, by omega⟩, by show 2 - (j + 1) < 2 - j; omega, ⟨by rw [e1], rfl⟩, by rw [e1, List.length_append, sum_h]⟩
        · have e : j = 2 := by omega
          subst e
          repeat' (first | omega | assumption | (show AL.ahead _ _ _ = true; rfl) | refine brF (fun _ => ?_) (fun _ => ?_) | refine brT (fun _ => ?_) (fun _ => ?_) | refine brVF (fun _ => ?_) (fun _ => ?_) | refine brVT (fun _ => ?_) (fun _ => ?_) | (with_reducible refine And.intro ?_ ?_) | (simp -dsimp -implicitDefEqProofs only [go_sem, ↓reduceIte, Nat.reduceEqDiff, Nat.reduceAdd, Nat.reduceMul, Nat.reduceLeDiff, Nat.reduceLT, Nat.reduceBEq, Nat.reducePow, Int.reduceToNat, Int.reduceLE, Int.reduceLT, Int.reduceNeg, reduceCtorEq, Int.reduceEq, Int.reduceAdd, Int.reduceSub, Int.reduceMul, Nat.reduceSub, w1]))
          exact ⟨⟨i + 1, by omega⟩, by show 64 - (i + 1) < 64 - i; omega, ⟨rfl, rfl⟩, rfl⟩
    · have e : i = 64 := by omega
      subst e
      have hpl := pubL_len s (2 * 64)
      have hps : pubS s = joinS 13 [pubL s (2 * 64)] := rfl
      rw [hps]
      generalize pubL s (2 * 64) = L at *
      repeat' (first | omega | assumption | (show AL.ahead _ _ _ = true; rfl) | refine brF (fun _ => ?_) (fun _ => ?_) | refine brT (fun _ => ?_) (fun _ => ?_) | refine brVF (fun _ => ?_) (fun _ => ?_) | refine brVT (fun _ => ?_) (fun _ => ?_) | (with_reducible refine And.intro ?_ ?_) | (refine callK_by (join1_spec _ 1 (nx + 18) 13 L (by omega) (by omega) (by omega)) ?_) | (simp -dsimp -implicitDefEqProofs only [go_sem, ↓reduceIte, Nat.reduceEqDiff, Nat.reduceAdd, Nat.reduceMul, Nat.reduceLeDiff, Nat.reduceLT, Nat.reduceBEq, Nat.reducePow, Int.reduceToNat, Int.reduceLE, Int.reduceLT, Int.reduceNeg, reduceCtorEq, Int.reduceEq, Int.reduceAdd, Int.reduceSub, Int.reduceMul, Nat.reduceSub]))
end Go.Proofs.YtdkcobnhcpgpaaaGreat

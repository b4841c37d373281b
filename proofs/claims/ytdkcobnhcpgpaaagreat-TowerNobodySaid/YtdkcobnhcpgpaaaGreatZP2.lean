/-
  sha: Of, for every input.
-/
import Derived.Test.YtdkcobnhcpgpaaaGreatZP1
set_option linter.unusedSimpArgs false
set_option linter.unusedVariables false
set_option maxRecDepth 100000
set_option maxHeartbeats 4000000
namespace Go.Proofs.YtdkcobnhcpgpaaaGreat
open Go Go.AL Go.Proofs.YtdkcobnhcpgpaaaGreat.T

theorem u8s_set (l : List UInt8) (i : Nat) (c : UInt8) : (u8s l).set i (u8 c) = u8s (l.set i c) := by simp [u8s, List.map_set]
theorem u8s_csize (l : List UInt8) (i : Nat) : ((u8s l).getD i .undef).csize = 1 := by
  by_cases h : i < l.length
  · rw [u8s_get h]; rfl
  · rw [List.getD_eq_getElem?_getD, List.getElem?_eq_none (by simp [u8s]; omega)]; rfl
theorem u8s_isAgg (l : List UInt8) (i : Nat) : ((u8s l).getD i .undef).isAgg = false := by
  by_cases h : i < l.length
  · rw [u8s_get h]; rfl
  · rw [List.getD_eq_getElem?_getD, List.getElem?_eq_none (by simp [u8s]; omega)]; rfl
theorem u8s_take (l : List UInt8) (n : Nat) : (u8s l).take n = u8s (l.take n) := by simp [u8s, List.map_take]
theorem u8s_drop (l : List UInt8) (n : Nat) : (u8s l).drop n = u8s (l.drop n) := by simp [u8s, List.map_drop]
theorem u8s_rep (n : Nat) : List.replicate n (.val (.int .u8 0)) = u8s (List.replicate n 0) := by simp [u8s, u8]

/-- the state behind j blocks -/
noncomputable def ofB (p : List UInt8) : Nat → List Int
  | 0 => firstL
  | j + 1 => addAll (ofB p j) (rounds (sprd ((p.drop (64 * j)).take 64)) kL 64 (ofB p j)) 8
theorem ofB_len (p : List UInt8) : ∀ j, (ofB p j).length = 8
  | 0 => rfl
  | j + 1 => by rw [ofB, addAll, runS_len]; exact ofB_len p j
def outS (h : List Int) : Nat → List UInt8
  | 0 => List.replicate 32 0
  | i + 1 => ((((outS h i).set (4 * i) (b8 ((h.getD i 0).fdiv (2 ^ 24)))).set (4 * i + 1) (b8 ((h.getD i 0).fdiv (2 ^ 16)))).set (4 * i + 2) (b8 ((h.getD i 0).fdiv (2 ^ 8)))).set (4 * i + 3) (b8 (h.getD i 0))
theorem outS_len (h : List Int) : ∀ i, (outS h i).length = 32
  | 0 => by simp [outS]
  | i + 1 => by have := outS_len h i; simp [outS, this]
/-- SHA-256, as the program reckons it. -/
noncomputable def shaOf (b : List UInt8) : List UInt8 := outS (ofB (padL b) ((padL b).length / 64)) 8
theorem shaOf_len (b : List UInt8) : (shaOf b).length = 32 := outS_len _ _

attribute [local go_sem] nb_vals nb_u8s vals_len u8s_length u8_cs u8_gd u8_ag u8_nb
theorem of_spec (nx tok : Nat) (b : List UInt8) (hb : b.length < 2 ^ 40) (ht : tok < 2 ∨ tok - 2 < nx) : FnSpec Tryz.prog 173 nx [.sl 1 (u8s b) tok] [] (.vec 1 (u8s (shaOf b))) [] 0 := by
  obtain ⟨N, hN⟩ := padL_mod b
  refine FnSpec.of_code (cx := cx) (an := {}) (rs := [.cell 2 23]) mo Tryz.func173 rfl rfl (by kernel_rfl) (by kernel_rfl) (by show 1 ≤ _; decide) (.inl rfl) (by simp [allWr, keys, Res.wr]) ?_
  simp -dsimp -implicitDefEqProofs only [go_sem, ↓reduceIte, Nat.reduceEqDiff, Nat.reduceAdd, Nat.reduceMul, Nat.reduceLeDiff, Nat.reduceLT, Nat.reduceBEq, Nat.reducePow, Int.reduceToNat, Int.reduceLE, Int.reduceLT, Int.reduceNeg, reduceCtorEq, Int.reduceEq, Int.reduceAdd, Int.reduceSub, Int.reduceMul, Nat.reduceSub]
  refine callK_by (first_spec' _) ?_
  simp -dsimp -implicitDefEqProofs only [go_sem, ↓reduceIte, Nat.reduceEqDiff, Nat.reduceAdd, Nat.reduceMul, Nat.reduceLeDiff, Nat.reduceLT, Nat.reduceBEq, Nat.reducePow, Int.reduceToNat, Int.reduceLE, Int.reduceLT, Int.reduceNeg, reduceCtorEq, Int.reduceEq, Int.reduceAdd, Int.reduceSub, Int.reduceMul, Nat.reduceSub]
  refine callK_by (rounds_spec _) ?_
  simp -dsimp -implicitDefEqProofs only [go_sem, ↓reduceIte, Nat.reduceEqDiff, Nat.reduceAdd, Nat.reduceMul, Nat.reduceLeDiff, Nat.reduceLT, Nat.reduceBEq, Nat.reducePow, Int.reduceToNat, Int.reduceLE, Int.reduceLT, Int.reduceNeg, reduceCtorEq, Int.reduceEq, Int.reduceAdd, Int.reduceSub, Int.reduceMul, Nat.reduceSub, firstL_len, kL_len, List.length_replicate]
  refine callK_by (padded_spec _ tok b hb (by omega)) ?_
  simp -dsimp -implicitDefEqProofs only [go_sem, ↓reduceIte, Nat.reduceEqDiff, Nat.reduceAdd, Nat.reduceMul, Nat.reduceLeDiff, Nat.reduceLT, Nat.reduceBEq, Nat.reducePow, Int.reduceToNat, Int.reduceLE, Int.reduceLT, Int.reduceNeg, reduceCtorEq, Int.reduceEq, Int.reduceAdd, Int.reduceSub, Int.reduceMul, Nat.reduceSub]
  apply loop_keep [2, 3, 4] (fun s : { s : Nat × Nat // s.1 ≤ N ∧ s.2 ≠ 1 ∧ (s.2 < 2 ∨ s.2 - 2 < nx + 137) } => [(5, .sl 1 (u8s ((padL b).drop (64 * s.1.1))) s.1.2)])
    (fun s => [(nx, some (.obj (.vec 1 (u8s (List.replicate 32 0))))), (nx + 24, some (.obj (.vec 1 (vals .u32 (ofB (padL b) s.1.1))))), (nx + 32, some (.obj (.vec 1 (vals .u32 kL))))]) (fun s => N - s.1.1) ⟨(0, nx + 138), by simp⟩
  · simp -dsimp -implicitDefEqProofs only [go_sem, ↓reduceIte, Nat.reduceEqDiff, Nat.reduceAdd, Nat.reduceMul, Nat.reduceLeDiff, Nat.reduceLT, Nat.reduceBEq, Nat.reducePow, Int.reduceToNat, Int.reduceLE, Int.reduceLT, Int.reduceNeg, reduceCtorEq, Int.reduceEq, Int.reduceAdd, Int.reduceSub, Int.reduceMul, Nat.reduceSub]; rfl
  · simp -dsimp -implicitDefEqProofs only [go_sem, ↓reduceIte, Nat.reduceEqDiff, Nat.reduceAdd, Nat.reduceMul, Nat.reduceLeDiff, Nat.reduceLT, Nat.reduceBEq, Nat.reducePow, Int.reduceToNat, Int.reduceLE, Int.reduceLT, Int.reduceNeg, reduceCtorEq, Int.reduceEq, Int.reduceAdd, Int.reduceSub, Int.reduceMul, Nat.reduceSub]
  · simp -dsimp -implicitDefEqProofs only [go_sem, ↓reduceIte, Nat.reduceEqDiff, Nat.reduceAdd, Nat.reduceMul, Nat.reduceLeDiff, Nat.reduceLT, Nat.reduceBEq, Nat.reducePow, Int.reduceToNat, Int.reduceLE, Int.reduceLT, Int.reduceNeg, reduceCtorEq, Int.reduceEq, Int.reduceAdd, Int.reduceSub, Int.reduceMul, Nat.reduceSub, u8s_rep]
    rfl
  · rintro ⟨⟨j, t⟩, h1, h2, h3⟩
    simp only at h1 h2 h3
    simp -dsimp -implicitDefEqProofs only [go_sem, ↓reduceIte, Nat.reduceEqDiff, Nat.reduceAdd, Nat.reduceMul, Nat.reduceLeDiff, Nat.reduceLT, Nat.reduceBEq, Nat.reducePow, Int.reduceToNat, Int.reduceLE, Int.reduceLT, Int.reduceNeg, reduceCtorEq, Int.reduceEq, Int.reduceAdd, Int.reduceSub, Int.reduceMul, Nat.reduceSub]
    omega
  · as_aux_lemma =>
    rintro ⟨⟨j, t⟩, h1, h2, h3⟩
    simp only at h1 h2 h3
    have hl : ((padL b).drop (64 * j)).length = 64 * (N - j) := by rw [List.length_drop, hN, Nat.mul_sub]
    simp -dsimp -implicitDefEqProofs only [go_sem, ↓reduceIte, Nat.reduceEqDiff, Nat.reduceAdd, Nat.reduceMul, Nat.reduceLeDiff, Nat.reduceLT, Nat.reduceBEq, Nat.reducePow, Int.reduceToNat, Int.reduceLE, Int.reduceLT, Int.reduceNeg, reduceCtorEq, Int.reduceEq, Int.reduceAdd, Int.reduceSub, Int.reduceMul, Nat.reduceSub, hl]
    refine brT (fun h => ?_) (fun h => ?_)
    · as_aux_lemma =>
      have hj : j < N := by
        by_cases hc : j < N
        · exact hc
        · exfalso
          have : N - j = 0 := by omega
          rw [this] at h
          simp at h
      have hk : ((u8s ((padL b).drop (64 * j))).take 64).length = 64 := by rw [List.length_take, u8s_length, hl]; omega
      have ht1 : (t = 1) = False := by simp [h2]
      have h64 : (64 : Int) ≤ ((64 * (N - j) : Nat) : Int) := by omega
      simp -dsimp -implicitDefEqProofs only [go_sem, ↓reduceIte, Nat.reduceEqDiff, Nat.reduceAdd, Nat.reduceMul, Nat.reduceLeDiff, Nat.reduceLT, Nat.reduceBEq, Nat.reducePow, Int.reduceToNat, Int.reduceLE, Int.reduceLT, Int.reduceNeg, reduceCtorEq, Int.reduceEq, Int.reduceAdd, Int.reduceSub, Int.reduceMul, Nat.reduceSub, hl, u8s_take, u8s_drop, ht1, h64, List.drop_drop]
      refine ⟨by omega, callK_by (block_spec _ _ _ _ _ _ _ (by rw [List.length_take, hl]; omega) (ofB_len (padL b) j) kL_len (by omega) (by omega) (by omega) (by omega)) ?_⟩
      repeat' (first | (simp -dsimp -implicitDefEqProofs only [go_sem, ↓reduceIte, Nat.reduceEqDiff, Nat.reduceAdd, Nat.reduceMul, Nat.reduceLeDiff, Nat.reduceLT, Nat.reduceBEq, Nat.reducePow, Int.reduceToNat, Int.reduceLE, Int.reduceLT, Int.reduceNeg, reduceCtorEq, Int.reduceEq, Int.reduceAdd, Int.reduceSub, Int.reduceMul, Nat.reduceSub, hl, u8s_take, u8s_drop, ht1, h64, List.drop_drop]) | omega | (with_reducible refine And.intro ?_ ?_) | rfl)
      refine ⟨⟨(j + 1, 0), hj, by omega, by omega⟩, by show N - (j + 1) < N - j; omega, ?_, rfl⟩
      show AV.sl 1 (u8s _) 0 = AV.sl 1 (u8s ((padL b).drop (64 * (j + 1)))) 0
      congr 2
      rw [List.take_of_length_le (by omega), List.drop_drop]
      congr 1
    · as_aux_lemma =>
      have hj : j = N := by
        by_cases hc : j < N
        · exfalso; apply h; omega
        · omega
      subst hj
      simp -dsimp -implicitDefEqProofs only [go_sem, ↓reduceIte, Nat.reduceEqDiff, Nat.reduceAdd, Nat.reduceMul, Nat.reduceLeDiff, Nat.reduceLT, Nat.reduceBEq, Nat.reducePow, Int.reduceToNat, Int.reduceLE, Int.reduceLT, Int.reduceNeg, reduceCtorEq, Int.reduceEq, Int.reduceAdd, Int.reduceSub, Int.reduceMul, Nat.reduceSub]
      have hlv := ofB_len (padL b) j
      have hsh : shaOf b = outS (ofB (padL b) j) 8 := by rw [shaOf, hN, Nat.mul_div_cancel_left _ (by omega : 0 < 64)]
      generalize ofB (padL b) j = v at *
      refine ⟨by rw [hlv], ?_⟩
      apply loop_keep [2, 6, 21] (fun i : { i : Nat // i ≤ 8 } => [(22, .val (.int .i64 i.1))])
        (fun i => [(nx, some (.obj (.vec 1 (u8s (List.replicate 32 0))))), (nx + 161, some (.obj (.vec 1 (u8s (outS v i.1)))))]) (fun i => 8 - i.1) ⟨0, Nat.zero_le _⟩
      · simp -dsimp -implicitDefEqProofs only [go_sem, ↓reduceIte, Nat.reduceEqDiff, Nat.reduceAdd, Nat.reduceMul, Nat.reduceLeDiff, Nat.reduceLT, Nat.reduceBEq, Nat.reducePow, Int.reduceToNat, Int.reduceLE, Int.reduceLT, Int.reduceNeg, reduceCtorEq, Int.reduceEq, Int.reduceAdd, Int.reduceSub, Int.reduceMul, Nat.reduceSub]; rfl
      · simp -dsimp -implicitDefEqProofs only [go_sem, ↓reduceIte, Nat.reduceEqDiff, Nat.reduceAdd, Nat.reduceMul, Nat.reduceLeDiff, Nat.reduceLT, Nat.reduceBEq, Nat.reducePow, Int.reduceToNat, Int.reduceLE, Int.reduceLT, Int.reduceNeg, reduceCtorEq, Int.reduceEq, Int.reduceAdd, Int.reduceSub, Int.reduceMul, Nat.reduceSub]
      · simp -dsimp -implicitDefEqProofs only [go_sem, ↓reduceIte, Nat.reduceEqDiff, Nat.reduceAdd, Nat.reduceMul, Nat.reduceLeDiff, Nat.reduceLT, Nat.reduceBEq, Nat.reducePow, Int.reduceToNat, Int.reduceLE, Int.reduceLT, Int.reduceNeg, reduceCtorEq, Int.reduceEq, Int.reduceAdd, Int.reduceSub, Int.reduceMul, Nat.reduceSub, u8s_rep]
        rfl
      · intro s
        simp -dsimp -implicitDefEqProofs only [go_sem, ↓reduceIte, Nat.reduceEqDiff, Nat.reduceAdd, Nat.reduceMul, Nat.reduceLeDiff, Nat.reduceLT, Nat.reduceBEq, Nat.reducePow, Int.reduceToNat, Int.reduceLE, Int.reduceLT, Int.reduceNeg, reduceCtorEq, Int.reduceEq, Int.reduceAdd, Int.reduceSub, Int.reduceMul, Nat.reduceSub]
        omega
      · as_aux_lemma =>
        rintro ⟨i, hi⟩
        simp -dsimp -implicitDefEqProofs only [go_sem, ↓reduceIte, Nat.reduceEqDiff, Nat.reduceAdd, Nat.reduceMul, Nat.reduceLeDiff, Nat.reduceLT, Nat.reduceBEq, Nat.reducePow, Int.reduceToNat, Int.reduceLE, Int.reduceLT, Int.reduceNeg, reduceCtorEq, Int.reduceEq, Int.reduceAdd, Int.reduceSub, Int.reduceMul, Nat.reduceSub]
        refine brT (fun h => ?_) (fun h => ?_)
        · as_aux_lemma =>
          have hi2 : i < 8 := by omega
          have hw : IntKind.i64.wrap ((i : Int) + 1) = ((i + 1 : Nat) : Int) := wrapE (by omega) (by omega)
          have g0 : IntKind.i64.wrap (4 * (i : Int)) = ((4 * i : Nat) : Int) := wrapE (by omega) (by omega)
          have e1 : IntKind.i64.wrap (((4 * i : Nat) : Int) + 1) = ((4 * i + 1 : Nat) : Int) := wrapE (by omega) (by omega)
          have e2 : IntKind.i64.wrap (((4 * i : Nat) : Int) + 2) = ((4 * i + 2 : Nat) : Int) := wrapE (by omega) (by omega)
          have e3 : IntKind.i64.wrap (((4 * i : Nat) : Int) + 3) = ((4 * i + 3 : Nat) : Int) := wrapE (by omega) (by omega)
          have q1 := vals_get (k := .u32) (show i < v.length by omega)
          have hol := outS_len v i
          repeat' (first | (simp -dsimp -implicitDefEqProofs only [go_sem, ↓reduceIte, Nat.reduceEqDiff, Nat.reduceAdd, Nat.reduceMul, Nat.reduceLeDiff, Nat.reduceLT, Nat.reduceBEq, Nat.reducePow, Int.reduceToNat, Int.reduceLE, Int.reduceLT, Int.reduceNeg, reduceCtorEq, Int.reduceEq, Int.reduceAdd, Int.reduceSub, Int.reduceMul, Nat.reduceSub, hw, g0, e1, e2, e3, q1, hol, hlv, u8s_set, u8_wrap, u8s_csize, u8s_isAgg, vals_csize, vals_isAgg, List.length_set]) | omega | (with_reducible refine And.intro ?_ ?_) | rfl)
          exact ⟨⟨i + 1, hi2⟩, by show 8 - (i + 1) < 8 - i; omega, rfl, rfl⟩
        · simp -dsimp -implicitDefEqProofs only [go_sem, ↓reduceIte, Nat.reduceEqDiff, Nat.reduceAdd, Nat.reduceMul, Nat.reduceLeDiff, Nat.reduceLT, Nat.reduceBEq, Nat.reducePow, Int.reduceToNat, Int.reduceLE, Int.reduceLT, Int.reduceNeg, reduceCtorEq, Int.reduceEq, Int.reduceAdd, Int.reduceSub, Int.reduceMul, Nat.reduceSub]
          have e : i = 8 := by omega
          subst e
          rw [hsh, outS_len]
          simp
attribute [irreducible] shaOf
end Go.Proofs.YtdkcobnhcpgpaaaGreat

/-
  sha: Of, for every input.
-/
import Derived.Test.YthfoeaokfhbdaaaGreatDP1
set_option linter.unusedSimpArgs false
set_option linter.unusedVariables false
set_option maxRecDepth 100000
set_option maxHeartbeats 4000000
namespace Go.Proofs.YthfoeaokfhbdaaaGreat
open Go Go.AL Go.Proofs.YthfoeaokfhbdaaaGreat.T

theorem u8s_set (l : List UInt8) (i : Nat) (c : UInt8) : (u8s l).set i (u8 c) = u8s (l.set i c) := by simp [u8s, List.map_set]
theorem u8s_csize (l : List UInt8) (i : Nat) : ((u8s l).getD i .undef).csize = 1 := by
  by_cases h : i < l.length
  · rw [u8s_get h]; rfl
  · rw [List.getD_eq_getElem?_getD, List.getElem?_eq_none (by simp [u8s]; omega)]; rfl
theorem u8s_isAgg (l : List UInt8) (i : Nat) : ((u8s l).getD i .undef).isAgg = false := by
  by_cases h : i < l.length
  · rw [u8s_get h]; rfl
  · rw [List.getD_eq_getElem?_getD, List.getElem?_eq_none (by simp [u8s]; omega)]; rfl
theorem u8s_take (l : List UInt8) (n : Nat) : (u8s l).take n = u8s (l.take n) := by simp [u8s, List.map_take]
theorem u8s_drop (l : List UInt8) (n : Nat) : (u8s l).drop n = u8s (l.drop n) := by simp [u8s, List.map_drop]
theorem u8s_rep (n : Nat) : List.replicate n (.val (.int .u8 0)) = u8s (List.replicate n 0) := by simp [u8s, u8]

/-- the state behind j blocks -/
noncomputable def ofB (p : List UInt8) : Nat → List Int
  | 0 => firstL
  | j + 1 => addAll (ofB p j) (rounds (sprd ((p.drop (64 * j)).take 64)) kL 64 (ofB p j)) 8
theorem ofB_len (p : List UInt8) : ∀ j, (ofB p j).length = 8
  | 0 => rfl
  | j + 1 => by rw [ofB, addAll, runS_len]; exact ofB_len p j
def outS (h : List Int) : Nat → List UInt8
  | 0 => List.replicate 32 0
  | i + 1 => ((((outS h i).set (4 * i) (b8 ((h.getD i 0).fdiv (2 ^ 24)))).set (4 * i + 1) (b8 ((h.getD i 0).fdiv (2 ^ 16)))).set (4 * i + 2) (b8 ((h.getD i 0).fdiv (2 ^ 8)))).set (4 * i + 3) (b8 (h.getD i 0))
theorem outS_len (h : List Int) : ∀ i, (outS h i).length = 32
  | 0 => by simp [outS]
  | i + 1 => by have := outS_len h i; simp [outS, this]
/-- SHA-256, as the program reckons it. -/
noncomputable def shaOf (b : List UInt8) : List UInt8 := outS (ofB (padL b) ((padL b).length / 64)) 8
theorem shaOf_len (b : List UInt8) : (shaOf b).length = 32 := outS_len _ _

attribute [local go_sem] nb_vals nb_u8s vals_len u8s_length u8_cs u8_gd u8_ag u8_nb
theorem of_spec (nx tok : Nat) (b : List UInt8) (hb : b.length < 2 ^ 40) (ht : tok < 2 ∨ tok - 2 < nx) : FnSpec Tryz.prog 153 nx [.sl 1 (u8s b) tok] [] (.vec 1 (u8s (shaOf b))) [] 0 := by
  obtain ⟨N, hN⟩ := padL_mod b
  refine FnSpec.of_code (cx := cx) (an := {}) (rs := [.cell 2 23]) mo Tryz.func153 rfl rfl (by kernel_rfl) (by kernel_rfl) (by show 1 ≤ _; decide) (.inl rfl) (by simp [allWr, keys, Res.wr]) ?_
  simp -dsimp -implicitDefEqProofs only [go_sem, ↓reduceIte, Nat.reduceEqDiff, Nat.reduceAdd, Nat.reduceMul, Nat.reduceLeDiff, Nat.reduceLT, Nat.reduceBEq, Nat.reducePow, Int.reduceToNat, Int.reduceLE, Int.reduceLT, Int.reduceNeg, reduceCtorEq, Int.reduceEq, Int.reduceAdd, Int.reduceSub, Int.reduceMul, Nat.reduceSub]
  refine callK_by (first_spec' _) ?_
  simp -dsimp -implicitDefEqProofs only [go_sem, ↓reduceIte, Nat.reduceEqDiff, Nat.reduceAdd, Nat.reduceMul, Nat.reduceLeDiff, Nat.reduceLT, Nat.reduceBEq, Nat.reducePow, Int.reduceToNat, Int.reduceLE, Int.reduceLT, Int.reduceNeg, reduceCtorEq, Int.reduceEq, Int.reduceAdd, Int.reduceSub, Int.reduceMul, Nat.reduceSub]
  refine callK_by (rounds_spec _) ?_
  simp -dsimp -implicitDefEqProofs only [go_sem, ↓reduceIte, Nat.reduceEqDiff, Nat.reduceAdd, Nat.reduceMul, Nat.reduceLeDiff, Nat.reduceLT, Nat.reduceBEq, Nat.reducePow, Int.reduceToNat, Int.reduceLE, Int.reduceLT, Int.reduceNeg, reduceCtorEq, Int.reduceEq, Int.reduceAdd, Int.reduceSub, Int.reduceMul, Nat.reduceSub, firstL_len, kL_len, List.length_replicate]
  refine callK_by (padded_spec _ tok b hb (by omega)) ?_
  simp -dsimp -implicitDefEqProofs only [go_sem, ↓reduceIte, Nat.reduceEqDiff, Nat.reduceAdd, Nat.reduceMul, Nat.reduceLeDiff, Nat.reduceLT, Nat.reduceBEq, Nat.reducePow, Int.reduceToNat, Int.reduceLE, Int.reduceLT, Int.reduceNeg, reduceCtorEq, Int.reduceEq, Int.reduceAdd, Int.reduceSub, Int.reduceMul, Nat.reduceSub]
  apply loop_keep [2, 3, 4] (fun s : { s : Nat × Nat // s.1 ≤ N ∧ s.2 ≠ 1 ∧ (s.2 < 2 ∨ s.2 - 2 < nx + 137) } => [(5, .sl 1 (u8s ((padL b).drop (64 * s.1.1))) s.1.2)])
    (fun s => [(nx, some (.obj (.vec 1 (u8s (List.replicate 32 0))))), (nx + 24, some (.obj (.vec 1 (vals .u32 (ofB (padL b) s.1.1))))), (nx + 32, some (.obj (.vec 1 (vals .u32 kL))))]) (fun s => N - s.1.1) ⟨(0, nx + 138), by simp⟩
  · simp -dsimp -implicitDefEqProofs only [go_sem, ↓reduceIte, Nat.reduceEqDiff, Nat.reduceAdd, Nat.reduceMul, Nat.reduceLeDiff, Nat.reduceLT, Nat.reduceBEq, Nat.reducePow, Int.reduceToNat, Int.reduceLE, Int.reduceLT, Int.reduceNeg, reduceCtorEq, Int.reduceEq, Int.reduceAdd, Int.reduceSub, Int.reduceMul, Nat.reduceSub]; rfl
  · simp -dsimp -implicitDefEqProofs only [go_sem, ↓reduceIte, Nat.reduceEqDiff, Nat.reduceAdd, Nat.reduceMul, Nat.reduceLeDiff, Nat.reduceLT, Nat.reduceBEq, Nat.reducePow, Int.reduceToNat, Int.reduceLE, Int.reduceLT, Int.reduceNeg, reduceCtorEq, Int.reduceEq, Int.reduceAdd, Int.reduceSub, Int.reduceMul, Nat.reduceSub]
  · simp -dsimp -implicitDefEqProofs only [go_sem, ↓reduceIte, Nat.reduceEqDiff, Nat.reduceAdd, Nat.reduceMul, Nat.reduceLeDiff, Nat.reduceLT, Nat.reduceBEq, Nat.reducePow, Int.reduceToNat, Int.reduceLE, Int.reduceLT, Int.reduceNeg, reduceCtorEq, Int.reduceEq, Int.reduceAdd, Int.reduceSub, Int.reduceMul, Nat.reduceSub, u8s_rep]
    rfl
  · rintro ⟨⟨j, t⟩, h1, h2, h3⟩
    simp only at h1 h2 h3
    simp -dsimp -implicitDefEqProofs only [go_sem, ↓reduceIte, Nat.reduceEqDiff, Nat.reduceAdd, Nat.reduceMul, Nat.reduceLeDiff, Nat.reduceLT, Nat.reduceBEq, Nat.reducePow, Int.reduceToNat, Int.reduceLE, Int.reduceLT, Int.reduceNeg, reduceCtorEq, Int.reduceEq, Int.reduceAdd, Int.reduceSub, Int.reduceMul, Nat.reduceSub]
    omega
  · as_aux_lemma =>
    rintro ⟨⟨j, t⟩, h1, h2, h3⟩
    simp only at h1 h2 h3
    have hl : ((padL b).drop (64 * j)).length = 64 * (N - j) := by rw [List.length_drop, hN, Nat.mul_sub]
    simp -dsimp -implicitDefEqProofs only [go_sem, ↓reduceIte, Nat.reduceEqDiff, Nat.reduceAdd, Nat.reduceMul, Nat.reduceLeDiff, Nat.reduceLT, Nat.reduceBEq, Nat.reducePow, Int.reduceToNat, Int.reduceLE, Int.reduceLT, Int.reduceNeg, reduceCtorEq, Int.reduceEq, Int.reduceAdd, Int.reduceSub, Int.reduceMul, Nat.reduceSub, hl]
    refine brT (fun h => ?_) (fun h => ?_)
    · as_aux_lemma =>
      have hj : j < N := by
        by_cases hc : j < N
        · exact hc
        · exfalso
          have : N - j = 0 := by omega
          rw [this] at h
          simp at h
      have hk : ((u8s ((padL b).drop (64 * j))).take 64).length = 64 := by rw [List.length_take, u8s_length, hl]; omega
      have ht1 : (t = 1) = False := by simp [h2]
      have h64 : (64 : Int) ≤ ((64 * (N - j) : Nat) : Int) := by omega
      simp -dsimp -implicitDefEqProofs only [go_sem, ↓reduceIte, Nat.reduceEqDiff, Nat.reduceAdd, Nat.reduceMul, Nat.reduceLeDiff, Nat.reduceLT, Nat.reduceBEq, Nat.reducePow, Int.reduceToNat, Int.reduceLE, Int.reduceLT, Int.reduceNeg, reduceCtorEq, Int.reduceEq, Int.reduceAdd, Int.reduceSub, Int.reduceMul, Nat.reduceSub, hl, u8s_take, u8s_drop, ht1, h64, List.drop_drop]
      refine ⟨by omega, callK_by (block_spec _ _ _ _ _ _ _ (by rw [List.length_take, hl]; omega) (ofB_len (padL b) j) kL_len (by omega) (by omega) (by omega) (by omega)) ?_⟩
      repeat' (first | (simp -dsimp -implicitDefEqProofs only [go_sem, ↓reduceIte, Nat.reduceEqDiff, Nat.reduceAdd, Nat.reduceMul, Nat.reduceLeDiff, Nat.reduceLT, Nat.reduceBEq, Nat.reducePow, Int.reduceToNat, Int.reduceLE, Int.reduceLT, Int.reduceNeg, reduceCtorEq, Int.reduceEq, Int.reduceAdd, Int.reduceSub, Int.reduceMul, Nat.reduceSub, hl, u8s_take, u8s_drop, ht1, h64, List.drop_drop]) | omega | (with_reducible refine And.intro ?_ ?_) | rfl)
      refine ⟨⟨(j + 1, 0), hj, by omega, by omega⟩, by show N - (j + 1) < N - j; omega, ?_, rfl⟩
      show AV.sl 1 (u8s _) 0 = AV.sl 1 (u8s ((padL b).drop (64 * (j + 1)))) 0
      congr 2
      rw [List.take_of_length_le (by omega), List.drop_drop]
      congr 1
    · as_aux_lemma =>
      have hj : j = N := by
        by_cases hc : j < N
        · exfalso; apply h; omega
        · omega
      subst hj
      simp -dsimp -implicitDefEqProofs only [go_sem, ↓reduceIte, Nat.reduceEqDiff, Nat.reduceAdd, Nat.reduceMul, Nat.reduceLeDiff, Nat.reduceLT, Nat.reduceBEq, Nat.reducePow, Int.reduceToNat, Int.reduceLE, Int.reduceLT, Int.reduceNeg, reduceCtorEq, Int.reduceEq, Int.reduceAdd, Int.reduceSub, Int.reduceMul, Nat.reduceSub]
      have hlv := ofB_len (padL b) j
      have hsh : shaOf b = outS (ofB (padL b) j) 8 := by rw [shaOf, hN, Nat.mul_div_cancel_left _ (by omega : 0 < 64)]
      generalize ofB (padL b) j = v at *
      refine ⟨by rw [hlv], ?_⟩
      apply loop_keep [2, 6, 21] (fun i : { i : Nat // i ≤ 8 } => [(22, .val (.int .i64 i.1))])
        (fun i => [(nx, some (.obj (.vec 1 (u8s (List.replicate 32 0))))), (nx + 161, some (.obj (.vec 1 (u8s (outS v i.1)))))]) (fun i => 8 - i.1) ⟨0, Nat.zero_le _⟩
      · simp -dsimp -implicitDefEqProofs only [go_sem, ↓reduceIte, Nat.reduceEqDiff, Nat.reduceAdd, Nat.reduceMul, Nat.reduceLeDiff, Nat.reduceLT, Nat.reduceBEq, Nat.reducePow, Int.reduceToNat, Int.reduceLE, Int.reduceLT, Int.reduceNeg, reduceCtorEq, Int.reduceEq, Int.reduceAdd, Int.reduceSub, Int.reduceMul, Nat.reduceSub]; rfl
      · simp -dsimp -implicitDefEqProofs only [go_sem, ↓reduceIte, Nat.reduceEqDiff, Nat.reduceAdd, Nat.reduceMul, Nat.reduceLeDiff, Nat.reduceLT, Nat.reduceBEq, Nat.reducePow, Int.reduceToNat, Int.reduceLE, Int.reduceLT, Int.reduceNeg, reduceCtorEq, Int.reduceEq, Int.reduceAdd, Int.reduceSub, Int.reduceMul, Nat.reduceSub]
      · simp -dsimp -implicitDefEqProofs only [go_sem, ↓reduceIte, Nat.reduceEqDiff, Nat.reduceAdd, Nat.reduceMul, Nat.reduceLeDiff, Nat.reduceLT, Nat.reduceBEq, Nat.reducePow, Int.reduceToNat, Int.reduceLE, Int.reduceLT, Int.reduceNeg, reduceCtorEq, Int.reduceEq, Int.reduceAdd, Int.reduceSub, Int.reduceMul, Nat.reduceSub, u8s_rep]
        rfl
      · intro s
        simp -dsimp -implicitDefEqProofs only [go_sem, ↓reduceIte, Nat.reduceEqDiff, Nat.reduceAdd, Nat.reduceMul, Nat.reduceLeDiff, Nat.reduceLT, Nat.reduceBEq, Nat.reducePow, Int.reduceToNat, Int.reduceLE, Int.reduceLT, Int.reduceNeg, reduceCtorEq, Int.reduceEq, Int.reduceAdd, Int.reduceSub, Int.reduceMul, Nat.reduceSub]
        omega
      · as_aux_lemma =>
        rintro ⟨i, hi⟩
        simp -dsimp -implicitDefEqProofs only [go_sem, ↓reduceIte, Nat.reduceEqDiff, Nat.reduceAdd, Nat.reduceMul, Nat.reduceLeDiff, Nat.reduceLT, Nat.reduceBEq, Nat.reducePow, Int.reduceToNat, Int.reduceLE, Int.reduceLT, Int.reduceNeg, reduceCtorEq, Int.reduceEq, Int.reduceAdd, Int.reduceSub, Int.reduceMul, Nat.reduceSub]
        refine brT (fun h => ?_) (fun h => ?_)
        · as_aux_lemma =>
          have hi2 : i < 8 := by omega
          have hw : IntKind.i64.wrap ((i : Int) + 1) = ((i + 1 : Nat) : Int) := wrapE (by omega) (by omega)
          have g0 : IntKind.i64.wrap (4 * (i : Int)) = ((4 * i : Nat) : Int) := wrapE (by omega) (by omega)
          have e1 : IntKind.i64.wrap (((4 * i : Nat) : Int) + 1) = ((4 * i + 1 : Nat) : Int) := wrapE (by omega) (by omega)
          have e2 : IntKind.i64.wrap (((4 * i : Nat) : Int) + 2) = ((4 * i + 2 : Nat) : Int) := wrapE (by omega) (by omega)
          have e3 : IntKind.i64.wrap (((4 * i : Nat) : Int) + 3) = ((4 * i + 3 : Nat) : Int) := wrapE (by omega) (by omega)
          have q1 := vals_get (k := .u32) (show i < v.length by omega)
          have hol := outS_len v i
          repeat' (first | (simp -dsimp -implicitDefEqProofs only [go_sem, ↓reduceIte, Nat.reduceEqDiff, Nat.reduceAdd, Nat.reduceMul, Nat.reduceLeDiff, Nat.reduceLT, Nat.reduceBEq, Nat.reducePow, Int.reduceToNat, Int.reduceLE, Int.reduceLT, Int.reduceNeg, reduceCtorEq, Int.reduceEq, Int.reduceAdd, Int.reduceSub, Int.reduceMul, Nat.reduceSub, hw, g0, e1, e2, e3, q1, hol, hlv, u8s_set, u8_wrap, u8s_csize, u8s_isAgg, vals_csize, vals_isAgg, List.length_set]) | omega | (with_reducible refine And.intro ?_ ?_) | rfl)
          exact ⟨⟨i + 1, hi2⟩, by show 8 - (i + 1) < 8 - i; omega, rfl, rfl⟩
        · simp -dsimp -implicitDefEqProofs only [go_sem, ↓reduceIte, Nat.reduceEqDiff, Nat.reduceAdd, Nat.reduceMul, Nat.reduceLeDiff, Nat.reduceLT, Nat.reduceBEq, Nat.reducePow, Int.reduceToNat, Int.reduceLE, Int.reduceLT, Int.reduceNeg, reduceCtorEq, Int.reduceEq, Int.reduceAdd, Int.reduceSub, Int.reduceMul, Nat.reduceSub]
          have e : i = 8 := by omega
          subst e
          rw [hsh, outS_len]
          simp
attribute [irreducible] shaOf
end Go.Proofs.YthfoeaokfhbdaaaGreat

/-
  wire.Pen: what its methods write; sha.Join.
-/
set_option linter.unusedSimpArgs false
set_option linter.unusedVariables false
set_option maxRecDepth 100000
set_option maxHeartbeats 4000000
namespace Go.Proofs.YthfoeaokfhbdaaaGreat
open Go Go.AL Go.Proofs.YthfoeaokfhbdaaaGreat.T

/-- a number's bytes -/
def numN (v : Nat) : List UInt8 := if v < 128 then [UInt8.ofNat v] else UInt8.ofNat (v % 128 + 128) :: numN (v / 128)
termination_by v
decreasing_by omega
theorem numN_small {v : Nat} (h : v < 128) : numN v = [UInt8.ofNat v] := by rw [numN, if_pos h]
theorem numN_big {v : Nat} (h : ¬ v < 128) : numN v = UInt8.ofNat (v % 128 + 128) :: numN (v / 128) := by rw [numN, if_neg h]
theorem numN_len : ∀ (k v : Nat), v < 128 ^ (k + 1) → (numN v).length ≤ k + 1
  | 0, v, h => by rw [numN_small (by simpa using h)]; simp
  | k + 1, v, h => by
    by_cases hv : v < 128
    · rw [numN_small hv]; simp
    · rw [numN_big hv, List.length_cons]
      have := numN_len k (v / 128) (by rw [Nat.pow_succ] at h; exact Nat.div_lt_of_lt_mul (by rw [Nat.mul_comm]; exact h))
      omega
def numV (n : Int) : Nat := (IntKind.u64.wrap (max n 0)).toNat
theorem numV_lt (n : Int) : numV n < 2 ^ 64 := by simp only [numV, IntKind.wrap_u64]; omega
def numI (n : Int) : List UInt8 := numN (numV n)
theorem numI_len (n : Int) : (numI n).length ≤ 10 := numN_len 9 _ (Nat.lt_of_lt_of_le (numV_lt n) (by decide))
theorem numN_len10 {v : Nat} (h : v < 2 ^ 64) : (numN v).length ≤ 10 := numN_len 9 _ (Nat.lt_of_lt_of_le h (by decide))

theorem lor128 : ∀ x : Fin 256, (x.val ||| 128) = x.val % 128 + 128 := by decide
theorem or_byte (v : Nat) : AV.val (.int .u8 (IntKind.u8.wrap ((BitVec.ofInt IntKind.u8.bits (IntKind.u8.wrap (v : Int)) ||| BitVec.ofInt IntKind.u8.bits 128).toNat : Int))) = u8 (UInt8.ofNat (v % 128 + 128)) := by
  have h1 : (BitVec.ofInt IntKind.u8.bits (IntKind.u8.wrap (v : Int))).toNat = v % 256 := by
    show (BitVec.ofInt 8 _).toNat = _
    rw [BitVec.toNat_ofInt, IntKind.wrap_u8]
    omega
  have h2 : (BitVec.ofInt IntKind.u8.bits 128).toNat = 128 := rfl
  have h3 : ((BitVec.ofInt IntKind.u8.bits (IntKind.u8.wrap (v : Int)) ||| BitVec.ofInt IntKind.u8.bits 128)).toNat = v % 128 + 128 := by
    rw [BitVec.toNat_or, h1, h2]
    have := lor128 ⟨v % 256, by omega⟩
    simp only at this
    rw [this]
    omega
  rw [h3, u8_wrap]
  congr 1
  simp only [b8]
  congr 1
  omega
theorem small_byte {v : Nat} (h : v < 128) : AV.val (.int .u8 (IntKind.u8.wrap (v : Int))) = u8 (UInt8.ofNat v) := by
  rw [u8_wrap]
  congr 1
  simp only [b8]
  congr 1
  omega
theorem fdivN (v k : Nat) : ((v : Nat) : Int).fdiv (k : Int) = ((v / k : Nat) : Int) := by
  rw [Int.fdiv_eq_ediv_of_nonneg _ (by omega)]; rfl

/-- a pen: what was written -/
def penA (bs : List UInt8) (t : Nat) : AV := .agg 1 [.sl 1 (u8s bs) t]
abbrev penH (m q : Nat) (bs : List UInt8) : Heap := [(m, some (.obj (penA bs (q + 2)))), (q, some (.tail bs.length))]
theorem nb_pen {n : Nat} (bs : List UInt8) (t : Nat) : (penA bs t).nb n = (t < 2 ∨ t - 2 < n) := by simp [penA, AV.nb, AV.nbs, nb_u8s]

attribute [local go_sem] nb_vals nb_u8s vals_len u8s_length u8_cs u8_gd u8_ag u8_nb penA
theorem num_spec (nx m q : Nat) (bs : List UInt8) (n : Int) (hb : bs.length < 2 ^ 40) (hm : m < nx) (hq : q < nx) (hne : m ≠ q) :
    FnSpec Tryz.prog 19 nx [.ref m 0 [], .val (.int .i64 n)] (penH m q bs) (.ref m 0 []) (penH m q (bs ++ numI n)) 0 := by
  have z1 : (m = q) = False := by simp [hne]
  have z2 : (q = m) = False := by simp [Ne.symm hne]
  have hv : IntKind.u64.wrap (max n 0) = (numV n : Int) := by simp only [numV, IntKind.wrap_u64]; omega
  have hlt := numV_lt n
  have hlen := numI_len n
  refine FnSpec.of_code (cx := cx) (an := {}) (rs := [.tmp 4]) mo Tryz.func19 rfl rfl (by kernel_rfl) (by kernel_rfl) (by show 2 ≤ _; decide) (.inl rfl) (by simp [allWr, keys, Res.wr]) ?_
  simp -dsimp -implicitDefEqProofs only [go_sem, ↓reduceIte, Nat.reduceEqDiff, Nat.reduceAdd, Nat.reduceMul, Nat.reduceLeDiff, Nat.reduceLT, Nat.reduceBEq, Nat.reducePow, Int.reduceToNat, Int.reduceLE, Int.reduceLT, Int.reduceNeg, reduceCtorEq, Int.reduceEq, Int.reduceAdd, Int.reduceSub, Int.reduceMul, Nat.reduceSub, z1, z2, hv]
  apply loop_keep [0] (fun s : { s : List UInt8 × Nat // s.1 ++ numN s.2 = numI n ∧ s.2 < 2 ^ 64 } => [(5, .val (.int .u64 s.1.2))])
    (fun s => penH m q (bs ++ s.1.1)) (fun s => s.1.2) ⟨([], numV n), by simp [numI, hlt]⟩
  · simp -dsimp -implicitDefEqProofs only [go_sem, ↓reduceIte, Nat.reduceEqDiff, Nat.reduceAdd, Nat.reduceMul, Nat.reduceLeDiff, Nat.reduceLT, Nat.reduceBEq, Nat.reducePow, Int.reduceToNat, Int.reduceLE, Int.reduceLT, Int.reduceNeg, reduceCtorEq, Int.reduceEq, Int.reduceAdd, Int.reduceSub, Int.reduceMul, Nat.reduceSub]; rfl
  · simp -dsimp -implicitDefEqProofs only [go_sem, ↓reduceIte, Nat.reduceEqDiff, Nat.reduceAdd, Nat.reduceMul, Nat.reduceLeDiff, Nat.reduceLT, Nat.reduceBEq, Nat.reducePow, Int.reduceToNat, Int.reduceLE, Int.reduceLT, Int.reduceNeg, reduceCtorEq, Int.reduceEq, Int.reduceAdd, Int.reduceSub, Int.reduceMul, Nat.reduceSub]
  · simp -dsimp -implicitDefEqProofs only [go_sem, ↓reduceIte, Nat.reduceEqDiff, Nat.reduceAdd, Nat.reduceMul, Nat.reduceLeDiff, Nat.reduceLT, Nat.reduceBEq, Nat.reducePow, Int.reduceToNat, Int.reduceLE, Int.reduceLT, Int.reduceNeg, reduceCtorEq, Int.reduceEq, Int.reduceAdd, Int.reduceSub, Int.reduceMul, Nat.reduceSub, z1, z2]
    simp [penA]
  · intro s
    simp -dsimp -implicitDefEqProofs only [go_sem, ↓reduceIte, Nat.reduceEqDiff, Nat.reduceAdd, Nat.reduceMul, Nat.reduceLeDiff, Nat.reduceLT, Nat.reduceBEq, Nat.reducePow, Int.reduceToNat, Int.reduceLE, Int.reduceLT, Int.reduceNeg, reduceCtorEq, Int.reduceEq, Int.reduceAdd, Int.reduceSub, Int.reduceMul, Nat.reduceSub]
    omega
  · as_aux_lemma =>
    rintro ⟨⟨pre, v⟩, h1, h2⟩
    simp only at h1 h2
    have hp : pre.length + (numN v).length ≤ 10 := by rw [← List.length_append, h1]; exact hlen
    simp -dsimp -implicitDefEqProofs only [go_sem, ↓reduceIte, Nat.reduceEqDiff, Nat.reduceAdd, Nat.reduceMul, Nat.reduceLeDiff, Nat.reduceLT, Nat.reduceBEq, Nat.reducePow, Int.reduceToNat, Int.reduceLE, Int.reduceLT, Int.reduceNeg, reduceCtorEq, Int.reduceEq, Int.reduceAdd, Int.reduceSub, Int.reduceMul, Nat.reduceSub, z1, z2]
    refine brT (fun h => ?_) (fun h => ?_)
    · as_aux_lemma =>
      have hv128 : ¬ v < 128 := by omega
      have hf : (v : Int).fdiv (2 ^ min 7 64) = ((v / 128 : Nat) : Int) := fdivN v 128
      rw [numN_big hv128] at h1
      repeat' (first | (simp -dsimp -implicitDefEqProofs only [go_sem, ↓reduceIte, Nat.reduceEqDiff, Nat.reduceAdd, Nat.reduceMul, Nat.reduceLeDiff, Nat.reduceLT, Nat.reduceBEq, Nat.reducePow, Int.reduceToNat, Int.reduceLE, Int.reduceLT, Int.reduceNeg, reduceCtorEq, Int.reduceEq, Int.reduceAdd, Int.reduceSub, Int.reduceMul, Nat.reduceSub, z1, z2, or_byte, u8s_snoc, hf, List.append_assoc]) | omega | (with_reducible refine And.intro ?_ ?_) | rfl)
      refine ⟨⟨(pre ++ [UInt8.ofNat (v % 128 + 128)], v / 128), by rw [← h1]; simp, by omega⟩, by show v / 128 < v; omega, rfl, rfl, ?_⟩
      simp
    · as_aux_lemma =>
      have hv128 : v < 128 := by omega
      rw [numN_small hv128] at h1 hp
      repeat' (first | (simp -dsimp -implicitDefEqProofs only [go_sem, ↓reduceIte, Nat.reduceEqDiff, Nat.reduceAdd, Nat.reduceMul, Nat.reduceLeDiff, Nat.reduceLT, Nat.reduceBEq, Nat.reducePow, Int.reduceToNat, Int.reduceLE, Int.reduceLT, Int.reduceNeg, reduceCtorEq, Int.reduceEq, Int.reduceAdd, Int.reduceSub, Int.reduceMul, Nat.reduceSub, z1, z2, small_byte hv128, u8s_snoc, List.append_assoc, h1]) | omega | (with_reducible refine And.intro ?_ ?_) | rfl)
      rw [← h1]; simp

theorem bytes_spec (nx m t : Nat) (bs : List UInt8) (hb : bs.length < 2 ^ 40) (hm : m < nx) (ht : t < 2 ∨ t - 2 < nx) :
    FnSpec Tryz.prog 21 nx [.ref m 0 []] [(m, some (.robj (penA bs t)))] (.sl 1 (u8s bs) (nx + 58)) [(nx + 56, some (.tail bs.length))] 57 := by
  have x1 := fun k => lt_nx hm k
  have x2 := fun k => nx_gt hm k
  refine FnSpec.of_code (cx := cx) (an := {}) (rs := [.tmp 2]) mo Tryz.func21 rfl rfl (by kernel_rfl) (by kernel_rfl) (by show 1 ≤ _; decide) (.inl rfl) (by simp [allWr, keys, Res.wr]) ?_
  simp -dsimp -implicitDefEqProofs only [go_sem, ↓reduceIte, Nat.reduceEqDiff, Nat.reduceAdd, Nat.reduceMul, Nat.reduceLeDiff, Nat.reduceLT, Nat.reduceBEq, Nat.reducePow, Int.reduceToNat, Int.reduceLE, Int.reduceLT, Int.reduceNeg, reduceCtorEq, Int.reduceEq, Int.reduceAdd, Int.reduceSub, Int.reduceMul, Nat.reduceSub, x1, x2]
  omega

theorem nums_spec (nx m q tok : Nat) (bs : List UInt8) (ns : List Int) (hb : bs.length + 10 * ns.length < 2 ^ 40) (hm : m < nx) (hq : q < nx) (hne : m ≠ q) (ht : tok < 2 ∨ tok - 2 < nx) :
    FnSpec Tryz.prog 74 nx [.ref m 0 [], .sl 1 (vals .i64 ns) tok] (penH m q bs) (.ref m 0 []) (penH m q (bs ++ ns.flatMap numI)) 0 := by
  have z1 : (m = q) = False := by simp [hne]
  have z2 : (q = m) = False := by simp [Ne.symm hne]
  have hlen : ∀ l : List Int, (l.flatMap numI).length ≤ 10 * l.length := by
    intro l
    induction l with
    | nil => simp
    | cons a l ih => simp only [List.flatMap_cons, List.length_append, List.length_cons]; have := numI_len a; omega
  refine FnSpec.of_code (cx := cx) (an := {}) (rs := [.tmp 4]) mo Tryz.func74 rfl rfl (by kernel_rfl) (by kernel_rfl) (by show 2 ≤ _; decide) (.inl rfl) (by simp [allWr, keys, Res.wr]) ?_
  simp -dsimp -implicitDefEqProofs only [go_sem, ↓reduceIte, Nat.reduceEqDiff, Nat.reduceAdd, Nat.reduceMul, Nat.reduceLeDiff, Nat.reduceLT, Nat.reduceBEq, Nat.reducePow, Int.reduceToNat, Int.reduceLE, Int.reduceLT, Int.reduceNeg, reduceCtorEq, Int.reduceEq, Int.reduceAdd, Int.reduceSub, Int.reduceMul, Nat.reduceSub, z1, z2]
  apply loop_keep [0, 7, 8] (fun i : { i : Nat // i ≤ ns.length } => [(9, .val (.int .i64 i.1))])
    (fun i => penH m q (bs ++ (ns.take i.1).flatMap numI)) (fun i => ns.length - i.1) ⟨0, Nat.zero_le _⟩
  · simp -dsimp -implicitDefEqProofs only [go_sem, ↓reduceIte, Nat.reduceEqDiff, Nat.reduceAdd, Nat.reduceMul, Nat.reduceLeDiff, Nat.reduceLT, Nat.reduceBEq, Nat.reducePow, Int.reduceToNat, Int.reduceLE, Int.reduceLT, Int.reduceNeg, reduceCtorEq, Int.reduceEq, Int.reduceAdd, Int.reduceSub, Int.reduceMul, Nat.reduceSub]; rfl
  · simp -dsimp -implicitDefEqProofs only [go_sem, ↓reduceIte, Nat.reduceEqDiff, Nat.reduceAdd, Nat.reduceMul, Nat.reduceLeDiff, Nat.reduceLT, Nat.reduceBEq, Nat.reducePow, Int.reduceToNat, Int.reduceLE, Int.reduceLT, Int.reduceNeg, reduceCtorEq, Int.reduceEq, Int.reduceAdd, Int.reduceSub, Int.reduceMul, Nat.reduceSub]
  · simp -dsimp -implicitDefEqProofs only [go_sem, ↓reduceIte, Nat.reduceEqDiff, Nat.reduceAdd, Nat.reduceMul, Nat.reduceLeDiff, Nat.reduceLT, Nat.reduceBEq, Nat.reducePow, Int.reduceToNat, Int.reduceLE, Int.reduceLT, Int.reduceNeg, reduceCtorEq, Int.reduceEq, Int.reduceAdd, Int.reduceSub, Int.reduceMul, Nat.reduceSub, z1, z2]
    simp [penA]
  · intro s
    simp -dsimp -implicitDefEqProofs only [go_sem, ↓reduceIte, Nat.reduceEqDiff, Nat.reduceAdd, Nat.reduceMul, Nat.reduceLeDiff, Nat.reduceLT, Nat.reduceBEq, Nat.reducePow, Int.reduceToNat, Int.reduceLE, Int.reduceLT, Int.reduceNeg, reduceCtorEq, Int.reduceEq, Int.reduceAdd, Int.reduceSub, Int.reduceMul, Nat.reduceSub]
    omega
  · as_aux_lemma =>
    rintro ⟨i, hi⟩
    simp -dsimp -implicitDefEqProofs only [go_sem, ↓reduceIte, Nat.reduceEqDiff, Nat.reduceAdd, Nat.reduceMul, Nat.reduceLeDiff, Nat.reduceLT, Nat.reduceBEq, Nat.reducePow, Int.reduceToNat, Int.reduceLE, Int.reduceLT, Int.reduceNeg, reduceCtorEq, Int.reduceEq, Int.reduceAdd, Int.reduceSub, Int.reduceMul, Nat.reduceSub, z1, z2]
    refine brT (fun h => ?_) (fun h => ?_)
    · as_aux_lemma =>
      have hi2 : i < ns.length := by omega
      have hw : IntKind.i64.wrap ((i : Int) + 1) = ((i + 1 : Nat) : Int) := wrapE (by omega) (by omega)
      have q1 := vals_get (k := .i64) hi2
      have hg : ns.getD i 0 = ns[i] := by rw [List.getD_eq_getElem?_getD, List.getElem?_eq_getElem hi2]; rfl
      have h1 := hlen (ns.take i)
      rw [List.length_take, Nat.min_eq_left hi] at h1
      have hcat : (ns.take (i + 1)).flatMap numI = (ns.take i).flatMap numI ++ numI ns[i] := by rw [← List.take_append_getElem hi2, List.flatMap_append]; simp
      simp -dsimp -implicitDefEqProofs only [go_sem, ↓reduceIte, Nat.reduceEqDiff, Nat.reduceAdd, Nat.reduceMul, Nat.reduceLeDiff, Nat.reduceLT, Nat.reduceBEq, Nat.reducePow, Int.reduceToNat, Int.reduceLE, Int.reduceLT, Int.reduceNeg, reduceCtorEq, Int.reduceEq, Int.reduceAdd, Int.reduceSub, Int.reduceMul, Nat.reduceSub, z1, z2, q1, hw]
      refine ⟨hi2, callK_by (num_spec _ m q (bs ++ (ns.take i).flatMap numI) _ (by rw [List.length_append]; omega) (by omega) (by omega) hne) ?_⟩
      simp -dsimp -implicitDefEqProofs only [go_sem, ↓reduceIte, Nat.reduceEqDiff, Nat.reduceAdd, Nat.reduceMul, Nat.reduceLeDiff, Nat.reduceLT, Nat.reduceBEq, Nat.reducePow, Int.reduceToNat, Int.reduceLE, Int.reduceLT, Int.reduceNeg, reduceCtorEq, Int.reduceEq, Int.reduceAdd, Int.reduceSub, Int.reduceMul, Nat.reduceSub, z1, z2, q1, hw]
      refine ⟨⟨i + 1, hi2⟩, by show ns.length - (i + 1) < ns.length - i; omega, rfl, ?_⟩
      simp only [hcat, hg]
      simp
    · as_aux_lemma =>
      have e : i = ns.length := by omega
      subst e
      simp -dsimp -implicitDefEqProofs only [go_sem, ↓reduceIte, Nat.reduceEqDiff, Nat.reduceAdd, Nat.reduceMul, Nat.reduceLeDiff, Nat.reduceLT, Nat.reduceBEq, Nat.reducePow, Int.reduceToNat, Int.reduceLE, Int.reduceLT, Int.reduceNeg, reduceCtorEq, Int.reduceEq, Int.reduceAdd, Int.reduceSub, Int.reduceMul, Nat.reduceSub, z1, z2, List.take_length]
      omega
/-! ### sha.Join -/
def partA (p : List UInt8 × Nat) : AV := .sl 1 (u8s p.1) p.2
def len4 (n : Nat) : List UInt8 := [b8 ((n : Int).fdiv (2 ^ 24)), b8 ((n : Int).fdiv (2 ^ 16)), b8 ((n : Int).fdiv (2 ^ 8)), b8 (n : Int)]
def joinPart (p : List UInt8) : List UInt8 := len4 p.length ++ p
def joinL (tag : UInt8) (ps : List (List UInt8)) : List UInt8 := tag :: ps.flatMap joinPart
def partsOK (nx : Nat) (ps : List (List UInt8 × Nat)) : Prop := ∀ p ∈ ps, p.2 < 2 ∨ p.2 - 2 < nx
theorem nb_parts {nx m : Nat} {ps : List (List UInt8 × Nat)} (h : partsOK nx ps) (hm : nx ≤ m) : AV.nbs m (ps.map partA) = True := by
  simp only [eq_iff_iff, iff_true]
  refine AV.nbs_of fun a ha => ?_
  obtain ⟨p, hp, rfl⟩ := List.mem_map.1 ha
  have := h p hp
  simp only [partA, AV.nb, nb_u8s, true_and]
  omega
theorem parts_get {ps : List (List UInt8 × Nat)} {i : Nat} (h : i < ps.length) : (ps.map partA).getD i .undef = .sl 1 (u8s ps[i].1) ps[i].2 := by
  rw [List.getD_eq_getElem?_getD, List.getElem?_map, List.getElem?_eq_getElem h]; rfl
theorem u8s_app4 (l : List UInt8) (a b c d : UInt8) : u8s l ++ [u8 a, u8 b, u8 c, u8 d] = u8s (l ++ [a, b, c, d]) := by simp [u8s]
theorem u8s_one (a : UInt8) : [u8 a] = u8s [a] := rfl

theorem joinL_len (tag : UInt8) (ps : List (List UInt8)) : (joinL tag ps).length = 1 + (ps.flatMap joinPart).length := by simp [joinL]; omega
theorem joinL_snoc (tag : UInt8) (ps : List (List UInt8)) (p : List UInt8) : joinL tag ps ++ len4 p.length ++ p = joinL tag (ps ++ [p]) := by simp [joinL, joinPart]
theorem flat_take_le {α β : Type} (f : α → List β) (l : List α) (i : Nat) : ((l.take i).flatMap f).length ≤ (l.flatMap f).length := by
  conv => rhs; rw [← List.take_append_drop i l]
  rw [List.flatMap_append, List.length_append]; omega

theorem join_spec (nx tok : Nat) (tag : UInt8) (ps : List (List UInt8 × Nat)) (hps : partsOK nx ps) (hlen : (joinL tag (ps.map (·.1))).length < 2 ^ 40) (ht : tok < 2 ∨ tok - 2 < nx) :
    FnSpec Tryz.prog 98 nx [u8 tag, .sl 1 (ps.map partA) tok] [] (.vec 1 (u8s (shaOf (joinL tag (ps.map (·.1)))))) [] 0 := by
  refine FnSpec.of_code (cx := cx) (an := {tk := [(10, [([], 1)])]}) (rs := [.cell 4 23]) mo Tryz.func98 rfl rfl (by kernel_rfl) (by kernel_rfl) (by show 2 ≤ _; decide) (.inl rfl) (by simp [allWr, keys, Res.wr]) ?_
  simp -dsimp -implicitDefEqProofs only [go_sem, ↓reduceIte, Nat.reduceEqDiff, Nat.reduceAdd, Nat.reduceMul, Nat.reduceLeDiff, Nat.reduceLT, Nat.reduceBEq, Nat.reducePow, Int.reduceToNat, Int.reduceLE, Int.reduceLT, Int.reduceNeg, reduceCtorEq, Int.reduceEq, Int.reduceAdd, Int.reduceSub, Int.reduceMul, Nat.reduceSub, u8s_rep, List.length_map]
  apply loop_keep [4, 11, 12] (fun i : { i : Nat // i ≤ ps.length } => [(5, .sl 1 (u8s (joinL tag ((ps.take i.1).map (·.1)))) (nx + 19)), (13, .val (.int .i64 i.1))])
    (fun i => [(nx, some (.obj (.vec 1 (u8s (List.replicate 32 0))))), (nx + 17, some (.tail (joinL tag ((ps.take i.1).map (·.1))).length))]) (fun i => ps.length - i.1) ⟨0, Nat.zero_le _⟩
  · simp -dsimp -implicitDefEqProofs only [go_sem, ↓reduceIte, Nat.reduceEqDiff, Nat.reduceAdd, Nat.reduceMul, Nat.reduceLeDiff, Nat.reduceLT, Nat.reduceBEq, Nat.reducePow, Int.reduceToNat, Int.reduceLE, Int.reduceLT, Int.reduceNeg, reduceCtorEq, Int.reduceEq, Int.reduceAdd, Int.reduceSub, Int.reduceMul, Nat.reduceSub]; rfl
  · simp -dsimp -implicitDefEqProofs only [go_sem, ↓reduceIte, Nat.reduceEqDiff, Nat.reduceAdd, Nat.reduceMul, Nat.reduceLeDiff, Nat.reduceLT, Nat.reduceBEq, Nat.reducePow, Int.reduceToNat, Int.reduceLE, Int.reduceLT, Int.reduceNeg, reduceCtorEq, Int.reduceEq, Int.reduceAdd, Int.reduceSub, Int.reduceMul, Nat.reduceSub]
    rfl
  · simp -dsimp -implicitDefEqProofs only [go_sem, ↓reduceIte, Nat.reduceEqDiff, Nat.reduceAdd, Nat.reduceMul, Nat.reduceLeDiff, Nat.reduceLT, Nat.reduceBEq, Nat.reducePow, Int.reduceToNat, Int.reduceLE, Int.reduceLT, Int.reduceNeg, reduceCtorEq, Int.reduceEq, Int.reduceAdd, Int.reduceSub, Int.reduceMul, Nat.reduceSub]
    rfl
  · intro s
    simp -dsimp -implicitDefEqProofs only [go_sem, ↓reduceIte, Nat.reduceEqDiff, Nat.reduceAdd, Nat.reduceMul, Nat.reduceLeDiff, Nat.reduceLT, Nat.reduceBEq, Nat.reducePow, Int.reduceToNat, Int.reduceLE, Int.reduceLT, Int.reduceNeg, reduceCtorEq, Int.reduceEq, Int.reduceAdd, Int.reduceSub, Int.reduceMul, Nat.reduceSub, nb_parts hps (show nx ≤ nx + 56 by omega)]
    omega
  · as_aux_lemma =>
    rintro ⟨i, hi⟩
    have hpl : ps.length < 2 ^ 40 := by
      have h1 : ∀ l : List (List UInt8), l.length ≤ (l.flatMap joinPart).length := by
        intro l
        induction l with
        | nil => simp
        | cons a l ih => simp only [List.flatMap_cons, List.length_append, List.length_cons, joinPart, len4]; omega
      have := h1 (ps.map (·.1))
      rw [List.length_map] at this
      rw [joinL_len] at hlen
      omega
    simp -dsimp -implicitDefEqProofs only [go_sem, ↓reduceIte, Nat.reduceEqDiff, Nat.reduceAdd, Nat.reduceMul, Nat.reduceLeDiff, Nat.reduceLT, Nat.reduceBEq, Nat.reducePow, Int.reduceToNat, Int.reduceLE, Int.reduceLT, Int.reduceNeg, reduceCtorEq, Int.reduceEq, Int.reduceAdd, Int.reduceSub, Int.reduceMul, Nat.reduceSub, List.length_map]
    refine brT (fun h => ?_) (fun h => ?_)
    · as_aux_lemma =>
      have hi2 : i < ps.length := by omega
      have hw : IntKind.i64.wrap ((i : Int) + 1) = ((i + 1 : Nat) : Int) := wrapE (by omega) (by omega)
      have q1 := parts_get hi2
      have hcat : joinL tag ((ps.take (i + 1)).map (·.1)) = joinL tag ((ps.take i).map (·.1)) ++ len4 ps[i].1.length ++ ps[i].1 := by
        rw [← List.take_append_getElem hi2, List.map_append, List.map_cons, List.map_nil, joinL_snoc]
      have hle : (joinL tag ((ps.take (i + 1)).map (·.1))).length < 2 ^ 40 := by
        have := flat_take_le joinPart (ps.map (·.1)) (i + 1)
        rw [joinL_len, ← List.map_take] at *
        omega
      have hle2 := hle
      rw [hcat, List.length_append, List.length_append] at hle2
      have h4 : (len4 ps[i].1.length).length = 4 := rfl
      repeat' (first | (simp -dsimp -implicitDefEqProofs only [go_sem, ↓reduceIte, Nat.reduceEqDiff, Nat.reduceAdd, Nat.reduceMul, Nat.reduceLeDiff, Nat.reduceLT, Nat.reduceBEq, Nat.reducePow, Int.reduceToNat, Int.reduceLE, Int.reduceLT, Int.reduceNeg, reduceCtorEq, Int.reduceEq, Int.reduceAdd, Int.reduceSub, Int.reduceMul, Nat.reduceSub, q1, hw, List.length_map, u8_wrap, u8s_app4, u8s_append]) | omega | (with_reducible refine And.intro ?_ ?_) | rfl)
      refine ⟨⟨i + 1, hi2⟩, by show ps.length - (i + 1) < ps.length - i; omega, ⟨?_, rfl⟩, ?_⟩
      · simp only [hcat]
        rfl
      · simp only [hcat, List.length_append]
        congr 2
        simp only [h4]
        omega
    · as_aux_lemma =>
      have e : i = ps.length := by omega
      subst e
      simp -dsimp -implicitDefEqProofs only [go_sem, ↓reduceIte, Nat.reduceEqDiff, Nat.reduceAdd, Nat.reduceMul, Nat.reduceLeDiff, Nat.reduceLT, Nat.reduceBEq, Nat.reducePow, Int.reduceToNat, Int.reduceLE, Int.reduceLT, Int.reduceNeg, reduceCtorEq, Int.reduceEq, Int.reduceAdd, Int.reduceSub, Int.reduceMul, Nat.reduceSub, List.take_length]
      refine callK_by (of_spec _ _ _ hlen (by omega)) ?_
      simp -dsimp -implicitDefEqProofs only [go_sem, ↓reduceIte, Nat.reduceEqDiff, Nat.reduceAdd, Nat.reduceMul, Nat.reduceLeDiff, Nat.reduceLT, Nat.reduceBEq, Nat.reducePow, Int.reduceToNat, Int.reduceLE, Int.reduceLT, Int.reduceNeg, reduceCtorEq, Int.reduceEq, Int.reduceAdd, Int.reduceSub, Int.reduceMul, Nat.reduceSub, shaOf_len, List.length_replicate]

theorem text_spec (nx m q tok : Nat) (bs d : List UInt8) (hb : bs.length + 10 + d.length < 2 ^ 40) (hm : m < nx) (hq : q < nx) (hne : m ≠ q) (ht : tok < 2 ∨ tok - 2 < nx) :
    FnSpec Tryz.prog 151 nx [.ref m 0 [], .sl 1 (u8s d) tok] (penH m q bs) (.ref m 0 []) (penH m q (bs ++ numI d.length ++ d)) 0 := by
  have z1 : (m = q) = False := by simp [hne]
  have z2 : (q = m) = False := by simp [Ne.symm hne]
  have hn := numI_len d.length
  refine FnSpec.of_code (cx := cx) (an := {}) (rs := [.tmp 4]) mo Tryz.func151 rfl rfl (by kernel_rfl) (by kernel_rfl) (by show 2 ≤ _; decide) (.inl rfl) (by simp [allWr, keys, Res.wr]) ?_
  simp -dsimp -implicitDefEqProofs only [go_sem, ↓reduceIte, Nat.reduceEqDiff, Nat.reduceAdd, Nat.reduceMul, Nat.reduceLeDiff, Nat.reduceLT, Nat.reduceBEq, Nat.reducePow, Int.reduceToNat, Int.reduceLE, Int.reduceLT, Int.reduceNeg, reduceCtorEq, Int.reduceEq, Int.reduceAdd, Int.reduceSub, Int.reduceMul, Nat.reduceSub, z1, z2]
  refine callK_by (num_spec _ m q bs d.length (by omega) (by omega) (by omega) hne) ?_
  repeat' (first | (simp -dsimp -implicitDefEqProofs only [go_sem, ↓reduceIte, Nat.reduceEqDiff, Nat.reduceAdd, Nat.reduceMul, Nat.reduceLeDiff, Nat.reduceLT, Nat.reduceBEq, Nat.reducePow, Int.reduceToNat, Int.reduceLE, Int.reduceLT, Int.reduceNeg, reduceCtorEq, Int.reduceEq, Int.reduceAdd, Int.reduceSub, Int.reduceMul, Nat.reduceSub, z1, z2, penA, u8s_append, List.append_assoc]) | omega | (with_reducible refine And.intro ?_ ?_) | rfl)

end Go.Proofs.YthfoeaokfhbdaaaGreat

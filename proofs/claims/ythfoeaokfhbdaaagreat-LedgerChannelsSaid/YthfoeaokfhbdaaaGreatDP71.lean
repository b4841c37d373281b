/-
  Signatures read: wire.Eye.Sum, many.read.
-/
import Derived.Test.YthfoeaokfhbdaaaGreatDP14
set_option linter.unusedSimpArgs false
set_option linter.unusedVariables false
set_option maxRecDepth 100000
set_option maxHeartbeats 1000000
namespace Go.Proofs.YthfoeaokfhbdaaaGreat
open Go Go.AL Go.Proofs.YthfoeaokfhbdaaaGreat.T
attribute [local go_sem] nb_u8s u8s_length nb_sum sumA List.length_replicate u8_wrap take32 List.drop_zero zero_sum sum_h nb_eye u8s_nil sums_len nb_sums
def sumOf (l : List UInt8) : Sum := if h : l.length = 32 then ⟨l, h⟩ else zeroS
def esumS (s : ES) : Sum × ES := (sumOf (rawS s 32).1, (rawS s 32).2)
theorem rawS_32 (s : ES) : (rawS s 32).1.length = 32 ∨ (rawS s 32).1 = [] := by
  unfold rawS
  split
  · split
    · exact .inr rfl
    · rename_i h; left; rw [List.length_take]; omega
  · exact .inr rfl
theorem range_full (l : List UInt8) (h : l.length = 32) : setRange (u8s zeroS.b) 0 (u8s l) = u8s (sumOf l).b := by
  unfold sumOf
  rw [dif_pos h]
  unfold setRange
  rw [List.take_zero, List.nil_append, List.drop_eq_nil_of_le (by rw [u8s_length, u8s_length, zeroS.h]; omega), List.append_nil]
theorem range_none : setRange (u8s zeroS.b) 0 (u8s []) = u8s (sumOf []).b := by
  unfold sumOf
  rw [dif_neg (by simp)]
  unfold setRange
  rw [u8s_nil, List.take_zero, List.nil_append, List.length_nil, Nat.zero_add, List.drop_zero, List.nil_append]
theorem rawS_set (s : ES) : setRange (u8s zeroS.b) 0 (u8s (rawS s 32).1) = u8s (esumS s).1.b := by
  unfold esumS
  rcases rawS_32 s with h | h
  · exact range_full _ h
  · simp only [h]; exact range_none
theorem rawS_le (s : ES) : (rawS s 32).1.length ≤ 32 := by
  rcases rawS_32 s with h | h
  · omega
  · rw [h]; simp
theorem esum_spec (nx m : Nat) (s : ES) (hm : m < nx) (hb : s.b.length < 2 ^ 40) : FnSpec Tryz.prog 72 nx [.ref m 0 []] [(m, some (.obj (eyeA s)))] (sumA (esumS s).1) [(m, some (.obj (eyeA (esumS s).2)))] 0 := by
  have x1 := fun k => lt_nx hm k
  have x2 := fun k => nx_gt hm k
  have hr := rawS_set s
  have hl := rawS_le s
  have e2 : (esumS s).2 = (rawS s 32).2 := rfl
  rw [e2]
  refine FnSpec.of_code (cx := cx) (an := {}) (rs := [.cell 2 23]) mo Tryz.func72 rfl rfl (by kernel_rfl) (by kernel_rfl) (by show 1 ≤ _; decide) (.inl rfl) (by simp [allWr, keys, Res.wr]) ?_
  repeat' (first | omega | assumption | (show AL.ahead _ _ _ = true; rfl) | refine brF (fun _ => ?_) (fun _ => ?_) | refine brT (fun _ => ?_) (fun _ => ?_) | refine brVF (fun _ => ?_) (fun _ => ?_) | refine brVT (fun _ => ?_) (fun _ => ?_) | (with_reducible refine And.intro ?_ ?_) | (refine callK_by (raw_spec _ m s 32 (by omega) (by omega)) ?_) | (simp -dsimp -implicitDefEqProofs only [go_sem, ↓reduceIte, Nat.reduceEqDiff, Nat.reduceAdd, Nat.reduceMul, Nat.reduceLeDiff, Nat.reduceLT, Nat.reduceBEq, Nat.reducePow, Int.reduceToNat, Int.reduceLE, Int.reduceLT, Int.reduceNeg, reduceCtorEq, Int.reduceEq, Int.reduceAdd, Int.reduceSub, Int.reduceMul, Nat.reduceSub, x1, x2, lt_nx0 hm, nx_gt0 hm, hr]))
  all_goals trace_state
theorem esumS_len (s : ES) : (esumS s).2.b.length ≤ s.b.length := rawS_len s 32
/-- sums that are read, one behind the other -/
def pathS (s : ES) : Nat → List Sum × ES
  | 0 => ([], s)
  | i + 1 => ((pathS s i).1 ++ [(esumS (pathS s i).2).1], (esumS (pathS s i).2).2)
theorem pathS_len (s : ES) : ∀ i, (pathS s i).1.length = i ∧ (pathS s i).2.b.length ≤ s.b.length
  | 0 => ⟨rfl, Nat.le_refl _⟩
  | i + 1 => by
    obtain ⟨h1, h2⟩ := pathS_len s i
    refine ⟨by simp [pathS, h1], Nat.le_trans (esumS_len _) h2⟩
structure Sig_ where
  at_ : Int
  leaves : Int
  path : List Sum
  one : List UInt8
  e : Int
def readS (b : List UInt8) : Sig_ :=
  let u := uptoS ⟨b, 0⟩ 64
  let v := uptoS u.2 64
  let k := uptoS v.2 8
  let p := pathS k.2 k.1.toNat
  let t := textS p.2 4096
  ⟨u.1, v.1, p.1, t.1, doneS t.2⟩
theorem uptoS_rng (s : ES) (most : Int) (hm : 0 ≤ most) : 0 ≤ (uptoS s most).1 ∧ (uptoS s most).1 ≤ most := by
  simp only [uptoS]
  by_cases h : most < ((numS s).1 : Int)
  · have hne : ¬ (failS (numS s).2 5).e = 0 := by
      unfold failS
      split
      · simp
      · assumption
    simp only [h, if_true, hne, if_false]
    exact ⟨Int.le_refl _, hm⟩
  · simp only [h, if_false]
    split
    · simp only; omega
    · simp only; omega
theorem read_spec (nx : Nat) (b : List UInt8) (hb : b.length < 2 ^ 40) :
    FnSpec Tryz.prog 231 nx [.sl 1 (u8s b) 0] [] (if (readS b).e = 0 then .tup [n64 (readS b).at_, n64 (readS b).leaves, .sl 32 (sumsA (readS b).path) 0, .sl 1 (u8s (readS b).one) 0, n64 0] else .tup [n64 0, n64 0, .sl 32 [] 0, .sl 0 [] 1, n64 (readS b).e]) [] 0 := by
  obtain ⟨u, hu⟩ : ∃ u, u = uptoS ⟨b, 0⟩ 64 := ⟨_, rfl⟩
  obtain ⟨v, hv⟩ : ∃ v, v = uptoS u.2 64 := ⟨_, rfl⟩
  obtain ⟨k, hk⟩ : ∃ k, k = uptoS v.2 8 := ⟨_, rfl⟩
  obtain ⟨q, hq⟩ : ∃ q, q = pathS k.2 k.1.toNat := ⟨_, rfl⟩
  obtain ⟨t, ht⟩ : ∃ t, t = textS q.2 4096 := ⟨_, rfl⟩
  have hr : readS b = ⟨u.1, v.1, q.1, t.1, doneS t.2⟩ := by rw [ht, hq, hk, hv, hu]; rfl
  have l1 := uptoS_len ⟨b, 0⟩ 64
  have l2 := uptoS_len u.2 64
  have l3 := uptoS_len v.2 8
  have l4 := pathS_len k.2 k.1.toNat
  have k8 := uptoS_rng v.2 8 (by decide)
  rw [← hu] at l1
  rw [← hv] at l2
  rw [← hk] at l3 k8
  rw [← hq] at l4
  simp only at l1
  rw [hr]
  simp only
  obtain ⟨kn, hkn⟩ : ∃ kn : Nat, k.1 = (kn : Int) := ⟨k.1.toNat, by omega⟩
  rw [hkn] at hq l4
  simp only [Int.toNat_natCast] at hq l4
  by_cases hd : doneS t.2 = 0
  · rw [if_pos hd]
    have key : FnSpec Tryz.prog 231 nx [.sl 1 (u8s b) 0] [] (.tup [n64 u.1, n64 v.1, .sl 32 (sumsA q.1) (nx + 19), .sl 1 (u8s t.1) 0, n64 0]) [(nx + 88, some (.obj (eyeA (if t.2.e = 0 ∧ 0 < t.2.b.length then ⟨t.2.b, 3⟩ else t.2)))), (nx + 17, some (.tail q.1.length))] 4000 := by
      refine FnSpec.of_code (cx := cx) (an := {tk := [(4, [([], 32)])]}) (rs := [.tmp 2, .tmp 3, .tmp 4, .tmp 5, .tmp 6]) mo Tryz.func231 rfl rfl (by kernel_rfl) (by kernel_rfl) (by show 1 ≤ _; decide) (.inr ⟨_, rfl, by simp [AV.good]⟩) (by simp [allWr, keys, Res.wr]) ?_
      repeat' (first | omega | assumption | (show AL.ahead _ _ _ = true; rfl) | refine brF (fun _ => ?_) (fun _ => ?_) | refine brT (fun _ => ?_) (fun _ => ?_) | refine brVF (fun _ => ?_) (fun _ => ?_) | refine brVT (fun _ => ?_) (fun _ => ?_) | (with_reducible refine And.intro ?_ ?_) | (refine callK_by (look_spec _ b) ?_) | (simp -dsimp -implicitDefEqProofs only [go_sem, ↓reduceIte, Nat.reduceEqDiff, Nat.reduceAdd, Nat.reduceMul, Nat.reduceLeDiff, Nat.reduceLT, Nat.reduceBEq, Nat.reducePow, Int.reduceToNat, Int.reduceLE, Int.reduceLT, Int.reduceNeg, reduceCtorEq, Int.reduceEq, Int.reduceAdd, Int.reduceSub, Int.reduceMul, Nat.reduceSub]))
      refine callK_by (upto_spec _ (nx + 88) ⟨b, 0⟩ 64 (by omega) (by simpa using hb)) ?_
      rw [← hu]
      repeat' (first | omega | assumption | (show AL.ahead _ _ _ = true; rfl) | refine brF (fun _ => ?_) (fun _ => ?_) | refine brT (fun _ => ?_) (fun _ => ?_) | refine brVF (fun _ => ?_) (fun _ => ?_) | refine brVT (fun _ => ?_) (fun _ => ?_) | (with_reducible refine And.intro ?_ ?_) | (simp -dsimp -implicitDefEqProofs only [go_sem, ↓reduceIte, Nat.reduceEqDiff, Nat.reduceAdd, Nat.reduceMul, Nat.reduceLeDiff, Nat.reduceLT, Nat.reduceBEq, Nat.reducePow, Int.reduceToNat, Int.reduceLE, Int.reduceLT, Int.reduceNeg, reduceCtorEq, Int.reduceEq, Int.reduceAdd, Int.reduceSub, Int.reduceMul, Nat.reduceSub]))
      refine callK_by (upto_spec _ (nx + 88) u.2 64 (by omega) (by omega)) ?_
      rw [← hv]
      repeat' (first | omega | assumption | (show AL.ahead _ _ _ = true; rfl) | refine brF (fun _ => ?_) (fun _ => ?_) | refine brT (fun _ => ?_) (fun _ => ?_) | refine brVF (fun _ => ?_) (fun _ => ?_) | refine brVT (fun _ => ?_) (fun _ => ?_) | (with_reducible refine And.intro ?_ ?_) | (simp -dsimp -implicitDefEqProofs only [go_sem, ↓reduceIte, Nat.reduceEqDiff, Nat.reduceAdd, Nat.reduceMul, Nat.reduceLeDiff, Nat.reduceLT, Nat.reduceBEq, Nat.reducePow, Int.reduceToNat, Int.reduceLE, Int.reduceLT, Int.reduceNeg, reduceCtorEq, Int.reduceEq, Int.reduceAdd, Int.reduceSub, Int.reduceMul, Nat.reduceSub]))
      refine callK_by (upto_spec _ (nx + 88) v.2 8 (by omega) (by omega)) ?_
      rw [← hk]
      repeat' (first | omega | assumption | (show AL.ahead _ _ _ = true; rfl) | refine brF (fun _ => ?_) (fun _ => ?_) | refine brT (fun _ => ?_) (fun _ => ?_) | refine brVF (fun _ => ?_) (fun _ => ?_) | refine brVT (fun _ => ?_) (fun _ => ?_) | (with_reducible refine And.intro ?_ ?_) | (simp -dsimp -implicitDefEqProofs only [go_sem, ↓reduceIte, Nat.reduceEqDiff, Nat.reduceAdd, Nat.reduceMul, Nat.reduceLeDiff, Nat.reduceLT, Nat.reduceBEq, Nat.reducePow, Int.reduceToNat, Int.reduceLE, Int.reduceLT, Int.reduceNeg, reduceCtorEq, Int.reduceEq, Int.reduceAdd, Int.reduceSub, Int.reduceMul, Nat.reduceSub]))
      apply loop_keep [2, 3, 7, 15] (fun i : { i : Nat // i ≤ kn } => [(4, .sl 32 (sumsA (pathS k.2 i.1).1) (nx + 19)), (16, n64 i.1)]) (fun i => [(nx + 88, some (.obj (eyeA (pathS k.2 i.1).2))), (nx + 17, some (.tail i.1))]) (fun i => kn - i.1) ⟨0, Nat.zero_le _⟩
      · simp -dsimp -implicitDefEqProofs only [go_sem, ↓reduceIte, Nat.reduceEqDiff, Nat.reduceAdd, Nat.reduceMul, Nat.reduceLeDiff, Nat.reduceLT, Nat.reduceBEq, Nat.reducePow, Int.reduceToNat, Int.reduceLE, Int.reduceLT, Int.reduceNeg, reduceCtorEq, Int.reduceEq, Int.reduceAdd, Int.reduceSub, Int.reduceMul, Nat.reduceSub]; try rfl
      · simp -dsimp -implicitDefEqProofs only [go_sem, ↓reduceIte, Nat.reduceEqDiff, Nat.reduceAdd, Nat.reduceMul, Nat.reduceLeDiff, Nat.reduceLT, Nat.reduceBEq, Nat.reducePow, Int.reduceToNat, Int.reduceLE, Int.reduceLT, Int.reduceNeg, reduceCtorEq, Int.reduceEq, Int.reduceAdd, Int.reduceSub, Int.reduceMul, Nat.reduceSub, pathS, sumsA, List.map_nil]; try rfl
      · simp -dsimp -implicitDefEqProofs only [go_sem, ↓reduceIte, Nat.reduceEqDiff, Nat.reduceAdd, Nat.reduceMul, Nat.reduceLeDiff, Nat.reduceLT, Nat.reduceBEq, Nat.reducePow, Int.reduceToNat, Int.reduceLE, Int.reduceLT, Int.reduceNeg, reduceCtorEq, Int.reduceEq, Int.reduceAdd, Int.reduceSub, Int.reduceMul, Nat.reduceSub, pathS]; try rfl
      · intro s
        simp -dsimp -implicitDefEqProofs only [go_sem, ↓reduceIte, Nat.reduceEqDiff, Nat.reduceAdd, Nat.reduceMul, Nat.reduceLeDiff, Nat.reduceLT, Nat.reduceBEq, Nat.reducePow, Int.reduceToNat, Int.reduceLE, Int.reduceLT, Int.reduceNeg, reduceCtorEq, Int.reduceEq, Int.reduceAdd, Int.reduceSub, Int.reduceMul, Nat.reduceSub]
        try omega
      · rintro ⟨i, hi⟩
        have hi : i ≤ kn := hi
        have hpl := pathS_len k.2 i
        simp -dsimp -implicitDefEqProofs only [go_sem, ↓reduceIte, Nat.reduceEqDiff, Nat.reduceAdd, Nat.reduceMul, Nat.reduceLeDiff, Nat.reduceLT, Nat.reduceBEq, Nat.reducePow, Int.reduceToNat, Int.reduceLE, Int.reduceLT, Int.reduceNeg, reduceCtorEq, Int.reduceEq, Int.reduceAdd, Int.reduceSub, Int.reduceMul, Nat.reduceSub, hkn]
        refine brT (fun h => ?_) (fun h => ?_)
        · have hi2 : i < kn := by omega
          have w1 : IntKind.i64.wrap ((i : Int) + 1) = ((i + 1 : Nat) : Int) := wrapE (by omega) (by omega)
          have e1 : pathS k.2 (i + 1) = ((pathS k.2 i).1 ++ [(esumS (pathS k.2 i).2).1], (esumS (pathS k.2 i).2).2) := rfl
          repeat' (first | omega | assumption | (show AL.ahead _ _ _ = true; rfl) | refine brF (fun _ => ?_) (fun _ => ?_) | refine brT (fun _ => ?_) (fun _ => ?_) | refine brVF (fun _ => ?_) (fun _ => ?_) | refine brVT (fun _ => ?_) (fun _ => ?_) | (with_reducible refine And.intro ?_ ?_) | (refine callK_by (esum_spec _ (nx + 88) (pathS k.2 i).2 (by omega) (by omega)) ?_) | (simp -dsimp -implicitDefEqProofs only [go_sem, ↓reduceIte, Nat.reduceEqDiff, Nat.reduceAdd, Nat.reduceMul, Nat.reduceLeDiff, Nat.reduceLT, Nat.reduceBEq, Nat.reducePow, Int.reduceToNat, Int.reduceLE, Int.reduceLT, Int.reduceNeg, reduceCtorEq, Int.reduceEq, Int.reduceAdd, Int.reduceSub, Int.reduceMul, Nat.reduceSub, w1, sums_snoc, hpl.1]))
          exact ⟨⟨i + 1, hi2⟩, by show kn - (i + 1) < kn - i; omega, ⟨by rw [e1], rfl, by rw [hkn]⟩, rfl, rfl⟩
        · have e : i = kn := by omega
          subst e
          repeat' (first | omega | assumption | (show AL.ahead _ _ _ = true; rfl) | refine brF (fun _ => ?_) (fun _ => ?_) | refine brT (fun _ => ?_) (fun _ => ?_) | refine brVF (fun _ => ?_) (fun _ => ?_) | refine brVT (fun _ => ?_) (fun _ => ?_) | (with_reducible refine And.intro ?_ ?_) | (refine callK_by (etext_spec _ (nx + 88) q.2 4096 (by omega) (by omega)) ?_) | (refine callK_by (done_spec _ (nx + 88) t.2 (by omega)) ?_) | (simp -dsimp -implicitDefEqProofs only [go_sem, ↓reduceIte, Nat.reduceEqDiff, Nat.reduceAdd, Nat.reduceMul, Nat.reduceLeDiff, Nat.reduceLT, Nat.reduceBEq, Nat.reducePow, Int.reduceToNat, Int.reduceLE, Int.reduceLT, Int.reduceNeg, reduceCtorEq, Int.reduceEq, Int.reduceAdd, Int.reduceSub, Int.reduceMul, Nat.reduceSub, ← hq, ← ht]))
          all_goals rw [l4.1]

    exact (key.outle (av' := .tup [n64 u.1, n64 v.1, .sl 32 (sumsA q.1) 0, .sl 1 (u8s t.1) 0, n64 0]) ⟨_, _, rfl, AV.le_refl _, _, _, rfl, AV.le_refl _, _, _, rfl, ⟨_, _, rfl, AV.les_refl _, .inr (.inl rfl)⟩, AV.les_refl _⟩).forget0 ⟨rfl, fun i x y h1 h2 => .inl (by rw [h1] at h2; exact Option.some.inj h2)⟩ (by simp [AV.nb, AV.nbs, nb_u8s, nb_sums]) (by simp [keys])
  · rw [if_neg hd]
    have key : FnSpec Tryz.prog 231 nx [.sl 1 (u8s b) 0] [] (.tup [n64 0, n64 0, .sl 32 [] (nx + 260), .sl 0 [] 1, n64 (doneS t.2)]) [(nx + 88, some (.obj (eyeA (if t.2.e = 0 ∧ 0 < t.2.b.length then ⟨t.2.b, 3⟩ else t.2)))), (nx + 17, some (.tail q.1.length)), (nx + 258, some (.tail 0))] 4000 := by
      refine FnSpec.of_code (cx := cx) (an := {tk := [(4, [([], 32)])]}) (rs := [.tmp 2, .tmp 3, .tmp 4, .tmp 5, .tmp 6]) mo Tryz.func231 rfl rfl (by kernel_rfl) (by kernel_rfl) (by show 1 ≤ _; decide) (.inr ⟨_, rfl, by simp [AV.good]⟩) (by simp [allWr, keys, Res.wr]) ?_
      repeat' (first | omega | assumption | (show AL.ahead _ _ _ = true; rfl) | refine brF (fun _ => ?_) (fun _ => ?_) | refine brT (fun _ => ?_) (fun _ => ?_) | refine brVF (fun _ => ?_) (fun _ => ?_) | refine brVT (fun _ => ?_) (fun _ => ?_) | (with_reducible refine And.intro ?_ ?_) | (refine callK_by (look_spec _ b) ?_) | (simp -dsimp -implicitDefEqProofs only [go_sem, ↓reduceIte, Nat.reduceEqDiff, Nat.reduceAdd, Nat.reduceMul, Nat.reduceLeDiff, Nat.reduceLT, Nat.reduceBEq, Nat.reducePow, Int.reduceToNat, Int.reduceLE, Int.reduceLT, Int.reduceNeg, reduceCtorEq, Int.reduceEq, Int.reduceAdd, Int.reduceSub, Int.reduceMul, Nat.reduceSub]))
      refine callK_by (upto_spec _ (nx + 88) ⟨b, 0⟩ 64 (by omega) (by simpa using hb)) ?_
      rw [← hu]
      repeat' (first | omega | assumption | (show AL.ahead _ _ _ = true; rfl) | refine brF (fun _ => ?_) (fun _ => ?_) | refine brT (fun _ => ?_) (fun _ => ?_) | refine brVF (fun _ => ?_) (fun _ => ?_) | refine brVT (fun _ => ?_) (fun _ => ?_) | (with_reducible refine And.intro ?_ ?_) | (simp -dsimp -implicitDefEqProofs only [go_sem, ↓reduceIte, Nat.reduceEqDiff, Nat.reduceAdd, Nat.reduceMul, Nat.reduceLeDiff, Nat.reduceLT, Nat.reduceBEq, Nat.reducePow, Int.reduceToNat, Int.reduceLE, Int.reduceLT, Int.reduceNeg, reduceCtorEq, Int.reduceEq, Int.reduceAdd, Int.reduceSub, Int.reduceMul, Nat.reduceSub]))
      refine callK_by (upto_spec _ (nx + 88) u.2 64 (by omega) (by omega)) ?_
      rw [← hv]
      repeat' (first | omega | assumption | (show AL.ahead _ _ _ = true; rfl) | refine brF (fun _ => ?_) (fun _ => ?_) | refine brT (fun _ => ?_) (fun _ => ?_) | refine brVF (fun _ => ?_) (fun _ => ?_) | refine brVT (fun _ => ?_) (fun _ => ?_) | (with_reducible refine And.intro ?_ ?_) | (simp -dsimp -implicitDefEqProofs only [go_sem, ↓reduceIte, Nat.reduceEqDiff, Nat.reduceAdd, Nat.reduceMul, Nat.reduceLeDiff, Nat.reduceLT, Nat.reduceBEq, Nat.reducePow, Int.reduceToNat, Int.reduceLE, Int.reduceLT, Int.reduceNeg, reduceCtorEq, Int.reduceEq, Int.reduceAdd, Int.reduceSub, Int.reduceMul, Nat.reduceSub]))
      refine callK_by (upto_spec _ (nx + 88) v.2 8 (by omega) (by omega)) ?_
      rw [← hk]
      repeat' (first | omega | assumption | (show AL.ahead _ _ _ = true; rfl) | refine brF (fun _ => ?_) (fun _ => ?_) | refine brT (fun _ => ?_) (fun _ => ?_) | refine brVF (fun _ => ?_) (fun _ => ?_) | refine brVT (fun _ => ?_) (fun _ => ?_) | (with_reducible refine And.intro ?_ ?_) | (simp -dsimp -implicitDefEqProofs only [go_sem, ↓reduceIte, Nat.reduceEqDiff, Nat.reduceAdd, Nat.reduceMul, Nat.reduceLeDiff, Nat.reduceLT, Nat.reduceBEq, Nat.reducePow, Int.reduceToNat, Int.reduceLE, Int.reduceLT, Int.reduceNeg, reduceCtorEq, Int.reduceEq, Int.reduceAdd, Int.reduceSub, Int.reduceMul, Nat.reduceSub]))
      apply loop_keep [2, 3, 7, 15] (fun i : { i : Nat // i ≤ kn } => [(4, .sl 32 (sumsA (pathS k.2 i.1).1) (nx + 19)), (16, n64 i.1)]) (fun i => [(nx + 88, some (.obj (eyeA (pathS k.2 i.1).2))), (nx + 17, some (.tail i.1))]) (fun i => kn - i.1) ⟨0, Nat.zero_le _⟩
      · simp -dsimp -implicitDefEqProofs only [go_sem, ↓reduceIte, Nat.reduceEqDiff, Nat.reduceAdd, Nat.reduceMul, Nat.reduceLeDiff, Nat.reduceLT, Nat.reduceBEq, Nat.reducePow, Int.reduceToNat, Int.reduceLE, Int.reduceLT, Int.reduceNeg, reduceCtorEq, Int.reduceEq, Int.reduceAdd, Int.reduceSub, Int.reduceMul, Nat.reduceSub]; try rfl
      · simp -dsimp -implicitDefEqProofs only [go_sem, ↓reduceIte, Nat.reduceEqDiff, Nat.reduceAdd, Nat.reduceMul, Nat.reduceLeDiff, Nat.reduceLT, Nat.reduceBEq, Nat.reducePow, Int.reduceToNat, Int.reduceLE, Int.reduceLT, Int.reduceNeg, reduceCtorEq, Int.reduceEq, Int.reduceAdd, Int.reduceSub, Int.reduceMul, Nat.reduceSub, pathS, sumsA, List.map_nil]; try rfl
      · simp -dsimp -implicitDefEqProofs only [go_sem, ↓reduceIte, Nat.reduceEqDiff, Nat.reduceAdd, Nat.reduceMul, Nat.reduceLeDiff, Nat.reduceLT, Nat.reduceBEq, Nat.reducePow, Int.reduceToNat, Int.reduceLE, Int.reduceLT, Int.reduceNeg, reduceCtorEq, Int.reduceEq, Int.reduceAdd, Int.reduceSub, Int.reduceMul, Nat.reduceSub, pathS]; try rfl
      · intro s
        simp -dsimp -implicitDefEqProofs only [go_sem, ↓reduceIte, Nat.reduceEqDiff, Nat.reduceAdd, Nat.reduceMul, Nat.reduceLeDiff, Nat.reduceLT, Nat.reduceBEq, Nat.reducePow, Int.reduceToNat, Int.reduceLE, Int.reduceLT, Int.reduceNeg, reduceCtorEq, Int.reduceEq, Int.reduceAdd, Int.reduceSub, Int.reduceMul, Nat.reduceSub]
        try omega
      · rintro ⟨i, hi⟩
        have hi : i ≤ kn := hi
        have hpl := pathS_len k.2 i
        simp -dsimp -implicitDefEqProofs only [go_sem, ↓reduceIte, Nat.reduceEqDiff, Nat.reduceAdd, Nat.reduceMul, Nat.reduceLeDiff, Nat.reduceLT, Nat.reduceBEq, Nat.reducePow, Int.reduceToNat, Int.reduceLE, Int.reduceLT, Int.reduceNeg, reduceCtorEq, Int.reduceEq, Int.reduceAdd, Int.reduceSub, Int.reduceMul, Nat.reduceSub, hkn]
        refine brT (fun h => ?_) (fun h => ?_)
        · have hi2 : i < kn := by omega
          have w1 : IntKind.i64.wrap ((i : Int) + 1) = ((i + 1 : Nat) : Int) := wrapE (by omega) (by omega)
          have e1 : pathS k.2 (i + 1) = ((pathS k.2 i).1 ++ [(esumS (pathS k.2 i).2).1], (esumS (pathS k.2 i).2).2) := rfl
          repeat' (first | omega | assumption | (show AL.ahead _ _ _ = true; rfl) | refine brF (fun _ => ?_) (fun _ => ?_) | refine brT (fun _ => ?_) (fun _ => ?_) | refine brVF (fun _ => ?_) (fun _ => ?_) | refine brVT (fun _ => ?_) (fun _ => ?_) | (with_reducible refine And.intro ?_ ?_) | (refine callK_by (esum_spec _ (nx + 88) (pathS k.2 i).2 (by omega) (by omega)) ?_) | (simp -dsimp -implicitDefEqProofs only [go_sem, ↓reduceIte, Nat.reduceEqDiff, Nat.reduceAdd, Nat.reduceMul, Nat.reduceLeDiff, Nat.reduceLT, Nat.reduceBEq, Nat.reducePow, Int.reduceToNat, Int.reduceLE, Int.reduceLT, Int.reduceNeg, reduceCtorEq, Int.reduceEq, Int.reduceAdd, Int.reduceSub, Int.reduceMul, Nat.reduceSub, w1, sums_snoc, hpl.1]))
          exact ⟨⟨i + 1, hi2⟩, by show kn - (i + 1) < kn - i; omega, ⟨by rw [e1], rfl, by rw [hkn]⟩, rfl, rfl⟩
        · have e : i = kn := by omega
          subst e
          repeat' (first | omega | assumption | (show AL.ahead _ _ _ = true; rfl) | refine brF (fun _ => ?_) (fun _ => ?_) | refine brT (fun _ => ?_) (fun _ => ?_) | refine brVF (fun _ => ?_) (fun _ => ?_) | refine brVT (fun _ => ?_) (fun _ => ?_) | (with_reducible refine And.intro ?_ ?_) | (refine callK_by (etext_spec _ (nx + 88) q.2 4096 (by omega) (by omega)) ?_) | (refine callK_by (done_spec _ (nx + 88) t.2 (by omega)) ?_) | (simp -dsimp -implicitDefEqProofs only [go_sem, ↓reduceIte, Nat.reduceEqDiff, Nat.reduceAdd, Nat.reduceMul, Nat.reduceLeDiff, Nat.reduceLT, Nat.reduceBEq, Nat.reducePow, Int.reduceToNat, Int.reduceLE, Int.reduceLT, Int.reduceNeg, reduceCtorEq, Int.reduceEq, Int.reduceAdd, Int.reduceSub, Int.reduceMul, Nat.reduceSub, ← hq, ← ht]))
          all_goals rw [l4.1]

    exact (key.outle (av' := .tup [n64 0, n64 0, .sl 32 [] 0, .sl 0 [] 1, n64 (doneS t.2)]) ⟨_, _, rfl, AV.le_refl _, _, _, rfl, AV.le_refl _, _, _, rfl, ⟨_, _, rfl, AV.les_refl _, .inr (.inl rfl)⟩, AV.les_refl _⟩).forget0 ⟨rfl, fun i x y h1 h2 => .inl (by rw [h1] at h2; exact Option.some.inj h2)⟩ (by simp [AV.nb, AV.nbs, nb_u8s]) (by simp [keys])
end Go.Proofs.YthfoeaokfhbdaaaGreat

/-
  Which channels, which states may be; amounts added; a secret's hash.
-/
set_option linter.unusedSimpArgs false
set_option linter.unusedVariables false
set_option maxRecDepth 100000
set_option maxHeartbeats 1000000
namespace Go.Proofs.YthfoeaokfhbdaaaGreat
open Go Go.AL Go.Proofs.YthfoeaokfhbdaaaGreat.T
attribute [local go_sem] nb_u8s u8s_length nb_sum sumA List.length_replicate zero_sum sum_h nb_vals vals_len u8s_nil
abbrev MAXA : Int := 1125899906842624
abbrev chanR (c : Chan) : Prop := 0 ≤ c.id ∧ c.id ≤ 1048576 ∧ 0 ≤ c.client ∧ c.client ≤ 255 ∧ 0 ≤ c.peer ∧ c.peer ≤ 255 ∧ c.client ≠ c.peer ∧ 1 ≤ c.cap ∧ 0 ≤ c.cap ∧ c.cap ≤ 1125899906842624 ∧ 1 ≤ c.window ∧ c.window < c.wait ∧ c.wait ≤ 65536 ∧ 0 ≤ c.fund.at_ ∧ c.fund.at_ < 16
theorem chanR_spec (nx : Nat) (c : Chan) : FnSpec Tryz.prog 24 nx [chanA c] [] (bA (decide (chanR c))) [] 0 := by
  refine FnSpec.of_code (cx := cx) (an := {}) (rs := [.tmp 2]) mo Tryz.func24 rfl rfl (by kernel_rfl) (by kernel_rfl) (by show 1 ≤ _; decide) (.inl rfl) (by simp [allWr, keys, Res.wr]) ?_
  repeat' (first | omega | assumption | (show AL.ahead _ _ _ = true; rfl) | refine brF (fun _ => ?_) (fun _ => ?_) | refine brT (fun _ => ?_) (fun _ => ?_) | refine brVF (fun _ => ?_) (fun _ => ?_) | refine brVT (fun _ => ?_) (fun _ => ?_) | (with_reducible refine And.intro ?_ ?_) | (refine callK_by (coinRight_spec _ c.cap) ?_) | (simp -dsimp -implicitDefEqProofs only [go_sem, ↓reduceIte, Nat.reduceEqDiff, Nat.reduceAdd, Nat.reduceMul, Nat.reduceLeDiff, Nat.reduceLT, Nat.reduceBEq, Nat.reducePow, Int.reduceToNat, Int.reduceLE, Int.reduceLT, Int.reduceNeg, reduceCtorEq, Int.reduceEq, Int.reduceAdd, Int.reduceSub, Int.reduceMul, Nat.reduceSub, chanA, refA, List.append_eq, List.cons_append, List.nil_append]))
  all_goals (simp only [bA, chanR]; congr 2; first | (symm; apply decide_eq_false; omega) | (symm; apply decide_eq_true; omega) | (apply decide_eq_decide.2; omega) | trace_state)
def addF : Int → List Int → Int × Int
  | s, [] => (s, 0)
  | s, a :: r => if 0 ≤ a ∧ a ≤ 1125899906842624 then (if 1125899906842624 < s + a then (0, 10) else addF (s + a) r) else (0, 5)
theorem add_spec (nx : Nat) (l : List Int) (hl : l.length < 2 ^ 40) : FnSpec Tryz.prog 60 nx [.sl 1 (vals .i64 l) 1] [] (.tup [n64 (addF 0 l).1, n64 (addF 0 l).2]) [] 0 := by
  obtain ⟨R, hR⟩ : ∃ R, R = addF 0 l := ⟨_, rfl⟩
  rw [← hR]
  refine FnSpec.of_code (cx := cx) (an := {}) (rs := [.tmp 2, .tmp 3]) mo Tryz.func60 rfl rfl (by kernel_rfl) (by kernel_rfl) (by show 1 ≤ _; decide) (.inr ⟨_, rfl, by simp [AV.good]⟩) (by simp [allWr, keys, Res.wr]) ?_
  repeat' (first | omega | assumption | (show AL.ahead _ _ _ = true; rfl) | refine brF (fun _ => ?_) (fun _ => ?_) | refine brT (fun _ => ?_) (fun _ => ?_) | refine brVF (fun _ => ?_) (fun _ => ?_) | refine brVT (fun _ => ?_) (fun _ => ?_) | (with_reducible refine And.intro ?_ ?_) | (simp -dsimp -implicitDefEqProofs only [go_sem, ↓reduceIte, Nat.reduceEqDiff, Nat.reduceAdd, Nat.reduceMul, Nat.reduceLeDiff, Nat.reduceLT, Nat.reduceBEq, Nat.reducePow, Int.reduceToNat, Int.reduceLE, Int.reduceLT, Int.reduceNeg, reduceCtorEq, Int.reduceEq, Int.reduceAdd, Int.reduceSub, Int.reduceMul, Nat.reduceSub]))
  apply loop_keep [7, 8] (fun p : { p : Nat × Int // p.1 ≤ l.length ∧ 0 ≤ p.2 ∧ p.2 ≤ 1125899906842624 ∧ addF p.2 (l.drop p.1) = R } => [(4, n64 p.1.2), (9, n64 p.1.1)]) (fun _ => []) (fun p => l.length - p.1.1) ⟨(0, 0), Nat.zero_le _, Int.le_refl _, by decide, by rw [hR]; rfl⟩
  · simp -dsimp -implicitDefEqProofs only [go_sem, ↓reduceIte, Nat.reduceEqDiff, Nat.reduceAdd, Nat.reduceMul, Nat.reduceLeDiff, Nat.reduceLT, Nat.reduceBEq, Nat.reducePow, Int.reduceToNat, Int.reduceLE, Int.reduceLT, Int.reduceNeg, reduceCtorEq, Int.reduceEq, Int.reduceAdd, Int.reduceSub, Int.reduceMul, Nat.reduceSub]; try rfl
  · simp -dsimp -implicitDefEqProofs only [go_sem, ↓reduceIte, Nat.reduceEqDiff, Nat.reduceAdd, Nat.reduceMul, Nat.reduceLeDiff, Nat.reduceLT, Nat.reduceBEq, Nat.reducePow, Int.reduceToNat, Int.reduceLE, Int.reduceLT, Int.reduceNeg, reduceCtorEq, Int.reduceEq, Int.reduceAdd, Int.reduceSub, Int.reduceMul, Nat.reduceSub]; try rfl
  · simp -dsimp -implicitDefEqProofs only [go_sem, ↓reduceIte, Nat.reduceEqDiff, Nat.reduceAdd, Nat.reduceMul, Nat.reduceLeDiff, Nat.reduceLT, Nat.reduceBEq, Nat.reducePow, Int.reduceToNat, Int.reduceLE, Int.reduceLT, Int.reduceNeg, reduceCtorEq, Int.reduceEq, Int.reduceAdd, Int.reduceSub, Int.reduceMul, Nat.reduceSub]; try rfl
  · intro s
    simp -dsimp -implicitDefEqProofs only [go_sem, ↓reduceIte, Nat.reduceEqDiff, Nat.reduceAdd, Nat.reduceMul, Nat.reduceLeDiff, Nat.reduceLT, Nat.reduceBEq, Nat.reducePow, Int.reduceToNat, Int.reduceLE, Int.reduceLT, Int.reduceNeg, reduceCtorEq, Int.reduceEq, Int.reduceAdd, Int.reduceSub, Int.reduceMul, Nat.reduceSub]
    try omega
  · rintro ⟨⟨i, x⟩, hi, hx0, hx1, hall⟩
    have hi : i ≤ l.length := hi
    simp only at hx0 hx1 hall
    simp -dsimp -implicitDefEqProofs only [go_sem, ↓reduceIte, Nat.reduceEqDiff, Nat.reduceAdd, Nat.reduceMul, Nat.reduceLeDiff, Nat.reduceLT, Nat.reduceBEq, Nat.reducePow, Int.reduceToNat, Int.reduceLE, Int.reduceLT, Int.reduceNeg, reduceCtorEq, Int.reduceEq, Int.reduceAdd, Int.reduceSub, Int.reduceMul, Nat.reduceSub]
    refine brT (fun hc => ?_) (fun hc => ?_)
    · have hi2 : i < l.length := by omega
      have q1 := vals_get (k := .i64) hi2
      have hd := List.drop_eq_getElem_cons hi2
      have hg : l.getD i 0 = l[i] := by rw [List.getD_eq_getElem?_getD, List.getElem?_eq_getElem hi2]; rfl
      rw [hd] at hall
      rw [hg] at q1
      generalize l[i] = y at *
      have w1 : IntKind.i64.wrap ((i : Int) + 1) = ((i + 1 : Nat) : Int) := wrapE (by omega) (by omega)
      by_cases hy : 0 ≤ y ∧ y ≤ 1125899906842624
      · have w2 : IntKind.i64.wrap (x + y) = x + y := by rw [IntKind.wrap_i64]; omega
        rw [addF, if_pos hy] at hall
        repeat' (first | omega | assumption | (show AL.ahead _ _ _ = true; rfl) | refine brF (fun _ => ?_) (fun _ => ?_) | refine brT (fun _ => ?_) (fun _ => ?_) | refine brVF (fun _ => ?_) (fun _ => ?_) | refine brVT (fun _ => ?_) (fun _ => ?_) | (with_reducible refine And.intro ?_ ?_) | (refine callK_by (coinRight_spec _ y) ?_) | (simp -dsimp -implicitDefEqProofs only [go_sem, ↓reduceIte, Nat.reduceEqDiff, Nat.reduceAdd, Nat.reduceMul, Nat.reduceLeDiff, Nat.reduceLT, Nat.reduceBEq, Nat.reducePow, Int.reduceToNat, Int.reduceLE, Int.reduceLT, Int.reduceNeg, reduceCtorEq, Int.reduceEq, Int.reduceAdd, Int.reduceSub, Int.reduceMul, Nat.reduceSub, q1, w1, w2, decide_eq_true hy]))
        · rename_i hx
          rw [if_pos hx] at hall
          rw [← hall]
        · rename_i hx
          rw [if_neg hx] at hall
          exact ⟨⟨(i + 1, x + y), hi2, by show 0 ≤ x + y; omega, by show x + y ≤ _; omega, hall⟩, by show l.length - (i + 1) < l.length - i; omega, ⟨rfl, rfl⟩⟩
      · rw [addF, if_neg hy] at hall
        repeat' (first | omega | assumption | (show AL.ahead _ _ _ = true; rfl) | refine brF (fun _ => ?_) (fun _ => ?_) | refine brT (fun _ => ?_) (fun _ => ?_) | refine brVF (fun _ => ?_) (fun _ => ?_) | refine brVT (fun _ => ?_) (fun _ => ?_) | (with_reducible refine And.intro ?_ ?_) | (refine callK_by (coinRight_spec _ y) ?_) | (simp -dsimp -implicitDefEqProofs only [go_sem, ↓reduceIte, Nat.reduceEqDiff, Nat.reduceAdd, Nat.reduceMul, Nat.reduceLeDiff, Nat.reduceLT, Nat.reduceBEq, Nat.reducePow, Int.reduceToNat, Int.reduceLE, Int.reduceLT, Int.reduceNeg, reduceCtorEq, Int.reduceEq, Int.reduceAdd, Int.reduceSub, Int.reduceMul, Nat.reduceSub, q1, w1, decide_eq_false hy]))
        rw [← hall]
    · have e : i = l.length := by omega
      subst e
      rw [List.drop_length, addF] at hall
      repeat' (first | omega | assumption | (show AL.ahead _ _ _ = true; rfl) | refine brF (fun _ => ?_) (fun _ => ?_) | refine brT (fun _ => ?_) (fun _ => ?_) | refine brVF (fun _ => ?_) (fun _ => ?_) | refine brVT (fun _ => ?_) (fun _ => ?_) | (with_reducible refine And.intro ?_ ?_) | (simp -dsimp -implicitDefEqProofs only [go_sem, ↓reduceIte, Nat.reduceEqDiff, Nat.reduceAdd, Nat.reduceMul, Nat.reduceLeDiff, Nat.reduceLT, Nat.reduceBEq, Nat.reducePow, Int.reduceToNat, Int.reduceLE, Int.reduceLT, Int.reduceNeg, reduceCtorEq, Int.reduceEq, Int.reduceAdd, Int.reduceSub, Int.reduceMul, Nat.reduceSub]))
      rw [← hall]
structure St_ where
  n : Int
  client : Int
  peer : Int
  h0 : Sum
  h1 : Sum
def stateA (s : St_) : AV := .agg 67 [n64 s.n, n64 s.client, n64 s.peer, .vec 32 [sumA s.h0, sumA s.h1]]
/-- may a state be of a channel? -/
def stP (c : Chan) (s : St_) : Prop := chanR c ∧ 0 ≤ s.n ∧ s.n ≤ 1048576 ∧ eqB (sumA s.h0) (sumA zeroS) = false ∧ eqB (sumA s.h1) (sumA zeroS) = false ∧ (addF 0 [s.client, s.peer]).2 = 0 ∧ (addF 0 [s.client, s.peer]).1 = c.cap
noncomputable def stR (c : Chan) (s : St_) : Bool := @decide (stP c s) (Classical.propDecidable _)
theorem stR_yes {c : Chan} {s : St_} (h : stP c s) : bA (stR c s) = bA true := by unfold stR; rw [@decide_eq_true _ (Classical.propDecidable _) h]
theorem stR_no {c : Chan} {s : St_} (h : ¬ stP c s) : bA (stR c s) = bA false := by unfold stR; rw [@decide_eq_false _ (Classical.propDecidable _) h]
theorem stR_spec (nx : Nat) (c : Chan) (s : St_) : FnSpec Tryz.prog 146 nx [chanA c, stateA s] [] (bA (stR c s)) [] 0 := by
  have hc := fun nc => chanR_spec nc c
  have ha := fun nc => add_spec nc [s.client, s.peer] (by simp)
  simp only [chanA, refA] at hc
  simp only [vals, List.map_cons, List.map_nil] at ha
  refine FnSpec.of_code (cx := cx) (an := {}) (rs := [.tmp 4]) mo Tryz.func146 rfl rfl (by kernel_rfl) (by kernel_rfl) (by show 2 ≤ _; decide) (.inl rfl) (by simp [allWr, keys, Res.wr]) ?_
  repeat' (first | omega | assumption | (show AL.ahead _ _ _ = true; rfl) | refine brF (fun _ => ?_) (fun _ => ?_) | refine brT (fun _ => ?_) (fun _ => ?_) | refine brVF (fun _ => ?_) (fun _ => ?_) | refine brVT (fun _ => ?_) (fun _ => ?_) | (with_reducible refine And.intro ?_ ?_) | (refine callK_by (hc _) ?_) | (refine callK_by (ha _) ?_) | (simp -dsimp -implicitDefEqProofs only [go_sem, ↓reduceIte, Nat.reduceEqDiff, Nat.reduceAdd, Nat.reduceMul, Nat.reduceLeDiff, Nat.reduceLT, Nat.reduceBEq, Nat.reducePow, Int.reduceToNat, Int.reduceLE, Int.reduceLT, Int.reduceNeg, reduceCtorEq, Int.reduceEq, Int.reduceAdd, Int.reduceSub, Int.reduceMul, Nat.reduceSub, chanA, refA, stateA, ↓cmp_sum, isSumT, decide_eq_true_eq, Bool.and_self]))
  all_goals first
    | (refine (stR_no (fun h => ?_)).symm
       obtain ⟨a1, a2, a3, a4, a5, a6, a7⟩ := h
       first | omega | contradiction | (rename_i hx; exact absurd (a4.symm.trans hx) (by decide)) | (rename_i hx; exact absurd (a5.symm.trans hx) (by decide)))
    | (rename_i h1 h2 h3 h4 h5 h6
       by_cases h7 : (addF 0 [s.client, s.peer]).1 = c.cap
       · rw [decide_eq_true h7]; exact (stR_yes ⟨h1, by omega, by omega, h4, h5, h6, h7⟩).symm
       · rw [decide_eq_false h7]; exact (stR_no (fun h => h7 h.2.2.2.2.2.2)).symm)
    | trace_state
noncomputable def hashS (s : Sum) : Sum := joinS 31 [s.b]
theorem lhash_spec (nx t : Nat) (a : List UInt8) (ha : a.length < 2 ^ 39) (ht : t < 2 ∨ t - 2 < nx) : FnSpec Tryz.prog 161 nx [.sl 1 (u8s a) t] [] (sumA (joinS 31 [a])) [] 0 := by
  have hj := fun nc (h : nx ≤ nc) => join1_spec nc 1 t 31 a ha (by omega) (by omega)
  refine FnSpec.of_code (cx := cx) (an := {}) (rs := [.cell 2 23]) mo Tryz.func161 rfl rfl (by kernel_rfl) (by kernel_rfl) (by show 1 ≤ _; decide) (.inl rfl) (by simp [allWr, keys, Res.wr]) ?_
  repeat' (first | omega | assumption | (show AL.ahead _ _ _ = true; rfl) | refine brF (fun _ => ?_) (fun _ => ?_) | refine brT (fun _ => ?_) (fun _ => ?_) | refine brVF (fun _ => ?_) (fun _ => ?_) | refine brVT (fun _ => ?_) (fun _ => ?_) | (with_reducible refine And.intro ?_ ?_) | (refine callK_by (hj _ (by omega)) ?_) | (simp -dsimp -implicitDefEqProofs only [go_sem, ↓reduceIte, Nat.reduceEqDiff, Nat.reduceAdd, Nat.reduceMul, Nat.reduceLeDiff, Nat.reduceLT, Nat.reduceBEq, Nat.reducePow, Int.reduceToNat, Int.reduceLE, Int.reduceLT, Int.reduceNeg, reduceCtorEq, Int.reduceEq, Int.reduceAdd, Int.reduceSub, Int.reduceMul, Nat.reduceSub]))
  all_goals trace_state
theorem shash_spec (nx : Nat) (s : Sum) : FnSpec Tryz.prog 209 nx [sumA s] [] (sumA (hashS s)) [] 0 := by
  have hl := s.h
  refine FnSpec.of_code (cx := cx) (an := {}) (rs := [.cell 2 23]) mo Tryz.func209 rfl rfl (by kernel_rfl) (by kernel_rfl) (by show 1 ≤ _; decide) (.inl rfl) (by simp [allWr, keys, Res.wr]) ?_
  repeat' (first | omega | assumption | (show AL.ahead _ _ _ = true; rfl) | refine brF (fun _ => ?_) (fun _ => ?_) | refine brT (fun _ => ?_) (fun _ => ?_) | refine brVF (fun _ => ?_) (fun _ => ?_) | refine brVT (fun _ => ?_) (fun _ => ?_) | (with_reducible refine And.intro ?_ ?_) | (refine callK_by (lhash_spec _ 1 s.b (by omega) (by omega)) ?_) | (simp -dsimp -implicitDefEqProofs only [go_sem, ↓reduceIte, Nat.reduceEqDiff, Nat.reduceAdd, Nat.reduceMul, Nat.reduceLeDiff, Nat.reduceLT, Nat.reduceBEq, Nat.reducePow, Int.reduceToNat, Int.reduceLE, Int.reduceLT, Int.reduceNeg, reduceCtorEq, Int.reduceEq, Int.reduceAdd, Int.reduceSub, Int.reduceMul, Nat.reduceSub, take32, hashS]))
  all_goals trace_state
end Go.Proofs.YthfoeaokfhbdaaaGreat

/-
  A channel's bytes are read as it was, and what is read is whose bytes they are: in plain lists.
-/
set_option linter.unusedSimpArgs false
set_option linter.unusedVariables false
set_option maxHeartbeats 1000000
namespace Go.Proofs.YthfoeaokfhbdaaaGreat
open Go Go.AL
theorem toNat_ofNat {n : Nat} (h : n < 256) : (UInt8.ofNat n).toNat = n := by
  rw [UInt8.toNat_ofNat']; omega
theorem getN_num : ∀ (k i v x : Nat) (rest : List UInt8), x < 128 ^ k → (0 < x ∨ (i = 0 ∧ 0 < k)) → getN k i v (numN x ++ rest) = .ok (v + x * 128 ^ i) rest
  | 0, i, v, x, rest, h, h2 => by
    have : x = 0 := by simpa using h
    omega
  | k + 1, i, v, x, rest, h, h2 => by
    by_cases hx : x < 128
    · rw [numN_small hx]
      simp only [List.cons_append, List.nil_append, getN, toNat_ofNat (show x < 256 by omega)]
      rw [if_pos hx, if_neg (by omega), Nat.mod_eq_of_lt hx]
    · rw [numN_big hx]
      simp only [List.cons_append, getN, toNat_ofNat (show x % 128 + 128 < 256 by omega)]
      rw [if_neg (by omega), getN_num k (i + 1) _ (x / 128) rest (by rw [Nat.pow_succ] at h; exact Nat.div_lt_of_lt_mul (by rw [Nat.mul_comm]; exact h)) (by omega)]
      congr 1
      rw [Nat.add_mod_right, Nat.mod_mod, Nat.pow_succ]
      have := Nat.div_add_mod x 128
      calc v + x % 128 * 128 ^ i + x / 128 * (128 ^ i * 128) = v + (128 * (x / 128) + x % 128) * 128 ^ i := by
            rw [Nat.add_mul, Nat.mul_comm 128 (x / 128), Nat.mul_assoc, Nat.mul_comm 128 (128 ^ i)]; omega
        _ = v + x * 128 ^ i := by rw [this]
theorem getN_inv : ∀ (k i v : Nat) (bs : List UInt8) (w : Nat) (r : List UInt8), getN k i v bs = .ok w r → ∃ x, w = v + x * 128 ^ i ∧ bs = numN x ++ r ∧ x < 128 ^ k ∧ (0 < x ∨ i = 0)
  | 0, _, _, _, _, _, h => by simp [getN] at h
  | _ + 1, _, _, [], _, _, h => by simp [getN] at h
  | k + 1, i, v, c :: bs, w, r, h => by
    have hc := c.toNat_lt
    have h128 : 1 ≤ 128 ^ k := Nat.one_le_pow _ _ (by omega)
    simp only [getN] at h
    split at h
    · rename_i h1
      split at h
      · cases h
      · rename_i h2
        injection h with h3 h4
        subst h4
        refine ⟨c.toNat, by rw [← h3, Nat.mod_eq_of_lt h1], ?_, by rw [Nat.pow_succ]; omega, by omega⟩
        rw [numN_small h1]
        simp
    · rename_i h1
      obtain ⟨x, e1, e2, e3, e4⟩ := getN_inv k (i + 1) _ bs w r h
      have hd : (x * 128 + c.toNat % 128) / 128 = x := by omega
      have hm : (x * 128 + c.toNat % 128) % 128 = c.toNat % 128 := by omega
      have hx0 : 0 < x := by omega
      refine ⟨x * 128 + c.toNat % 128, ?_, ?_, by rw [Nat.pow_succ]; omega, .inl (by omega)⟩
      · rw [e1, Nat.pow_succ, Nat.add_mul]
        have : x * (128 ^ i * 128) = x * 128 * 128 ^ i := by rw [Nat.mul_assoc, Nat.mul_comm (128 ^ i) 128]
        omega
      · rw [numN_big (by omega), hd, hm, e2]
        have : c.toNat % 128 + 128 = c.toNat := by omega
        rw [this]
        simp

/-! ### one number -/
theorem numV_of {n : Int} (h0 : 0 ≤ n) (h1 : n < 2 ^ 63) : numV n = n.toNat := by
  simp only [numV, IntKind.wrap_u64]; omega
theorem numS_num {n : Int} (h0 : 0 ≤ n) (h1 : n < 2 ^ 63) (rest : List UInt8) : numS ⟨numI n ++ rest, 0⟩ = (n.toNat, ⟨rest, 0⟩) := by
  have h := getN_num 9 0 0 n.toNat rest (by omega) (.inr ⟨rfl, by omega⟩)
  simp only [numS, numI, numV_of h0 h1, h, if_true]
  simp
theorem uptoS_num {n m : Int} (h0 : 0 ≤ n) (h1 : n < 2 ^ 63) (hm : n ≤ m) (rest : List UInt8) : uptoS ⟨numI n ++ rest, 0⟩ m = (n, ⟨rest, 0⟩) := by
  have e : ((n.toNat : Nat) : Int) = n := by omega
  have hm' : ¬ m < n := by omega
  simp [uptoS, numS_num h0 h1, e, hm']
theorem numS_inv {s : ES} {v : Nat} {t : ES} (h : numS s = (v, t)) (ht : t.e = 0) : s.e = 0 ∧ s.b = numI v ++ t.b ∧ v < 2 ^ 63 := by
  simp only [numS] at h
  split at h
  · rename_i h0
    split at h
    · rename_i w r hg
      injection h with e1 e2
      subst e1 e2
      obtain ⟨x, q1, q2, q3, _⟩ := getN_inv _ _ _ _ _ _ hg
      simp at q1
      subst q1
      have hx : w < 2 ^ 63 := by omega
      refine ⟨h0, ?_, hx⟩
      rw [numI, numV_of (by omega) (by omega)]
      simpa using q2
    · rename_i c hg
      injection h with e1 e2
      subst e2
      simp only at ht
      -- an error's number is none
      exfalso
      have : ∀ (k i v : Nat) (bs : List UInt8) (c : Int), getN k i v bs = .err c → c ≠ 0 := by
        intro k
        induction k with
        | zero => intro i v bs c h; simp [getN] at h; omega
        | succ k ih =>
          intro i v bs c h
          cases bs with
          | nil => simp [getN] at h; omega
          | cons a bs =>
            simp only [getN] at h
            split at h
            · split at h
              · injection h with h; omega
              · cases h
            · exact ih _ _ _ _ h
      exact this _ _ _ _ _ hg ht
  · rename_i h0
    injection h with e1 e2
    subst e2
    exact absurd ht h0
theorem failS_e {s : ES} {c : Int} (hc : c ≠ 0) : (failS s c).e ≠ 0 := by
  simp only [failS]
  split
  · exact hc
  · assumption
theorem uptoS_inv {s : ES} {m n : Int} {t : ES} (h : uptoS s m = (n, t)) (ht : t.e = 0) : s.e = 0 ∧ s.b = numI n ++ t.b ∧ 0 ≤ n ∧ n ≤ m ∧ n < 2 ^ 63 := by
  simp only [uptoS] at h
  split at h
  · rename_i h1
    split at h
    · rename_i h2; exact absurd h2 (failS_e (by omega))
    · rename_i h2; injection h with e1 e2; subst e2; exact absurd ht h2
  · rename_i h1
    split at h
    · rename_i h2
      injection h with e1 e2
      subst e1 e2
      obtain ⟨q1, q2, q3⟩ := numS_inv (s := s) (v := (numS s).1) (t := (numS s).2) rfl ht
      exact ⟨q1, q2, by omega, by omega, by omega⟩
    · rename_i h2; injection h with e1 e2; subst e2; exact absurd ht h2
theorem esumS_num (s : Sum) (rest : List UInt8) : esumS ⟨s.b ++ rest, 0⟩ = (s, ⟨rest, 0⟩) := by
  have hl := s.h
  have h1 : rawS ⟨s.b ++ rest, 0⟩ 32 = (s.b, ⟨rest, 0⟩) := by
    simp only [rawS, if_true]
    rw [if_neg (by simp; omega)]
    have e : (32 : Int).toNat = s.b.length := by rw [hl]; rfl
    rw [e]; simp
  simp only [esumS, h1]
  congr 1
  unfold sumOf
  rw [dif_pos hl]
theorem esumS_inv {s t : ES} {q : Sum} (h : esumS s = (q, t)) (ht : t.e = 0) : s.e = 0 ∧ s.b = q.b ++ t.b := by
  simp only [esumS, rawS] at h
  split at h
  · rename_i h1
    split at h
    · injection h with e1 e2; subst e2; exact absurd ht (failS_e (by omega))
    · rename_i h2
      injection h with e1 e2
      subst e1 e2
      refine ⟨h1, ?_⟩
      have hl : (s.b.take (32 : Int).toNat).length = 32 := by rw [List.length_take]; omega
      unfold sumOf
      rw [dif_pos hl]
      simp
  · rename_i h1
    injection h with e1 e2
    subst e2
    exact absurd ht h1
/-- a channel, read -/
def readC (b : List UInt8) : Chan × Int :=
  let a := uptoS ⟨b, 0⟩ 1048576
  let c := uptoS a.2 255
  let p := uptoS c.2 255
  let t := esumS p.2
  let i := uptoS t.2 16
  let k := uptoS i.2 1125899906842624
  let w := uptoS k.2 1073741824
  let v := uptoS w.2 1073741824
  (⟨a.1, c.1, p.1, ⟨t.1, i.1⟩, k.1, w.1, v.1⟩, doneS v.2)
theorem chanL_app (c : Chan) : chanL c = numI c.id ++ (numI c.client ++ (numI c.peer ++ (c.fund.tx.b ++ (numI c.fund.at_ ++ (numI c.cap ++ (numI c.wait ++ (numI c.window ++ []))))))) := by
  simp [chanL]
theorem readC_put (c : Chan) (h : chanR c) : readC (chanL c) = (c, 0) := by
  obtain ⟨h1, h2, h3, h4, h5, h6, h7, h8, h9, h10, h11, h12, h13, h14, h15⟩ := h
  rw [chanL_app]
  simp only [readC]
  rw [uptoS_num h1 (by omega) h2]
  simp only
  rw [uptoS_num h3 (by omega) h4]
  simp only
  rw [uptoS_num h5 (by omega) h6]
  simp only
  rw [esumS_num]
  simp only
  rw [uptoS_num h14 (by omega) (by omega)]
  simp only
  rw [uptoS_num h9 (by omega) h10]
  simp only
  rw [uptoS_num (n := c.wait) (by omega) (by omega) (by omega)]
  simp only
  rw [uptoS_num (n := c.window) (by omega) (by omega) (by omega)]
  rfl
theorem readC_inv {b : List UInt8} {c : Chan} (h : readC b = (c, 0)) : chanL c = b := by
  simp only [readC] at h
  injection h with h1 h2
  generalize ha : uptoS ⟨b, 0⟩ 1048576 = a at *
  generalize hc : uptoS a.2 255 = cc at *
  generalize hp : uptoS cc.2 255 = p at *
  generalize ht : esumS p.2 = t at *
  generalize hi : uptoS t.2 16 = i at *
  generalize hk : uptoS i.2 1125899906842624 = k at *
  generalize hw : uptoS k.2 1073741824 = w at *
  generalize hv : uptoS w.2 1073741824 = v at *
  have hd : v.2.e = 0 ∧ v.2.b = [] := by
    simp only [doneS] at h2
    split at h2
    · omega
    · rename_i q
      refine ⟨h2, ?_⟩
      rcases Nat.eq_zero_or_pos v.2.b.length with z | z
      · exact List.eq_nil_of_length_eq_zero z
      · exact absurd ⟨h2, z⟩ q
  obtain ⟨v1, v2, v3, v4, v5⟩ := uptoS_inv (n := v.1) (t := v.2) hv hd.1
  obtain ⟨w1, w2, w3, w4, w5⟩ := uptoS_inv (n := w.1) (t := w.2) hw v1
  obtain ⟨k1, k2, k3, k4, k5⟩ := uptoS_inv (n := k.1) (t := k.2) hk w1
  obtain ⟨i1, i2, i3, i4, i5⟩ := uptoS_inv (n := i.1) (t := i.2) hi k1
  obtain ⟨t1, t2⟩ := esumS_inv (q := t.1) (t := t.2) ht i1
  obtain ⟨p1, p2, p3, p4, p5⟩ := uptoS_inv (n := p.1) (t := p.2) hp t1
  obtain ⟨c1, c2, c3, c4, c5⟩ := uptoS_inv (n := cc.1) (t := cc.2) hc p1
  obtain ⟨a1, a2, a3, a4, a5⟩ := uptoS_inv (n := a.1) (t := a.2) ha c1
  rw [← h1, chanL_app]
  simp only
  simp only at a2
  rw [a2, c2, p2, t2, i2, k2, w2, v2, hd.2]
/-- what ReadChannel answers -/
def chanZ0 : Chan := ⟨0, 0, 0, ⟨zeroS, 0⟩, 0, 0, 0⟩
noncomputable def rdC (b : List UInt8) : Chan × Int := if (readC b).2 = 0 then (@ite _ (chanR (readC b).1) (Classical.propDecidable _) ((readC b).1, 0) (chanZ0, 4)) else (chanZ0, (readC b).2)
end Go.Proofs.YthfoeaokfhbdaaaGreat

/-
  Signatures read: wire.Eye.Sum, many.read.
-/
import Derived.Test.YtjcnhgmaabkelaaBP42
set_option linter.unusedSimpArgs false
set_option linter.unusedVariables false
set_option maxRecDepth 100000
set_option maxHeartbeats 1000000
namespace Go.Proofs.Ytjcnhgmaabkelaa
open Go Go.AL Go.Proofs.Ytjcnhgmaabkelaa.T
attribute [local go_sem] nb_u8s u8s_length nb_sum sumA List.length_replicate u8_wrap take32 List.drop_zero zero_sum sum_h nb_eye u8s_nil sums_len nb_sums
def sumOf (l : List UInt8) : Sum := if h : l.length = 32 then ⟨l, h⟩ else zeroS
def esumS (s : ES) : Sum × ES := (sumOf (rawS s 32).1, (rawS s 32).2)
theorem rawS_32 (s : ES) : (rawS s 32).1.length = 32 ∨ (rawS s 32).1 = [] := by
  unfold rawS
  split
  · split
    · exact .inr rfl
    · rename_i h; left; rw [List.length_take]; omega
  · exact .inr rfl
theorem range_full (l : List UInt8) (h : l.length = 32) : setRange (u8s zeroS.b) 0 (u8s l) = u8s (sumOf l).b := by
  unfold sumOf
  rw [dif_pos h]
  unfold setRange
  rw [List.take_zero, List.nil_append, List.drop_eq_nil_of_le (by rw [u8s_length, u8s_length, zeroS.h]; omega), List.append_nil]
theorem range_none : setRange (u8s zeroS.b) 0 (u8s []) = u8s (sumOf []).b := by
  unfold sumOf
  rw [dif_neg (by simp)]
  unfold setRange
  rw [u8s_nil, List.take_zero, List.nil_append, List.length_nil, Nat.zero_add, List.drop_zero, List.nil_append]
theorem rawS_set (s : ES) : setRange (u8s zeroS.b) 0 (u8s (rawS s 32).1) = u8s (esumS s).1.b := by
  unfold esumS
  rcases rawS_32 s with h | h
  · exact range_full _ h
  · simp only [h]; exact range_none
theorem rawS_le (s : ES) : (rawS s 32).1.length ≤ 32 := by
  rcases rawS_32 s with h | h
  · omega
  · rw [h]; simp
theorem esum_spec (nx m : Nat) (s : ES) (hm : m < nx) (hb : s.b.length < 2 ^ 40) : FnSpec Try.prog 113 nx [.ref m 0 []] [(m, some (.obj (eyeA s)))] (sumA (esumS s).1) [(m, some (.obj (eyeA (esumS s).2)))] 0 := by
  have x1 := fun k => lt_nx hm k
  have x2 := fun k => nx_gt hm k
  have hr := rawS_set s
  have hl := rawS_le s
  have e2 : (esumS s).2 = (rawS s 32).2 := rfl
  rw [e2]
  refine FnSpec.of_code (cx := cx) (an := {}) (rs := [.cell 2 23]) mo Try.func113 rfl rfl (by kernel_rfl) (by kernel_rfl) (by show 1 ≤ _; decide) (.inl rfl) (by simp [allWr, keys, Res.wr]) ?_
  repeat' (first | omega | assumption | (show AL.ahead _ _ _ = true; rfl) | refine brF (fun _ => ?_) (fun _ => ?_) | refine brT (fun _ => ?_) (fun _ => ?_) | refine brVF (fun _ => ?_) (fun _ => ?_) | refine brVT (fun _ => ?_) (fun _ => ?_) | (with_reducible refine And.intro ?_ ?_) | (refine callK_by (raw_spec _ m s 32 (by omega) (by omega)) ?_) | (simp -dsimp -implicitDefEqProofs only [go_sem, ↓reduceIte, Nat.reduceEqDiff, Nat.reduceAdd, Nat.reduceMul, Nat.reduceLeDiff, Nat.reduceLT, Nat.reduceBEq, Nat.reducePow, Int.reduceToNat, Int.reduceLE, Int.reduceLT, Int.reduceNeg, reduceCtorEq, Int.reduceEq, Int.reduceAdd, Int.reduceSub, Int.reduceMul, Nat.reduceSub, x1, x2, lt_nx0 hm, nx_gt0 hm, hr]))
  all_goals trace_state
theorem esumS_len (s : ES) : (esumS s).2.b.length ≤ s.b.length := rawS_len s 32
/-- sums that are read, one behind the other -/
def pathS (s : ES) : Nat → List Sum × ES
  | 0 => ([], s)
  | i + 1 => ((pathS s i).1 ++ [(esumS (pathS s i).2).1], (esumS (pathS s i).2).2)
theorem pathS_len (s : ES) : ∀ i, (pathS s i).1.length = i ∧ (pathS s i).2.b.length ≤ s.b.length
  | 0 => ⟨rfl, Nat.le_refl _⟩
  | i + 1 => by
    obtain ⟨h1, h2⟩ := pathS_len s i
    refine ⟨by simp [pathS, h1], Nat.le_trans (esumS_len _) h2⟩
structure Sig_ where
  at_ : Int
  leaves : Int
  path : List Sum
  one : List UInt8
  e : Int
def readS (b : List UInt8) : Sig_ :=
  let u := uptoS ⟨b, 0⟩ 64
  let v := uptoS u.2 64
  let k := uptoS v.2 8
  let p := pathS k.2 k.1.toNat
  let t := textS p.2 4096
  ⟨u.1, v.1, p.1, t.1, doneS t.2⟩
theorem uptoS_rng (s : ES) (most : Int) (hm : 0 ≤ most) : 0 ≤ (uptoS s most).1 ∧ (uptoS s most).1 ≤ most := by
  simp only [uptoS]
  by_cases h : most < ((numS s).1 : Int)
  · have hne : ¬ (failS (numS s).2 5).e = 0 := by
      unfold failS
      split
      · simp
      · assumption
    simp only [h, if_true, hne, if_false]
    exact ⟨Int.le_refl _, hm⟩
  · simp only [h, if_false]
    split
    · simp only; omega
    · simp only; omega
theorem read_spec (nx : Nat) (b : List UInt8) (hb : b.length < 2 ^ 40) :
    FnSpec Try.prog 107 nx [.sl 1 (u8s b) 0] [] (if (readS b).e = 0 then .tup [n64 (readS b).at_, n64 (readS b).leaves, .sl 32 (sumsA (readS b).path) 0, .sl 1 (u8s (readS b).one) 0, n64 0] else .tup [n64 0, n64 0, .sl 32 [] 0, .sl 0 [] 1, n64 (readS b).e]) [] 0 := by
  obtain ⟨u, hu⟩ : ∃ u, u = uptoS ⟨b, 0⟩ 64 := ⟨_, rfl⟩
  obtain ⟨v, hv⟩ : ∃ v, v = uptoS u.2 64 := ⟨_, rfl⟩
  obtain ⟨k, hk⟩ : ∃ k, k = uptoS v.2 8 := ⟨_, rfl⟩
  obtain ⟨q, hq⟩ : ∃ q, q = pathS k.2 k.1.toNat := ⟨_, rfl⟩
  obtain ⟨t, ht⟩ : ∃ t, t = textS q.2 4096 := ⟨_, rfl⟩
  have hr : readS b = ⟨u.1, v.1, q.1, t.1, doneS t.2⟩ := by rw [ht, hq, hk, hv, hu]; rfl
  have l1 := uptoS_len ⟨b, 0⟩ 64
  have l2 := uptoS_len u.2 64
  have l3 := uptoS_len v.2 8
  have l4 := pathS_len k.2 k.1.toNat
  have k8 := uptoS_rng v.2 8 (by decide)
  rw [← hu] at l1
  rw [← hv] at l2
  rw [← hk] at l3 k8
  rw [← hq] at l4
  simp only at l1
  rw [hr]
  simp only
  obtain ⟨kn, hkn⟩ : ∃ kn : Nat, k.1 = (kn : Int) := ⟨k.1.toNat, by omega⟩
  rw [hkn] at hq l4
  simp only [Int.toNat_natCast] at hq l4
  by_cases hd : doneS t.2 = 0
  · rw [if_pos hd]
    have key : FnSpec Try.prog 107 nx [.sl 1 (u8s b) 0] [] (.tup [n64 u.1, n64 v.1, .sl 32 (sumsA q.1) (nx + 19), .sl 1 (u8s t.1) 0, n64 0]) [(nx + 88, some (.obj (eyeA (if t.2.e = 0 ∧ 0 < t.2.b.length then ⟨t.2.b, 3⟩ else t.2)))), (nx + 17, some (.tail q.1.length))] 4000 := by
      refine FnSpec.of_code (cx := cx) (an := {tk := [(4, [([], 32)])]}) (rs := [.tmp 2, .tmp 3, .tmp 4, .tmp 5, .tmp 6]) mo Try.func107 rfl rfl (by kernel_rfl) (by kernel_rfl) (by show 1 ≤ _; decide) (.inr ⟨_, rfl, by simp [AV.good]⟩) (by simp [allWr, keys, Res.wr]) ?_
      repeat' (first | omega | assumption | (show AL.ahead _ _ _ = true; rfl) | refine brF (fun _ => ?_) (fun _ => ?_) | refine brT (fun _ => ?_) (fun _ => ?_) | refine brVF (fun _ => ?_) (fun _ => ?_) | refine brVT (fun _ => ?_) (fun _ => ?_) | (with_reducible refine And.intro ?_ ?_) | (refine callK_by (look_spec _ b) ?_) | (simp -dsimp -implicitDefEqProofs only [go_sem, ↓reduceIte, Nat.reduceEqDiff, Nat.reduceAdd, Nat.reduceMul, Nat.reduceLeDiff, Nat.reduceLT, Nat.reduceBEq, Nat.reducePow, Int.reduceToNat, Int.reduceLE, Int.reduceLT, Int.reduceNeg, reduceCtorEq, Int.reduceEq, Int.reduceAdd, Int.reduceSub, Int.reduceMul, Nat.reduceSub]))
      refine callK_by (upto_spec _ (nx + 88) ⟨b, 0⟩ 64 (by omega) (by simpa using hb)) ?_
      rw [← hu]
      repeat' (first | omega | assumption | (show AL.ahead _ _ _ = true; rfl) | refine brF (fun _ => ?_) (fun _ => ?_) | refine brT (fun _ => ?_) (fun _ => ?_) | refine brVF (fun _ => ?_) (fun _ => ?_) | refine brVT (fun _ => ?_) (fun _ => ?_) | (with_reducible refine And.intro ?_ ?_) | (simp -dsimp -implicitDefEqProofs only [go_sem, ↓reduceIte, Nat.reduceEqDiff, Nat.reduceAdd, Nat.reduceMul, Nat.reduceLeDiff, Nat.reduceLT, Nat.reduceBEq, Nat.reducePow, Int.reduceToNat, Int.reduceLE, Int.reduceLT, Int.reduceNeg, reduceCtorEq, Int.reduceEq, Int.reduceAdd, Int.reduceSub, Int.reduceMul, Nat.reduceSub]))
      refine callK_by (upto_spec _ (nx + 88) u.2 64 (by omega) (by omega)) ?_
      rw [← hv]
      repeat' (first | omega | assumption | (show AL.ahead _ _ _ = true; rfl) | refine brF (fun _ => ?_) (fun _ => ?_) | refine brT (fun _ => ?_) (fun _ => ?_) | refine brVF (fun _ => ?_) (fun _ => ?_) | refine brVT (fun _ => ?_) (fun _ => ?_) | (with_reducible refine And.intro ?_ ?_) | (simp -dsimp -implicitDefEqProofs only [go_sem, ↓reduceIte, Nat.reduceEqDiff, Nat.reduceAdd, Nat.reduceMul, Nat.reduceLeDiff, Nat.reduceLT, Nat.reduceBEq, Nat.reducePow, Int.reduceToNat, Int.reduceLE, Int.reduceLT, Int.reduceNeg, reduceCtorEq, Int.reduceEq, Int.reduceAdd, Int.reduceSub, Int.reduceMul, Nat.reduceSub]))
      refine callK_by (upto_spec _ (nx + 88) v.2 8 (by omega) (by omega)) ?_
      rw [← hk]
      repeat' (first | omega | assumption | (show AL.ahead _ _ _ = true; rfl) | refine brF (fun _ => ?_) (fun _ => ?_) | refine brT (fun _ => ?_) (fun _ => ?_) | refine brVF (fun _ => ?_) (fun _ => ?_) | refine brVT (fun _ => ?_) (fun _ => ?_) | (with_reducible refine And.intro ?_ ?_) | (simp -dsimp -implicitDefEqProofs only [go_sem, ↓reduceIte, Nat.reduceEqDiff, Nat.reduceAdd, Nat.reduceMul, Nat.reduceLeDiff, Nat.reduceLT, Nat.reduceBEq, Nat.reducePow, Int.reduceToNat, Int.reduceLE, Int.reduceLT, Int.reduceNeg, reduceCtorEq, Int.reduceEq, Int.reduceAdd, Int.reduceSub, Int.reduceMul, Nat.reduceSub]))
      apply loop_keep [2, 3, 7, 15] (fun i : { i : Nat // i ≤ kn } => [(4, .sl 32 (sumsA (pathS k.2 i.1).1) (nx + 19)), (16, n64 i.1)]) (fun i => [(nx + 88, some (.obj (eyeA (pathS k.2 i.1).2))), (nx + 17, some (.tail i.1))]) (fun i => kn - i.1) ⟨0, Nat.zero_le _⟩
      · simp -dsimp -implicitDefEqProofs only [go_sem, ↓reduceIte, Nat.reduceEqDiff, Nat.reduceAdd, Nat.reduceMul, Nat.reduceLeDiff, Nat.reduceLT, Nat.reduceBEq, Nat.reducePow, Int.reduceToNat, Int.reduceLE, Int.reduceLT, Int.reduceNeg, reduceCtorEq, Int.reduceEq, Int.reduceAdd, Int.reduceSub, Int.reduceMul, Nat.reduceSub]; try rfl
      · simp -dsimp -implicitDefEqProofs only [go_sem, ↓reduceIte, Nat.reduceEqDiff, Nat.reduceAdd, Nat.reduceMul, Nat.reduceLeDiff, Nat.reduceLT, Nat.reduceBEq, Nat.reducePow, Int.reduceToNat, Int.reduceLE, Int.reduceLT, Int.reduceNeg, reduceCtorEq, Int.reduceEq, Int.reduceAdd, Int.reduceSub, Int.reduceMul, Nat.reduceSub, pathS, sumsA, List.map_nil]; try rfl
      · simp -dsimp -implicitDefEqProofs only [go_sem, ↓reduceIte, Nat.reduceEqDiff, Nat.reduceAdd, Nat.reduceMul, Nat.reduceLeDiff, Nat.reduceLT, Nat.reduceBEq, Nat.reducePow, Int.reduceToNat, Int.reduceLE, Int.reduceLT, Int.reduceNeg, reduceCtorEq, Int.reduceEq, Int.reduceAdd, Int.reduceSub, Int.reduceMul, Nat.reduceSub, pathS]; try rfl
      · intro s
        simp -dsimp -implicitDefEqProofs only [go_sem, ↓reduceIte, Nat.reduceEqDiff, Nat.reduceAdd, Nat.reduceMul, Nat.reduceLeDiff, Nat.reduceLT, Nat.reduceBEq, Nat.reducePow, Int.reduceToNat, Int.reduceLE, Int.reduceLT, Int.reduceNeg, reduceCtorEq, Int.reduceEq, Int.reduceAdd, Int.reduceSub, Int.reduceMul, Nat.reduceSub]
        try omega
      · rintro ⟨i, hi⟩
        have hi : i ≤ kn := hi
        have hpl := pathS_len k.2 i
        simp -dsimp -implicitDefEqProofs only [go_sem, ↓reduceIte, Nat.reduceEqDiff, Nat.reduceAdd, Nat.reduceMul, Nat.reduceLeDiff, Nat.reduceLT, Nat.reduceBEq, Nat.reducePow, Int.reduceToNat, Int.reduceLE, Int.reduceLT, Int.reduceNeg, reduceCtorEq, Int.reduceEq, Int.reduceAdd, Int.reduceSub, Int.reduceMul, Nat.reduceSub, hkn]
        refine brT (fun h => ?_) (fun h => ?_)
        · have hi2 : i < kn := by omega
          have w1 : IntKind.i64.wrap ((i : Int) + 1) = ((i + 1 : Nat) : Int) := wrapE (by omega) (by omega)
          have e1 : pathS k.2 (i + 1) = ((pathS k.2 i).1 ++ [(esumS (pathS k.2 i).2).1], (esumS (pathS k.2 i).2).2) := rfl
          repeat' (first | omega | assumption | (show AL.ahead _ _ _ = true; rfl) | refine brF (fun _ => ?_) (fun _ => ?_) | refine brT (fun _ => ?_) (fun _ => ?_) | refine brVF (fun _ => ?_) (fun _ => ?_) | refine brVT (fun _ => ?_) (fun _ => ?_) | (with_reducible refine And.intro ?_ ?_) | (refine callK_by (esum_spec _ (nx + 88) (pathS k.2 i).2 (by omega) (by omega)) ?_) | (simp -dsimp -implicitDefEqProofs only [go_sem, ↓reduceIte, Nat.reduceEqDiff, Nat.reduceAdd, Nat.reduceMul, Nat.reduceLeDiff, Nat.reduceLT, Nat.reduceBEq, Nat.reducePow, Int.reduceToNat, Int.reduceLE, Int.reduceLT, Int.reduceNeg, reduceCtorEq, Int.reduceEq, Int.reduceAdd, Int.reduceSub, Int.reduceMul, Nat.reduceSub, w1, sums_snoc, hpl.1]))
          exact ⟨⟨i + 1, hi2⟩, by show kn - (i + 1) < kn - i; omega, ⟨by rw [e1], rfl, by rw [hkn]⟩, rfl, rfl⟩
        · have e : i = kn := by omega
          subst e
          repeat' (first | omega | assumption | (show AL.ahead _ _ _ = true; rfl) | refine brF (fun _ => ?_) (fun _ => ?_) | refine brT (fun _ => ?_) (fun _ => ?_) | refine brVF (fun _ => ?_) (fun _ => ?_) | refine brVT (fun _ => ?_) (fun _ => ?_) | (with_reducible refine And.intro ?_ ?_) | (refine callK_by (etext_spec _ (nx + 88) q.2 4096 (by omega) (by omega)) ?_) | (refine callK_by (done_spec _ (nx + 88) t.2 (by omega)) ?_) | (simp -dsimp -implicitDefEqProofs only [go_sem, ↓reduceIte, Nat.reduceEqDiff, Nat.reduceAdd, Nat.reduceMul, Nat.reduceLeDiff, Nat.reduceLT, Nat.reduceBEq, Nat.reducePow, Int.reduceToNat, Int.reduceLE, Int.reduceLT, Int.reduceNeg, reduceCtorEq, Int.reduceEq, Int.reduceAdd, Int.reduceSub, Int.reduceMul, Nat.reduceSub, ← hq, ← ht]))
          all_goals rw [l4.1]

    exact (key.outle (av' := .tup [n64 u.1, n64 v.1, .sl 32 (sumsA q.1) 0, .sl 1 (u8s t.1) 0, n64 0]) ⟨_, _, rfl, AV.le_refl _, _, _, rfl, AV.le_refl _, _, _, rfl, ⟨_, _, rfl, AV.les_refl _, .inr (.inl rfl)⟩, AV.les_refl _⟩).forget0 ⟨rfl, fun i x y h1 h2 => .inl (by rw [h1] at h2; exact Option.some.inj h2)⟩ (by simp [AV.nb, AV.nbs, nb_u8s, nb_sums]) (by simp [keys])
  · rw [if_neg hd]
    have key : FnSpec Try.prog 107 nx [.sl 1 (u8s b) 0] [] (.tup [n64 0, n64 0, .sl 32 [] (nx + 260), .sl 0 [] 1, n64 (doneS t.2)]) [(nx + 88, some (.obj (eyeA (if t.2.e = 0 ∧ 0 < t.2.b.length then ⟨t.2.b, 3⟩ else t.2)))), (nx + 17, some (.tail q.1.length)), (nx + 258, some (.tail 0))] 4000 := by
      refine FnSpec.of_code (cx := cx) (an := {tk := [(4, [([], 32)])]}) (rs := [.tmp 2, .tmp 3, .tmp 4, .tmp 5, .tmp 6]) mo Try.func107 rfl rfl (by kernel_rfl) (by kernel_rfl) (by show 1 ≤ _; decide) (.inr ⟨_, rfl, by simp [AV.good]⟩) (by simp [allWr, keys, Res.wr]) ?_
      repeat' (first | omega | assumption | (show AL.ahead _ _ _ = true; rfl) | refine brF (fun _ => ?_) (fun _ => ?_) | refine brT (fun _ => ?_) (fun _ => ?_) | refine brVF (fun _ => ?_) (fun _ => ?_) | refine brVT (fun _ => ?_) (fun _ => ?_) | (with_reducible refine And.intro ?_ ?_) | (refine callK_by (look_spec _ b) ?_) | (simp -dsimp -implicitDefEqProofs only [go_sem, ↓reduceIte, Nat.reduceEqDiff, Nat.reduceAdd, Nat.reduceMul, Nat.reduceLeDiff, Nat.reduceLT, Nat.reduceBEq, Nat.reducePow, Int.reduceToNat, Int.reduceLE, Int.reduceLT, Int.reduceNeg, reduceCtorEq, Int.reduceEq, Int.reduceAdd, Int.reduceSub, Int.reduceMul, Nat.reduceSub]))
      refine callK_by (upto_spec _ (nx + 88) ⟨b, 0⟩ 64 (by omega) (by simpa using hb)) ?_
      rw [← hu]
      repeat' (first | omega | assumption | (show AL.ahead _ _ _ = true; rfl) | refine brF (fun _ => ?_) (fun _ => ?_) | refine brT (fun _ => ?_) (fun _ => ?_) | refine brVF (fun _ => ?_) (fun _ => ?_) | refine brVT (fun _ => ?_) (fun _ => ?_) | (with_reducible refine And.intro ?_ ?_) | (simp -dsimp -implicitDefEqProofs only [go_sem, ↓reduceIte, Nat.reduceEqDiff, Nat.reduceAdd, Nat.reduceMul, Nat.reduceLeDiff, Nat.reduceLT, Nat.reduceBEq, Nat.reducePow, Int.reduceToNat, Int.reduceLE, Int.reduceLT, Int.reduceNeg, reduceCtorEq, Int.reduceEq, Int.reduceAdd, Int.reduceSub, Int.reduceMul, Nat.reduceSub]))
      refine callK_by (upto_spec _ (nx + 88) u.2 64 (by omega) (by omega)) ?_
      rw [← hv]
      repeat' (first | omega | assumption | (show AL.ahead _ _ _ = true; rfl) | refine brF (fun _ => ?_) (fun _ => ?_) | refine brT (fun _ => ?_) (fun _ => ?_) | refine brVF (fun _ => ?_) (fun _ => ?_) | refine brVT (fun _ => ?_) (fun _ => ?_) | (with_reducible refine And.intro ?_ ?_) | (simp -dsimp -implicitDefEqProofs only [go_sem, ↓reduceIte, Nat.reduceEqDiff, Nat.reduceAdd, Nat.reduceMul, Nat.reduceLeDiff, Nat.reduceLT, Nat.reduceBEq, Nat.reducePow, Int.reduceToNat, Int.reduceLE, Int.reduceLT, Int.reduceNeg, reduceCtorEq, Int.reduceEq, Int.reduceAdd, Int.reduceSub, Int.reduceMul, Nat.reduceSub]))
      refine callK_by (upto_spec _ (nx + 88) v.2 8 (by omega) (by omega)) ?_
      rw [← hk]
      repeat' (first | omega | assumption | (show AL.ahead _ _ _ = true; rfl) | refine brF (fun _ => ?_) (fun _ => ?_) | refine brT (fun _ => ?_) (fun _ => ?_) | refine brVF (fun _ => ?_) (fun _ => ?_) | refine brVT (fun _ => ?_) (fun _ => ?_) | (with_reducible refine And.intro ?_ ?_) | (simp -dsimp -implicitDefEqProofs only [go_sem, ↓reduceIte, Nat.reduceEqDiff, Nat.reduceAdd, Nat.reduceMul, Nat.reduceLeDiff, Nat.reduceLT, Nat.reduceBEq, Nat.reducePow, Int.reduceToNat, Int.reduceLE, Int.reduceLT, Int.reduceNeg, reduceCtorEq, Int.reduceEq, Int.reduceAdd, Int.reduceSub, Int.reduceMul, Nat.reduceSub]))
      apply loop_keep [2, 3, 7, 15] (fun i : { i : Nat // i ≤ kn } => [(4, .sl 32 (sumsA (pathS k.2 i.1).1) (nx + 19)), (16, n64 i.1)]) (fun i => [(nx + 88, some (.obj (eyeA (pathS k.2 i.1).2))), (nx + 17, some (.tail i.1))]) (fun i => kn - i.1) ⟨0, Nat.zero_le _⟩
      · simp -dsimp -implicitDefEqProofs only [go_sem, ↓reduceIte, Nat.reduceEqDiff, Nat.reduceAdd, Nat.reduceMul, Nat.reduceLeDiff, Nat.reduceLT, Nat.reduceBEq, Nat.reducePow, Int.reduceToNat, Int.reduceLE, Int.reduceLT, Int.reduceNeg, reduceCtorEq, Int.reduceEq, Int.reduceAdd, Int.reduceSub, Int.reduceMul, Nat.reduceSub]; try rfl
      · simp -dsimp -implicitDefEqProofs only [go_sem, ↓reduceIte, Nat.reduceEqDiff, Nat.reduceAdd, Nat.reduceMul, Nat.reduceLeDiff, Nat.reduceLT, Nat.reduceBEq, Nat.reducePow, Int.reduceToNat, Int.reduceLE, Int.reduceLT, Int.reduceNeg, reduceCtorEq, Int.reduceEq, Int.reduceAdd, Int.reduceSub, Int.reduceMul, Nat.reduceSub, pathS, sumsA, List.map_nil]; try rfl
      · simp -dsimp -implicitDefEqProofs only [go_sem, ↓reduceIte, Nat.reduceEqDiff, Nat.reduceAdd, Nat.reduceMul, Nat.reduceLeDiff, Nat.reduceLT, Nat.reduceBEq, Nat.reducePow, Int.reduceToNat, Int.reduceLE, Int.reduceLT, Int.reduceNeg, reduceCtorEq, Int.reduceEq, Int.reduceAdd, Int.reduceSub, Int.reduceMul, Nat.reduceSub, pathS]; try rfl
      · intro s
        simp -dsimp -implicitDefEqProofs only [go_sem, ↓reduceIte, Nat.reduceEqDiff, Nat.reduceAdd, Nat.reduceMul, Nat.reduceLeDiff, Nat.reduceLT, Nat.reduceBEq, Nat.reducePow, Int.reduceToNat, Int.reduceLE, Int.reduceLT, Int.reduceNeg, reduceCtorEq, Int.reduceEq, Int.reduceAdd, Int.reduceSub, Int.reduceMul, Nat.reduceSub]
        try omega
      · rintro ⟨i, hi⟩
        have hi : i ≤ kn := hi
        have hpl := pathS_len k.2 i
        simp -dsimp -implicitDefEqProofs only [go_sem, ↓reduceIte, Nat.reduceEqDiff, Nat.reduceAdd, Nat.reduceMul, Nat.reduceLeDiff, Nat.reduceLT, Nat.reduceBEq, Nat.reducePow, Int.reduceToNat, Int.reduceLE, Int.reduceLT, Int.reduceNeg, reduceCtorEq, Int.reduceEq, Int.reduceAdd, Int.reduceSub, Int.reduceMul, Nat.reduceSub, hkn]
        refine brT (fun h => ?_) (fun h => ?_)
        · have hi2 : i < kn := by omega
          have w1 : IntKind.i64.wrap ((i : Int) + 1) = ((i + 1 : Nat) : Int) := wrapE (by omega) (by omega)
          have e1 : pathS k.2 (i + 1) = ((pathS k.2 i).1 ++ [(esumS (pathS k.2 i).2).1], (esumS (pathS k.2 i).2).2) := rfl
          repeat' (first | omega | assumption | (show AL.ahead _ _ _ = true; rfl) | refine brF (fun _ => ?_) (fun _ => ?_) | refine brT (fun _ => ?_) (fun _ => ?_) | refine brVF (fun _ => ?_) (fun _ => ?_) | refine brVT (fun _ => ?_) (fun _ => ?_) | (with_reducible refine And.intro ?_ ?_) | (refine callK_by (esum_spec _ (nx + 88) (pathS k.2 i).2 (by omega) (by omega)) ?_) | (simp -dsimp -implicitDefEqProofs only [go_sem, ↓reduceIte, Nat.reduceEqDiff, Nat.reduceAdd, Nat.reduceMul, Nat.reduceLeDiff, Nat.reduceLT, Nat.reduceBEq, Nat.reducePow, Int.reduceToNat, Int.reduceLE, Int.reduceLT, Int.reduceNeg, reduceCtorEq, Int.reduceEq, Int.reduceAdd, Int.reduceSub, Int.reduceMul, Nat.reduceSub, w1, sums_snoc, hpl.1]))
          exact ⟨⟨i + 1, hi2⟩, by show kn - (i + 1) < kn - i; omega, ⟨by rw [e1], rfl, by rw [hkn]⟩, rfl, rfl⟩
        · have e : i = kn := by omega
          subst e
          repeat' (first | omega | assumption | (show AL.ahead _ _ _ = true; rfl) | refine brF (fun _ => ?_) (fun _ => ?_) | refine brT (fun _ => ?_) (fun _ => ?_) | refine brVF (fun _ => ?_) (fun _ => ?_) | refine brVT (fun _ => ?_) (fun _ => ?_) | (with_reducible refine And.intro ?_ ?_) | (refine callK_by (etext_spec _ (nx + 88) q.2 4096 (by omega) (by omega)) ?_) | (refine callK_by (done_spec _ (nx + 88) t.2 (by omega)) ?_) | (simp -dsimp -implicitDefEqProofs only [go_sem, ↓reduceIte, Nat.reduceEqDiff, Nat.reduceAdd, Nat.reduceMul, Nat.reduceLeDiff, Nat.reduceLT, Nat.reduceBEq, Nat.reducePow, Int.reduceToNat, Int.reduceLE, Int.reduceLT, Int.reduceNeg, reduceCtorEq, Int.reduceEq, Int.reduceAdd, Int.reduceSub, Int.reduceMul, Nat.reduceSub, ← hq, ← ht]))
          all_goals rw [l4.1]

    exact (key.outle (av' := .tup [n64 0, n64 0, .sl 32 [] 0, .sl 0 [] 1, n64 (doneS t.2)]) ⟨_, _, rfl, AV.le_refl _, _, _, rfl, AV.le_refl _, _, _, rfl, ⟨_, _, rfl, AV.les_refl _, .inr (.inl rfl)⟩, AV.les_refl _⟩).forget0 ⟨rfl, fun i x y h1 h2 => .inl (by rw [h1] at h2; exact Option.some.inj h2)⟩ (by simp [AV.nb, AV.nbs, nb_u8s]) (by simp [keys])
end Go.Proofs.Ytjcnhgmaabkelaa

/-
  The key that a signature leads back to: lamport.Digest, bit, Back.
-/
set_option linter.unusedSimpArgs false
set_option linter.unusedVariables false
set_option maxRecDepth 100000
set_option maxHeartbeats 1000000
namespace Go.Proofs.Ytjcnhgmaabkelaa
open Go Go.AL Go.Proofs.Ytjcnhgmaabkelaa.T
attribute [local go_sem] nb_u8s u8s_length nb_sum sumA List.length_replicate u8_wrap take32 List.drop_zero zero_sum sum_h u8s_nil sums_len nb_sums u8s_app
theorem digest_spec (nx t : Nat) (a : List UInt8) (ha : a.length < 2 ^ 39) (ht : t < 2 ∨ t - 2 < nx) : FnSpec Try.prog 116 nx [.sl 1 (u8s a) t] [] (sumA (joinS 14 [a])) [] 0 := by
  have hj := fun nc (h : nx ≤ nc) => join1_spec nc 1 t 14 a ha (by omega) (by omega)
  refine FnSpec.of_code (cx := cx) (an := {}) (rs := [.cell 2 23]) mo Try.func116 rfl rfl (by kernel_rfl) (by kernel_rfl) (by show 1 ≤ _; decide) (.inl rfl) (by simp [allWr, keys, Res.wr]) ?_
  repeat' (first | omega | assumption | (show AL.ahead _ _ _ = true; rfl) | refine brF (fun _ => ?_) (fun _ => ?_) | refine brT (fun _ => ?_) (fun _ => ?_) | refine brVF (fun _ => ?_) (fun _ => ?_) | refine brVT (fun _ => ?_) (fun _ => ?_) | (with_reducible refine And.intro ?_ ?_) | (refine callK_by (hj _ (by omega)) ?_) | (simp -dsimp -implicitDefEqProofs only [go_sem, ↓reduceIte, Nat.reduceEqDiff, Nat.reduceAdd, Nat.reduceMul, Nat.reduceLeDiff, Nat.reduceLT, Nat.reduceBEq, Nat.reducePow, Int.reduceToNat, Int.reduceLE, Int.reduceLT, Int.reduceNeg, reduceCtorEq, Int.reduceEq, Int.reduceAdd, Int.reduceSub, Int.reduceMul, Nat.reduceSub]))
  all_goals trace_state
def bitI (s : Sum) (i : Nat) : Int := IntKind.i64.wrap ((BitVec.ofInt IntKind.i64.bits (IntKind.i64.wrap (((s.b.getD (i / 8) 0).toNat : Int).fdiv (2 ^ min (7 - i % 8) 8))) &&& BitVec.ofInt IntKind.i64.bits 1).toNat : Int)
theorem bit_spec (nx : Nat) (s : Sum) (i : Nat) (hi : i < 64) : FnSpec Try.prog 117 nx [sumA s, n64 i] [] (n64 (bitI s i)) [] 0 := by
  have hl := s.h
  have w1 : IntKind.i64.wrap ((i : Int).tdiv 8) = ((i / 8 : Nat) : Int) := by rw [IntKind.wrap_i64, Int.tdiv_eq_ediv_of_nonneg (by omega)]; omega
  have w2 : IntKind.i64.wrap (7 - (i : Int).tmod 8) = ((7 - i % 8 : Nat) : Int) := by rw [IntKind.wrap_i64, Int.tmod_eq_emod_of_nonneg (by omega)]; omega
  have q1 := u8s_get (l := s.b) (i := i / 8) (by omega)
  refine FnSpec.of_code (cx := cx) (an := {}) (rs := [.tmp 4]) mo Try.func117 rfl rfl (by kernel_rfl) (by kernel_rfl) (by show 2 ≤ _; decide) (.inl rfl) (by simp [allWr, keys, Res.wr]) ?_
  repeat' (first | omega | assumption | (show AL.ahead _ _ _ = true; rfl) | refine brF (fun _ => ?_) (fun _ => ?_) | refine brT (fun _ => ?_) (fun _ => ?_) | refine brVF (fun _ => ?_) (fun _ => ?_) | refine brVT (fun _ => ?_) (fun _ => ?_) | (with_reducible refine And.intro ?_ ?_) | (simp -dsimp -implicitDefEqProofs only [go_sem, ↓reduceIte, Nat.reduceEqDiff, Nat.reduceAdd, Nat.reduceMul, Nat.reduceLeDiff, Nat.reduceLT, Nat.reduceBEq, Nat.reducePow, Int.reduceToNat, Int.reduceLE, Int.reduceLT, Int.reduceNeg, reduceCtorEq, Int.reduceEq, Int.reduceAdd, Int.reduceSub, Int.reduceMul, Nat.reduceSub, w1, w2, q1]))
  all_goals rfl
def halfS (sig : List UInt8) (i : Nat) : Sum := sumOf ((sig.drop (64 * i)).take 32)
def othL (sig : List UInt8) (i : Nat) : List UInt8 := (sig.take (64 * i + 64)).drop (64 * i + 32)
noncomputable def backL (d : Sum) (sig : List UInt8) : Nat → List UInt8
  | 0 => []
  | i + 1 => backL d sig i ++ (if bitI d i = 0 then (shownS (halfS sig i)).b ++ othL sig i else othL sig i ++ (shownS (halfS sig i)).b)
theorem othL_len {sig : List UInt8} {i : Nat} (h : sig.length = 4096) (hi : i < 64) : (othL sig i).length = 32 := by
  unfold othL; rw [List.length_drop, List.length_take]; omega
theorem backL_len (d : Sum) {sig : List UInt8} (h : sig.length = 4096) : ∀ i, i ≤ 64 → (backL d sig i).length = 64 * i
  | 0, _ => rfl
  | i + 1, hi => by
    have h1 := othL_len (i := i) h (by omega)
    rw [backL, List.length_append, backL_len d h i (by omega)]
    split <;> rw [List.length_append, sum_h, h1] <;> omega
noncomputable def backS (text sig : List UInt8) : Sum := joinS 13 [backL (joinS 14 [text]) sig 64]
theorem sum_take (s : Sum) : s.b.take 32 = s.b := List.take_of_length_le (by rw [s.h]; omega)
theorem u8s_takeP (l : List UInt8) (n : Nat) : (u8s l).take n = u8s (l.take n) := by simp [u8s, List.map_take]
theorem u8s_dropP (l : List UInt8) (n : Nat) : (u8s l).drop n = u8s (l.drop n) := by simp [u8s, List.map_drop]
theorem backBad_spec (nx t t2 : Nat) (text sig : List UInt8) (hs : sig.length ≠ 4096) (ht : t < 2 ∨ t - 2 < nx) (ht2 : t2 < 2 ∨ t2 - 2 < nx) : FnSpec Try.prog 108 nx [.sl 1 (u8s text) t, .sl 1 (u8s sig) t2] [] (.tup [sumA zeroS, n64 11]) [] 0 := by
  refine FnSpec.of_code (cx := cx) (an := {}) (rs := [.cell 4 23, .tmp 5]) mo Try.func108 rfl rfl (by kernel_rfl) (by kernel_rfl) (by show 2 ≤ _; decide) (.inr ⟨_, rfl, by simp [AV.good, sumA]⟩) (by simp [allWr, keys, Res.wr]) ?_
  repeat' (first | omega | assumption | (show AL.ahead _ _ _ = true; rfl) | refine brF (fun _ => ?_) (fun _ => ?_) | refine brT (fun _ => ?_) (fun _ => ?_) | refine brVF (fun _ => ?_) (fun _ => ?_) | refine brVT (fun _ => ?_) (fun _ => ?_) | (with_reducible refine And.intro ?_ ?_) | (simp -dsimp -implicitDefEqProofs only [go_sem, ↓reduceIte, Nat.reduceEqDiff, Nat.reduceAdd, Nat.reduceMul, Nat.reduceLeDiff, Nat.reduceLT, Nat.reduceBEq, Nat.reducePow, Int.reduceToNat, Int.reduceLE, Int.reduceLT, Int.reduceNeg, reduceCtorEq, Int.reduceEq, Int.reduceAdd, Int.reduceSub, Int.reduceMul, Nat.reduceSub]))
  all_goals trace_state
theorem backT_spec (nx t t2 : Nat) (text sig : List UInt8) (hx : text.length < 2 ^ 39) (hs : sig.length = 4096) (ht : t < 2 ∨ t - 2 < nx) (ht2 : t2 < 2 ∨ t2 - 2 < nx) : FnSpec Try.prog 108 nx [.sl 1 (u8s text) t, .sl 1 (u8s sig) t2] [] (.tup [sumA (backS text sig), n64 0]) [] 0 := by
  have hdg := fun nc (h : nx ≤ nc) => digest_spec nc t text hx (by omega)
  obtain ⟨d, hd⟩ : ∃ d, d = joinS 14 [text] := ⟨_, rfl⟩
  rw [← hd] at hdg
  obtain ⟨R, hR⟩ : ∃ R, R = backS text sig := ⟨_, rfl⟩
  rw [← hR]
  refine FnSpec.of_code (cx := cx) (an := {mt := [27]}) (rs := [.cell 4 23, .tmp 5]) mo Try.func108 rfl rfl (by kernel_rfl) (by kernel_rfl) (by show 2 ≤ _; decide) (.inr ⟨_, rfl, by simp [AV.good, sumA]⟩) (by simp [allWr, keys, Res.wr]) ?_
  repeat' (first | omega | assumption | (show AL.ahead _ _ _ = true; rfl) | refine brF (fun _ => ?_) (fun _ => ?_) | refine brT (fun _ => ?_) (fun _ => ?_) | refine brVF (fun _ => ?_) (fun _ => ?_) | refine brVT (fun _ => ?_) (fun _ => ?_) | (with_reducible refine And.intro ?_ ?_) | (refine callK_by (hdg _ (by omega)) ?_) | (simp -dsimp -implicitDefEqProofs only [go_sem, ↓reduceIte, Nat.reduceEqDiff, Nat.reduceAdd, Nat.reduceMul, Nat.reduceLeDiff, Nat.reduceLT, Nat.reduceBEq, Nat.reducePow, Int.reduceToNat, Int.reduceLE, Int.reduceLT, Int.reduceNeg, reduceCtorEq, Int.reduceEq, Int.reduceAdd, Int.reduceSub, Int.reduceMul, Nat.reduceSub]))
  apply loop_keep [1, 4, 6] (fun i : { i : Nat // i ≤ 64 } => [(7, .sl 1 (u8s (backL d sig i.1)) (nx + 74)), (19, n64 i.1)]) (fun i => [(nx + 72, some (.tail (backL d sig i.1).length)), (nx + 56, some (.obj (sumA d))), (nx, some (.obj (sumA zeroS)))]) (fun i => 64 - i.1) ⟨0, Nat.zero_le _⟩
  · simp -dsimp -implicitDefEqProofs only [go_sem, ↓reduceIte, Nat.reduceEqDiff, Nat.reduceAdd, Nat.reduceMul, Nat.reduceLeDiff, Nat.reduceLT, Nat.reduceBEq, Nat.reducePow, Int.reduceToNat, Int.reduceLE, Int.reduceLT, Int.reduceNeg, reduceCtorEq, Int.reduceEq, Int.reduceAdd, Int.reduceSub, Int.reduceMul, Nat.reduceSub]; try rfl
  · simp -dsimp -implicitDefEqProofs only [go_sem, ↓reduceIte, Nat.reduceEqDiff, Nat.reduceAdd, Nat.reduceMul, Nat.reduceLeDiff, Nat.reduceLT, Nat.reduceBEq, Nat.reducePow, Int.reduceToNat, Int.reduceLE, Int.reduceLT, Int.reduceNeg, reduceCtorEq, Int.reduceEq, Int.reduceAdd, Int.reduceSub, Int.reduceMul, Nat.reduceSub, backL, u8s_nil]; try rfl
  · simp -dsimp -implicitDefEqProofs only [go_sem, ↓reduceIte, Nat.reduceEqDiff, Nat.reduceAdd, Nat.reduceMul, Nat.reduceLeDiff, Nat.reduceLT, Nat.reduceBEq, Nat.reducePow, Int.reduceToNat, Int.reduceLE, Int.reduceLT, Int.reduceNeg, reduceCtorEq, Int.reduceEq, Int.reduceAdd, Int.reduceSub, Int.reduceMul, Nat.reduceSub, backL]; try rfl
  · intro s
    simp -dsimp -implicitDefEqProofs only [go_sem, ↓reduceIte, Nat.reduceEqDiff, Nat.reduceAdd, Nat.reduceMul, Nat.reduceLeDiff, Nat.reduceLT, Nat.reduceBEq, Nat.reducePow, Int.reduceToNat, Int.reduceLE, Int.reduceLT, Int.reduceNeg, reduceCtorEq, Int.reduceEq, Int.reduceAdd, Int.reduceSub, Int.reduceMul, Nat.reduceSub]
    try omega
  · rintro ⟨i, hi⟩
    have hi : i ≤ 64 := hi
    have hbl := backL_len d hs i hi
    simp -dsimp -implicitDefEqProofs only [go_sem, ↓reduceIte, Nat.reduceEqDiff, Nat.reduceAdd, Nat.reduceMul, Nat.reduceLeDiff, Nat.reduceLT, Nat.reduceBEq, Nat.reducePow, Int.reduceToNat, Int.reduceLE, Int.reduceLT, Int.reduceNeg, reduceCtorEq, Int.reduceEq, Int.reduceAdd, Int.reduceSub, Int.reduceMul, Nat.reduceSub]
    refine brT (fun h => ?_) (fun h => ?_)
    · have hi2 : i < 64 := by omega
      have w1 : IntKind.i64.wrap ((i : Int) + 1) = ((i + 1 : Nat) : Int) := wrapE (by omega) (by omega)
      have w2 : IntKind.i64.wrap (64 * (i : Int)) = ((64 * i : Nat) : Int) := wrapE (by omega) (by omega)
      have w3 : IntKind.i64.wrap (((64 * i : Nat) : Int) + 32) = ((64 * i + 32 : Nat) : Int) := wrapE (by omega) (by omega)
      have w4 : IntKind.i64.wrap (((64 * i : Nat) : Int) + 64) = ((64 * i + 64 : Nat) : Int) := wrapE (by omega) (by omega)
      have hq := range_full ((sig.drop (64 * i)).take 32) (by rw [List.length_take, List.length_drop]; omega)
      have hq2 : sumOf ((sig.drop (64 * i)).take 32) = halfS sig i := rfl
      rw [hq2] at hq
      have hdl : 32 ≤ (List.drop (64 * i) sig).length := by rw [List.length_drop]; omega
      have ho := othL_len (i := i) hs hi2
      have ho2 : (sig.take (64 * i + 64)).drop (64 * i + 32) = othL sig i := rfl
      repeat' (first | omega | assumption | (show AL.ahead _ _ _ = true; rfl) | refine brF (fun _ => ?_) (fun _ => ?_) | refine brT (fun _ => ?_) (fun _ => ?_) | refine brVF (fun _ => ?_) (fun _ => ?_) | refine brVT (fun _ => ?_) (fun _ => ?_) | (with_reducible refine And.intro ?_ ?_) | (refine callK_by (shown_spec _ (halfS sig i)) ?_) | (refine callK_by (bit_spec _ d i hi2) ?_) | (simp -dsimp -implicitDefEqProofs only [go_sem, ↓reduceIte, Nat.reduceEqDiff, Nat.reduceAdd, Nat.reduceMul, Nat.reduceLeDiff, Nat.reduceLT, Nat.reduceBEq, Nat.reducePow, Int.reduceToNat, Int.reduceLE, Int.reduceLT, Int.reduceNeg, reduceCtorEq, Int.reduceEq, Int.reduceAdd, Int.reduceSub, Int.reduceMul, Nat.reduceSub, w1, w2, w3, w4, hq, ho2, ho, u8s_takeP, u8s_dropP, List.take_length, sum_take, u8s_app]))
      all_goals
        rename_i hx
        have hb2 := backL_len d hs (i + 1) (by omega)
        have hb3 : backL d sig (i + 1) = backL d sig i ++ (if bitI d i = 0 then (shownS (halfS sig i)).b ++ othL sig i else othL sig i ++ (shownS (halfS sig i)).b) := rfl
      · rw [if_pos hx] at hb3
        refine ⟨⟨i + 1, by omega⟩, by show 64 - (i + 1) < 64 - i; omega, ⟨?_, rfl⟩, ?_⟩
        · simp only [hb3, List.append_assoc]
        · simp only [hb2, hbl]; congr 2
      · rw [if_neg hx] at hb3
        refine ⟨⟨i + 1, by omega⟩, by show 64 - (i + 1) < 64 - i; omega, ⟨?_, rfl⟩, ?_⟩
        · simp only [hb3, List.append_assoc]
        · simp only [hb2, hbl]; congr 2
    · have e : i = 64 := by omega
      have hR2 : R = joinS 13 [backL d sig i] := by rw [hR, hd, e]; rfl
      rw [hR2]
      clear hR hR2
      generalize backL d sig i = L at *
      repeat' (first | omega | assumption | (show AL.ahead _ _ _ = true; rfl) | refine brF (fun _ => ?_) (fun _ => ?_) | refine brT (fun _ => ?_) (fun _ => ?_) | refine brVF (fun _ => ?_) (fun _ => ?_) | refine brVT (fun _ => ?_) (fun _ => ?_) | (with_reducible refine And.intro ?_ ?_) | (refine callK_by (join1_spec _ 1 (nx + 74) 13 L (by omega) (by omega) (by omega)) ?_) | (simp -dsimp -implicitDefEqProofs only [go_sem, ↓reduceIte, Nat.reduceEqDiff, Nat.reduceAdd, Nat.reduceMul, Nat.reduceLeDiff, Nat.reduceLT, Nat.reduceBEq, Nat.reducePow, Int.reduceToNat, Int.reduceLE, Int.reduceLT, Int.reduceNeg, reduceCtorEq, Int.reduceEq, Int.reduceAdd, Int.reduceSub, Int.reduceMul, Nat.reduceSub]))
      all_goals trace_state
end Go.Proofs.Ytjcnhgmaabkelaa

/-
  Does something stand at a place of a list of sums?
-/
set_option linter.unusedSimpArgs false
set_option linter.unusedVariables false
set_option maxRecDepth 100000
set_option maxHeartbeats 1000000
namespace Go.Proofs.Ytjcnhgmaabkelaa
open Go Go.AL Go.Proofs.Ytjcnhgmaabkelaa.T
attribute [local go_sem] nb_u8s u8s_length nb_sum sumA List.length_replicate u8_wrap take32 List.drop_zero zero_sum sum_h u8s_nil sums_len nb_sums
/-- what merkle.Check goes through: the place, how many, the sum so far, what is left of the path -/
structure CS where
  at_ : Nat
  many : Nat
  now : Sum
  path : List Sum
noncomputable def stepC (s : CS) : Option CS :=
  if s.at_ ^^^ 1 < s.many then
    match s.path with
    | [] => none
    | a :: r => some ⟨s.at_ / 2, (s.many + 1) / 2, if s.at_ % 2 = 0 then pairS 2 s.now a else pairS 2 a s.now, r⟩
  else some ⟨s.at_ / 2, (s.many + 1) / 2, s.now, s.path⟩
theorem stepC_many {s s' : CS} (h : stepC s = some s') : s'.many = (s.many + 1) / 2 ∧ s'.at_ = s.at_ / 2 := by
  unfold stepC at h
  split at h
  · split at h
    · cases h
    · injection h with h; subst h; exact ⟨rfl, rfl⟩
  · injection h with h; subst h; exact ⟨rfl, rfl⟩
noncomputable def checkC (root : Sum) (s : CS) : Bool :=
  if h : 1 < s.many then
    match hs : stepC s with
    | none => false
    | some s' => checkC root s'
  else decide (s.path.length = 0) && eqB (sumA s.now) (sumA root)
termination_by s.many
decreasing_by
  have := (stepC_many hs).1
  omega
theorem checkC_end (root : Sum) (s : CS) (h : ¬ 1 < s.many) : checkC root s = (decide (s.path.length = 0) && eqB (sumA s.now) (sumA root)) := by
  rw [checkC, dif_neg h]
theorem checkC_none (root : Sum) (s : CS) (h : 1 < s.many) (hs : stepC s = none) : checkC root s = false := by
  rw [checkC, dif_pos h]
  split
  · rfl
  · rename_i h2; rw [hs] at h2; cases h2
theorem checkC_some (root : Sum) {s s' : CS} (h : 1 < s.many) (hs : stepC s = some s') : checkC root s = checkC root s' := by
  rw [checkC, dif_pos h]
  split
  · rename_i h2; rw [hs] at h2; cases h2
  · rename_i h2; rw [hs] at h2; injection h2 with h2; rw [h2]
theorem xor1 {a : Nat} (h : a < 2 ^ 62) : IntKind.i64.wrap ((BitVec.ofInt IntKind.i64.bits (a : Int) ^^^ BitVec.ofInt IntKind.i64.bits 1).toNat : Int) = ((a ^^^ 1 : Nat) : Int) := by
  have h1 : a ^^^ 1 < 2 ^ 62 := Nat.xor_lt_two_pow h (by decide)
  have e : (BitVec.ofInt IntKind.i64.bits (a : Int) ^^^ BitVec.ofInt IntKind.i64.bits 1).toNat = a ^^^ 1 := by
    rw [BitVec.toNat_xor]
    have e1 : (BitVec.ofInt IntKind.i64.bits (a : Int)).toNat = a := by
      rw [BitVec.toNat_ofInt]
      show (((a : Int) % ((2 ^ 64 : Nat) : Int)).toNat) = a
      omega
    have e2 : (BitVec.ofInt IntKind.i64.bits 1).toNat = 1 := by decide
    rw [e1, e2]
  rw [e]
  exact wrapE (by omega) (by omega)
theorem checkBad_spec (nx t : Nat) (root k : Sum) (a m : Int) (l : List Sum) (h : a < 0 ∨ m ≤ a ∨ 4096 < m) (ht : t < 2 ∨ t - 2 < nx) :
    FnSpec Try.prog 109 nx [sumA root, sumA k, n64 a, n64 m, .sl 32 (sumsA l) t] [] (bA false) [] 0 := by
  refine FnSpec.of_code (cx := cx) (an := {}) (rs := [.tmp 10]) mo Try.func109 rfl rfl (by kernel_rfl) (by kernel_rfl) (by show 5 ≤ _; decide) (.inl rfl) (by simp [allWr, keys, Res.wr]) ?_
  repeat' (first | omega | assumption | (show AL.ahead _ _ _ = true; rfl) | refine brF (fun _ => ?_) (fun _ => ?_) | refine brT (fun _ => ?_) (fun _ => ?_) | refine brVF (fun _ => ?_) (fun _ => ?_) | refine brVT (fun _ => ?_) (fun _ => ?_) | (with_reducible refine And.intro ?_ ?_) | (simp -dsimp -implicitDefEqProofs only [go_sem, ↓reduceIte, Nat.reduceEqDiff, Nat.reduceAdd, Nat.reduceMul, Nat.reduceLeDiff, Nat.reduceLT, Nat.reduceBEq, Nat.reducePow, Int.reduceToNat, Int.reduceLE, Int.reduceLT, Int.reduceNeg, reduceCtorEq, Int.reduceEq, Int.reduceAdd, Int.reduceSub, Int.reduceMul, Nat.reduceSub]))
  all_goals trace_state
theorem check_spec (nx : Nat) (root k : Sum) (a m : Nat) (l : List Sum) (h1 : a < m) (h2 : m ≤ 4096) :
    FnSpec Try.prog 109 nx [sumA root, sumA k, n64 a, n64 m, .sl 32 (sumsA l) 0] [] (bA (checkC root ⟨a, m, leafS k, l⟩)) [] 0 := by
  obtain ⟨B, hB⟩ : ∃ B, B = checkC root ⟨a, m, leafS k, l⟩ := ⟨_, rfl⟩
  rw [← hB]
  refine FnSpec.of_code (cx := cx) (an := {}) (rs := [.tmp 10]) mo Try.func109 rfl rfl (by kernel_rfl) (by kernel_rfl) (by show 5 ≤ _; decide) (.inl rfl) (by simp [allWr, keys, Res.wr]) ?_
  repeat' (first | omega | assumption | (show AL.ahead _ _ _ = true; rfl) | refine brF (fun _ => ?_) (fun _ => ?_) | refine brT (fun _ => ?_) (fun _ => ?_) | refine brVF (fun _ => ?_) (fun _ => ?_) | refine brVT (fun _ => ?_) (fun _ => ?_) | (with_reducible refine And.intro ?_ ?_) | (refine callK_by (leaf_spec _ k) ?_) | (simp -dsimp -implicitDefEqProofs only [go_sem, ↓reduceIte, Nat.reduceEqDiff, Nat.reduceAdd, Nat.reduceMul, Nat.reduceLeDiff, Nat.reduceLT, Nat.reduceBEq, Nat.reducePow, Int.reduceToNat, Int.reduceLE, Int.reduceLT, Int.reduceNeg, reduceCtorEq, Int.reduceEq, Int.reduceAdd, Int.reduceSub, Int.reduceMul, Nat.reduceSub]))
  apply loop_keep [5, 11] (fun s : { s : CS // s.at_ < s.many ∧ s.many ≤ 4096 ∧ checkC root s = B } => [(2, n64 s.1.at_), (3, n64 s.1.many), (4, .sl 32 (sumsA s.1.path) 0)]) (fun s => [(nx + 128, some (.obj (sumA s.1.now)))]) (fun s => s.1.many) ⟨⟨a, m, leafS k, l⟩, h1, h2, hB.symm⟩
  · simp -dsimp -implicitDefEqProofs only [go_sem, ↓reduceIte, Nat.reduceEqDiff, Nat.reduceAdd, Nat.reduceMul, Nat.reduceLeDiff, Nat.reduceLT, Nat.reduceBEq, Nat.reducePow, Int.reduceToNat, Int.reduceLE, Int.reduceLT, Int.reduceNeg, reduceCtorEq, Int.reduceEq, Int.reduceAdd, Int.reduceSub, Int.reduceMul, Nat.reduceSub]; try rfl
  · simp -dsimp -implicitDefEqProofs only [go_sem, ↓reduceIte, Nat.reduceEqDiff, Nat.reduceAdd, Nat.reduceMul, Nat.reduceLeDiff, Nat.reduceLT, Nat.reduceBEq, Nat.reducePow, Int.reduceToNat, Int.reduceLE, Int.reduceLT, Int.reduceNeg, reduceCtorEq, Int.reduceEq, Int.reduceAdd, Int.reduceSub, Int.reduceMul, Nat.reduceSub]; try rfl
  · simp -dsimp -implicitDefEqProofs only [go_sem, ↓reduceIte, Nat.reduceEqDiff, Nat.reduceAdd, Nat.reduceMul, Nat.reduceLeDiff, Nat.reduceLT, Nat.reduceBEq, Nat.reducePow, Int.reduceToNat, Int.reduceLE, Int.reduceLT, Int.reduceNeg, reduceCtorEq, Int.reduceEq, Int.reduceAdd, Int.reduceSub, Int.reduceMul, Nat.reduceSub]; try rfl
  · intro s
    simp -dsimp -implicitDefEqProofs only [go_sem, ↓reduceIte, Nat.reduceEqDiff, Nat.reduceAdd, Nat.reduceMul, Nat.reduceLeDiff, Nat.reduceLT, Nat.reduceBEq, Nat.reducePow, Int.reduceToNat, Int.reduceLE, Int.reduceLT, Int.reduceNeg, reduceCtorEq, Int.reduceEq, Int.reduceAdd, Int.reduceSub, Int.reduceMul, Nat.reduceSub]
    try omega
  · rintro ⟨⟨x, c, now, p⟩, g1, g2, g3⟩
    simp only at g1 g2
    have q1 := xor1 (a := x) (by omega)
    have q2 : IntKind.i64.wrap ((x : Int).tdiv 2) = ((x / 2 : Nat) : Int) := by rw [IntKind.wrap_i64, Int.tdiv_eq_ediv_of_nonneg (by omega)]; omega
    have q3 : (x : Int).tmod 2 = ((x % 2 : Nat) : Int) := by rw [Int.tmod_eq_emod_of_nonneg (by omega)]; omega
    have q4 : IntKind.i64.wrap ((c : Int) + 1) = ((c + 1 : Nat) : Int) := wrapE (by omega) (by omega)
    have q5 : IntKind.i64.wrap (((c + 1 : Nat) : Int).tdiv 2) = (((c + 1) / 2 : Nat) : Int) := by rw [IntKind.wrap_i64, Int.tdiv_eq_ediv_of_nonneg (by omega)]; omega
    by_cases hc : 1 < c
    · cases p with
      | nil =>
        repeat' (first | omega | assumption | (show AL.ahead _ _ _ = true; rfl) | refine brF (fun _ => ?_) (fun _ => ?_) | refine brT (fun _ => ?_) (fun _ => ?_) | refine brVF (fun _ => ?_) (fun _ => ?_) | refine brVT (fun _ => ?_) (fun _ => ?_) | (with_reducible refine And.intro ?_ ?_) | (simp -dsimp -implicitDefEqProofs only [go_sem, ↓reduceIte, Nat.reduceEqDiff, Nat.reduceAdd, Nat.reduceMul, Nat.reduceLeDiff, Nat.reduceLT, Nat.reduceBEq, Nat.reducePow, Int.reduceToNat, Int.reduceLE, Int.reduceLT, Int.reduceNeg, reduceCtorEq, Int.reduceEq, Int.reduceAdd, Int.reduceSub, Int.reduceMul, Nat.reduceSub, q1, q2, q3, q4, q5, sumsA, List.map_nil]))
        all_goals rename_i hx
        · rw [← g3, checkC_none root _ hc (by simp only [stepC]; rw [if_pos hx])]
        · refine ⟨⟨⟨x / 2, (c + 1) / 2, now, []⟩, by show x / 2 < (c + 1) / 2; omega, by show (c + 1) / 2 ≤ 4096; omega, ?_⟩, by show (c + 1) / 2 < c; omega, ⟨rfl, rfl, rfl⟩, rfl⟩
          rw [← g3]
          exact (checkC_some root hc (by simp only [stepC]; rw [if_neg hx])).symm
      | cons y r =>
        repeat' (first | omega | assumption | (show AL.ahead _ _ _ = true; rfl) | refine brF (fun _ => ?_) (fun _ => ?_) | refine brT (fun _ => ?_) (fun _ => ?_) | refine brVF (fun _ => ?_) (fun _ => ?_) | refine brVT (fun _ => ?_) (fun _ => ?_) | (with_reducible refine And.intro ?_ ?_) | (refine callK_by (pair_spec _ 2 _ _) ?_) | (simp -dsimp -implicitDefEqProofs only [go_sem, ↓reduceIte, Nat.reduceEqDiff, Nat.reduceAdd, Nat.reduceMul, Nat.reduceLeDiff, Nat.reduceLT, Nat.reduceBEq, Nat.reducePow, Int.reduceToNat, Int.reduceLE, Int.reduceLT, Int.reduceNeg, reduceCtorEq, Int.reduceEq, Int.reduceAdd, Int.reduceSub, Int.reduceMul, Nat.reduceSub, q1, q2, q3, q4, q5, sumsA, List.map_cons, List.drop_one, List.tail_cons, List.take_length]))
        · rename_i hx _ hy
          refine ⟨⟨⟨x / 2, (c + 1) / 2, pairS 2 now y, r⟩, by show x / 2 < (c + 1) / 2; omega, by show (c + 1) / 2 ≤ 4096; omega, ?_⟩, by show (c + 1) / 2 < c; omega, ⟨rfl, rfl, rfl⟩, rfl⟩
          rw [← g3]
          exact (checkC_some root hc (by simp only [stepC]; rw [if_pos hx, if_pos (by omega)])).symm
        · rename_i hx _ hy
          refine ⟨⟨⟨x / 2, (c + 1) / 2, pairS 2 y now, r⟩, by show x / 2 < (c + 1) / 2; omega, by show (c + 1) / 2 ≤ 4096; omega, ?_⟩, by show (c + 1) / 2 < c; omega, ⟨rfl, rfl, rfl⟩, rfl⟩
          rw [← g3]
          exact (checkC_some root hc (by simp only [stepC]; rw [if_pos hx, if_neg (by omega)])).symm
        · rename_i hx
          refine ⟨⟨⟨x / 2, (c + 1) / 2, now, y :: r⟩, by show x / 2 < (c + 1) / 2; omega, by show (c + 1) / 2 ≤ 4096; omega, ?_⟩, by show (c + 1) / 2 < c; omega, ⟨rfl, rfl, rfl⟩, rfl⟩
          rw [← g3]
          exact (checkC_some root hc (by simp only [stepC]; rw [if_neg hx])).symm
    · have hend := checkC_end root ⟨x, c, now, p⟩ hc
      rw [g3] at hend
      simp only at hend
      simp -dsimp -implicitDefEqProofs only [go_sem, ↓reduceIte, Nat.reduceEqDiff, Nat.reduceAdd, Nat.reduceMul, Nat.reduceLeDiff, Nat.reduceLT, Nat.reduceBEq, Nat.reducePow, Int.reduceToNat, Int.reduceLE, Int.reduceLT, Int.reduceNeg, reduceCtorEq, Int.reduceEq, Int.reduceAdd, Int.reduceSub, Int.reduceMul, Nat.reduceSub]
      refine brT (fun h => absurd h (by omega)) (fun h => ?_)
      repeat' (first | omega | assumption | (show AL.ahead _ _ _ = true; rfl) | refine brF (fun _ => ?_) (fun _ => ?_) | refine brT (fun _ => ?_) (fun _ => ?_) | refine brVF (fun _ => ?_) (fun _ => ?_) | refine brVT (fun _ => ?_) (fun _ => ?_) | (with_reducible refine And.intro ?_ ?_) | (simp -dsimp -implicitDefEqProofs only [go_sem, ↓reduceIte, Nat.reduceEqDiff, Nat.reduceAdd, Nat.reduceMul, Nat.reduceLeDiff, Nat.reduceLT, Nat.reduceBEq, Nat.reducePow, Int.reduceToNat, Int.reduceLE, Int.reduceLT, Int.reduceNeg, reduceCtorEq, Int.reduceEq, Int.reduceAdd, Int.reduceSub, Int.reduceMul, Nat.reduceSub, ↓cmp_sum, isSumT, decide_eq_true_eq, Bool.and_self]))
      all_goals rw [hend]
      · rename_i hx
        rw [decide_eq_true (by omega : p.length = 0), Bool.true_and]; rfl
      · rename_i hx
        rw [decide_eq_false (by omega : ¬ p.length = 0), Bool.false_and]
end Go.Proofs.Ytjcnhgmaabkelaa

/-
  Which channels, which states may be; amounts added; a secret's hash.
-/
import Derived.Test.YtjcnhgmaabkelaaGreatZP14
set_option linter.unusedSimpArgs false
set_option linter.unusedVariables false
set_option maxRecDepth 100000
set_option maxHeartbeats 1000000
namespace Go.Proofs.YtjcnhgmaabkelaaGreat
open Go Go.AL Go.Proofs.YtjcnhgmaabkelaaGreat.T
attribute [local go_sem] nb_u8s u8s_length nb_sum sumA List.length_replicate zero_sum sum_h nb_vals vals_len u8s_nil
abbrev MAXA : Int := 1125899906842624
abbrev chanR (c : Chan) : Prop := 0 ≤ c.id ∧ c.id ≤ 1048576 ∧ 0 ≤ c.client ∧ c.client ≤ 255 ∧ 0 ≤ c.peer ∧ c.peer ≤ 255 ∧ c.client ≠ c.peer ∧ 1 ≤ c.cap ∧ 0 ≤ c.cap ∧ c.cap ≤ 1125899906842624 ∧ 1 ≤ c.window ∧ c.window < c.wait ∧ c.wait ≤ 65536 ∧ 0 ≤ c.fund.at_ ∧ c.fund.at_ < 16
theorem chanR_spec (nx : Nat) (c : Chan) : FnSpec Tryz.prog 95 nx [chanA c] [] (bA (decide (chanR c))) [] 0 := by
  refine FnSpec.of_code (cx := cx) (an := {}) (rs := [.tmp 2]) mo Tryz.func95 rfl rfl (by kernel_rfl) (by kernel_rfl) (by show 1 ≤ _; decide) (.inl rfl) (by simp [allWr, keys, Res.wr]) ?_
  repeat' (first | omega | assumption | (show AL.ahead _ _ _ = true; rfl) | refine brF (fun _ => ?_) (fun _ => ?_) | refine brT (fun _ => ?_) (fun _ => ?_) | refine brVF (fun _ => ?_) (fun _ => ?_) | refine brVT (fun _ => ?_) (fun _ => ?_) | (with_reducible refine And.intro ?_ ?_) | (refine callK_by (coinRight_spec _ c.cap) ?_) | (simp -dsimp -implicitDefEqProofs only [go_sem, ↓reduceIte, Nat.reduceEqDiff, Nat.reduceAdd, Nat.reduceMul, Nat.reduceLeDiff, Nat.reduceLT, Nat.reduceBEq, Nat.reducePow, Int.reduceToNat, Int.reduceLE, Int.reduceLT, Int.reduceNeg, reduceCtorEq, Int.reduceEq, Int.reduceAdd, Int.reduceSub, Int.reduceMul, Nat.reduceSub, chanA, refA, List.append_eq, List.cons_append, List.nil_append]))
  all_goals (simp only [bA, chanR]; congr 2; first | (symm; apply decide_eq_false; omega) | (symm; apply decide_eq_true; omega) | (apply decide_eq_decide.2; omega) | trace_state)
def addF : Int → List Int → Int × Int
  | s, [] => (s, 0)
  | s, a :: r => if 0 ≤ a ∧ a ≤ 1125899906842624 then (if 1125899906842624 < s + a then (0, 10) else addF (s + a) r) else (0, 5)
theorem add_spec (nx : Nat) (l : List Int) (hl : l.length < 2 ^ 40) : FnSpec Tryz.prog 96 nx [.sl 1 (vals .i64 l) 1] [] (.tup [n64 (addF 0 l).1, n64 (addF 0 l).2]) [] 0 := by
  obtain ⟨R, hR⟩ : ∃ R, R = addF 0 l := ⟨_, rfl⟩
  rw [← hR]
  refine FnSpec.of_code (cx := cx) (an := {}) (rs := [.tmp 2, .tmp 3]) mo Tryz.func96 rfl rfl (by kernel_rfl) (by kernel_rfl) (by show 1 ≤ _; decide) (.inr ⟨_, rfl, by simp [AV.good]⟩) (by simp [allWr, keys, Res.wr]) ?_
  repeat' (first | omega | assumption | (show AL.ahead _ _ _ = true; rfl) | refine brF (fun _ => ?_) (fun _ => ?_) | refine brT (fun _ => ?_) (fun _ => ?_) | refine brVF (fun _ => ?_) (fun _ => ?_) | refine brVT (fun _ => ?_) (fun _ => ?_) | (with_reducible refine And.intro ?_ ?_) | (simp -dsimp -implicitDefEqProofs only [go_sem, ↓reduceIte, Nat.reduceEqDiff, Nat.reduceAdd, Nat.reduceMul, Nat.reduceLeDiff, Nat.reduceLT, Nat.reduceBEq, Nat.reducePow, Int.reduceToNat, Int.reduceLE, Int.reduceLT, Int.reduceNeg, reduceCtorEq, Int.reduceEq, Int.reduceAdd, Int.reduceSub, Int.reduceMul, Nat.reduceSub]))
  apply loop_keep [7, 8] (fun p : { p : Nat × Int // p.1 ≤ l.length ∧ 0 ≤ p.2 ∧ p.2 ≤ 1125899906842624 ∧ addF p.2 (l.drop p.1) = R } => [(4, n64 p.1.2), (9, n64 p.1.1)]) (fun _ => []) (fun p => l.length - p.1.1) ⟨(0, 0), Nat.zero_le _, Int.le_refl _, by decide, by rw [hR]; rfl⟩
  · simp -dsimp -implicitDefEqProofs only [go_sem, ↓reduceIte, Nat.reduceEqDiff, Nat.reduceAdd, Nat.reduceMul, Nat.reduceLeDiff, Nat.reduceLT, Nat.reduceBEq, Nat.reducePow, Int.reduceToNat, Int.reduceLE, Int.reduceLT, Int.reduceNeg, reduceCtorEq, Int.reduceEq, Int.reduceAdd, Int.reduceSub, Int.reduceMul, Nat.reduceSub]; try rfl
  · simp -dsimp -implicitDefEqProofs only [go_sem, ↓reduceIte, Nat.reduceEqDiff, Nat.reduceAdd, Nat.reduceMul, Nat.reduceLeDiff, Nat.reduceLT, Nat.reduceBEq, Nat.reducePow, Int.reduceToNat, Int.reduceLE, Int.reduceLT, Int.reduceNeg, reduceCtorEq, Int.reduceEq, Int.reduceAdd, Int.reduceSub, Int.reduceMul, Nat.reduceSub]; try rfl
  · simp -dsimp -implicitDefEqProofs only [go_sem, ↓reduceIte, Nat.reduceEqDiff, Nat.reduceAdd, Nat.reduceMul, Nat.reduceLeDiff, Nat.reduceLT, Nat.reduceBEq, Nat.reducePow, Int.reduceToNat, Int.reduceLE, Int.reduceLT, Int.reduceNeg, reduceCtorEq, Int.reduceEq, Int.reduceAdd, Int.reduceSub, Int.reduceMul, Nat.reduceSub]; try rfl
  · intro s
    simp -dsimp -implicitDefEqProofs only [go_sem, ↓reduceIte, Nat.reduceEqDiff, Nat.reduceAdd, Nat.reduceMul, Nat.reduceLeDiff, Nat.reduceLT, Nat.reduceBEq, Nat.reducePow, Int.reduceToNat, Int.reduceLE, Int.reduceLT, Int.reduceNeg, reduceCtorEq, Int.reduceEq, Int.reduceAdd, Int.reduceSub, Int.reduceMul, Nat.reduceSub]
    try omega
  · rintro ⟨⟨i, x⟩, hi, hx0, hx1, hall⟩
    have hi : i ≤ l.length := hi
    simp only at hx0 hx1 hall
    simp -dsimp -implicitDefEqProofs only [go_sem, ↓reduceIte, Nat.reduceEqDiff, Nat.reduceAdd, Nat.reduceMul, Nat.reduceLeDiff, Nat.reduceLT, Nat.reduceBEq, Nat.reducePow, Int.reduceToNat, Int.reduceLE, Int.reduceLT, Int.reduceNeg, reduceCtorEq, Int.reduceEq, Int.reduceAdd, Int.reduceSub, Int.reduceMul, Nat.reduceSub]
    refine brT (fun hc => ?_) (fun hc => ?_)
    · have hi2 : i < l.length := by omega
      have q1 := vals_get (k := .i64) hi2
      have hd := List.drop_eq_getElem_cons hi2
      have hg : l.getD i 0 = l[i] := by rw [List.getD_eq_getElem?_getD, List.getElem?_eq_getElem hi2]; rfl
      rw [hd] at hall
      rw [hg] at q1
      generalize l[i] = y at *
      have w1 : IntKind.i64.wrap ((i : Int) + 1) = ((i + 1 : Nat) : Int) := wrapE (by omega) (by omega)
      by_cases hy : 0 ≤ y ∧ y ≤ 1125899906842624
      · have w2 : IntKind.i64.wrap (x + y) = x + y := by rw [IntKind.wrap_i64]; omega
        rw [addF, if_pos hy] at hall
        repeat' (first | omega | assumption | (show AL.ahead _ _ _ = true; rfl) | refine brF (fun _ => ?_) (fun _ => ?_) | refine brT (fun _ => ?_) (fun _ => ?_) | refine brVF (fun _ => ?_) (fun _ => ?_) | refine brVT (fun _ => ?_) (fun _ => ?_) | (with_reducible refine And.intro ?_ ?_) | (refine callK_by (coinRight_spec _ y) ?_) | (simp -dsimp -implicitDefEqProofs only [go_sem, ↓reduceIte, Nat.reduceEqDiff, Nat.reduceAdd, Nat.reduceMul, Nat.reduceLeDiff, Nat.reduceLT, Nat.reduceBEq, Nat.reducePow, Int.reduceToNat, Int.reduceLE, Int.reduceLT, Int.reduceNeg, reduceCtorEq, Int.reduceEq, Int.reduceAdd, Int.reduceSub, Int.reduceMul, Nat.reduceSub, q1, w1, w2, decide_eq_true hy]))
        · rename_i hx
          rw [if_pos hx] at hall
          rw [← hall]
        · rename_i hx
          rw [if_neg hx] at hall
          exact ⟨⟨(i + 1, x + y), hi2, by show 0 ≤ x + y; omega, by show x + y ≤ _; omega, hall⟩, by show l.length - (i + 1) < l.length - i; omega, ⟨rfl, rfl⟩⟩
      · rw [addF, if_neg hy] at hall
        repeat' (first | omega | assumption | (show AL.ahead _ _ _ = true; rfl) | refine brF (fun _ => ?_) (fun _ => ?_) | refine brT (fun _ => ?_) (fun _ => ?_) | refine brVF (fun _ => ?_) (fun _ => ?_) | refine brVT (fun _ => ?_) (fun _ => ?_) | (with_reducible refine And.intro ?_ ?_) | (refine callK_by (coinRight_spec _ y) ?_) | (simp -dsimp -implicitDefEqProofs only [go_sem, ↓reduceIte, Nat.reduceEqDiff, Nat.reduceAdd, Nat.reduceMul, Nat.reduceLeDiff, Nat.reduceLT, Nat.reduceBEq, Nat.reducePow, Int.reduceToNat, Int.reduceLE, Int.reduceLT, Int.reduceNeg, reduceCtorEq, Int.reduceEq, Int.reduceAdd, Int.reduceSub, Int.reduceMul, Nat.reduceSub, q1, w1, decide_eq_false hy]))
        rw [← hall]
    · have e : i = l.length := by omega
      subst e
      rw [List.drop_length, addF] at hall
      repeat' (first | omega | assumption | (show AL.ahead _ _ _ = true; rfl) | refine brF (fun _ => ?_) (fun _ => ?_) | refine brT (fun _ => ?_) (fun _ => ?_) | refine brVF (fun _ => ?_) (fun _ => ?_) | refine brVT (fun _ => ?_) (fun _ => ?_) | (with_reducible refine And.intro ?_ ?_) | (simp -dsimp -implicitDefEqProofs only [go_sem, ↓reduceIte, Nat.reduceEqDiff, Nat.reduceAdd, Nat.reduceMul, Nat.reduceLeDiff, Nat.reduceLT, Nat.reduceBEq, Nat.reducePow, Int.reduceToNat, Int.reduceLE, Int.reduceLT, Int.reduceNeg, reduceCtorEq, Int.reduceEq, Int.reduceAdd, Int.reduceSub, Int.reduceMul, Nat.reduceSub]))
      rw [← hall]
structure St_ where
  n : Int
  client : Int
  peer : Int
  h0 : Sum
  h1 : Sum
def stateA (s : St_) : AV := .agg 67 [n64 s.n, n64 s.client, n64 s.peer, .vec 32 [sumA s.h0, sumA s.h1]]
/-- may a state be of a channel? -/
def stP (c : Chan) (s : St_) : Prop := chanR c ∧ 0 ≤ s.n ∧ s.n ≤ 1048576 ∧ eqB (sumA s.h0) (sumA zeroS) = false ∧ eqB (sumA s.h1) (sumA zeroS) = false ∧ (addF 0 [s.client, s.peer]).2 = 0 ∧ (addF 0 [s.client, s.peer]).1 = c.cap
noncomputable def stR (c : Chan) (s : St_) : Bool := @decide (stP c s) (Classical.propDecidable _)
theorem stR_yes {c : Chan} {s : St_} (h : stP c s) : bA (stR c s) = bA true := by unfold stR; rw [@decide_eq_true _ (Classical.propDecidable _) h]
theorem stR_no {c : Chan} {s : St_} (h : ¬ stP c s) : bA (stR c s) = bA false := by unfold stR; rw [@decide_eq_false _ (Classical.propDecidable _) h]
theorem stR_spec (nx : Nat) (c : Chan) (s : St_) : FnSpec Tryz.prog 70 nx [chanA c, stateA s] [] (bA (stR c s)) [] 0 := by
  have hc := fun nc => chanR_spec nc c
  have ha := fun nc => add_spec nc [s.client, s.peer] (by simp)
  simp only [chanA, refA] at hc
  simp only [vals, List.map_cons, List.map_nil] at ha
  refine FnSpec.of_code (cx := cx) (an := {}) (rs := [.tmp 4]) mo Tryz.func70 rfl rfl (by kernel_rfl) (by kernel_rfl) (by show 2 ≤ _; decide) (.inl rfl) (by simp [allWr, keys, Res.wr]) ?_
  repeat' (first | omega | assumption | (show AL.ahead _ _ _ = true; rfl) | refine brF (fun _ => ?_) (fun _ => ?_) | refine brT (fun _ => ?_) (fun _ => ?_) | refine brVF (fun _ => ?_) (fun _ => ?_) | refine brVT (fun _ => ?_) (fun _ => ?_) | (with_reducible refine And.intro ?_ ?_) | (refine callK_by (hc _) ?_) | (refine callK_by (ha _) ?_) | (simp -dsimp -implicitDefEqProofs only [go_sem, ↓reduceIte, Nat.reduceEqDiff, Nat.reduceAdd, Nat.reduceMul, Nat.reduceLeDiff, Nat.reduceLT, Nat.reduceBEq, Nat.reducePow, Int.reduceToNat, Int.reduceLE, Int.reduceLT, Int.reduceNeg, reduceCtorEq, Int.reduceEq, Int.reduceAdd, Int.reduceSub, Int.reduceMul, Nat.reduceSub, chanA, refA, stateA, ↓cmp_sum, isSumT, decide_eq_true_eq, Bool.and_self]))
  all_goals first
    | (refine (stR_no (fun h => ?_)).symm
       obtain ⟨a1, a2, a3, a4, a5, a6, a7⟩ := h
       first | omega | contradiction | (rename_i hx; exact absurd (a4.symm.trans hx) (by decide)) | (rename_i hx; exact absurd (a5.symm.trans hx) (by decide)))
    | (rename_i h1 h2 h3 h4 h5 h6
       by_cases h7 : (addF 0 [s.client, s.peer]).1 = c.cap
       · rw [decide_eq_true h7]; exact (stR_yes ⟨h1, by omega, by omega, h4, h5, h6, h7⟩).symm
       · rw [decide_eq_false h7]; exact (stR_no (fun h => h7 h.2.2.2.2.2.2)).symm)
    | trace_state
noncomputable def hashS (s : Sum) : Sum := joinS 31 [s.b]
theorem lhash_spec (nx t : Nat) (a : List UInt8) (ha : a.length < 2 ^ 39) (ht : t < 2 ∨ t - 2 < nx) : FnSpec Tryz.prog 102 nx [.sl 1 (u8s a) t] [] (sumA (joinS 31 [a])) [] 0 := by
  have hj := fun nc (h : nx ≤ nc) => join1_spec nc 1 t 31 a ha (by omega) (by omega)
  refine FnSpec.of_code (cx := cx) (an := {}) (rs := [.cell 2 23]) mo Tryz.func102 rfl rfl (by kernel_rfl) (by kernel_rfl) (by show 1 ≤ _; decide) (.inl rfl) (by simp [allWr, keys, Res.wr]) ?_
  repeat' (first | omega | assumption | (show AL.ahead _ _ _ = true; rfl) | refine brF (fun _ => ?_) (fun _ => ?_) | refine brT (fun _ => ?_) (fun _ => ?_) | refine brVF (fun _ => ?_) (fun _ => ?_) | refine brVT (fun _ => ?_) (fun _ => ?_) | (with_reducible refine And.intro ?_ ?_) | (refine callK_by (hj _ (by omega)) ?_) | (simp -dsimp -implicitDefEqProofs only [go_sem, ↓reduceIte, Nat.reduceEqDiff, Nat.reduceAdd, Nat.reduceMul, Nat.reduceLeDiff, Nat.reduceLT, Nat.reduceBEq, Nat.reducePow, Int.reduceToNat, Int.reduceLE, Int.reduceLT, Int.reduceNeg, reduceCtorEq, Int.reduceEq, Int.reduceAdd, Int.reduceSub, Int.reduceMul, Nat.reduceSub]))
  all_goals trace_state
theorem shash_spec (nx : Nat) (s : Sum) : FnSpec Tryz.prog 97 nx [sumA s] [] (sumA (hashS s)) [] 0 := by
  have hl := s.h
  refine FnSpec.of_code (cx := cx) (an := {}) (rs := [.cell 2 23]) mo Tryz.func97 rfl rfl (by kernel_rfl) (by kernel_rfl) (by show 1 ≤ _; decide) (.inl rfl) (by simp [allWr, keys, Res.wr]) ?_
  repeat' (first | omega | assumption | (show AL.ahead _ _ _ = true; rfl) | refine brF (fun _ => ?_) (fun _ => ?_) | refine brT (fun _ => ?_) (fun _ => ?_) | refine brVF (fun _ => ?_) (fun _ => ?_) | refine brVT (fun _ => ?_) (fun _ => ?_) | (with_reducible refine And.intro ?_ ?_) | (refine callK_by (lhash_spec _ 1 s.b (by omega) (by omega)) ?_) | (simp -dsimp -implicitDefEqProofs only [go_sem, ↓reduceIte, Nat.reduceEqDiff, Nat.reduceAdd, Nat.reduceMul, Nat.reduceLeDiff, Nat.reduceLT, Nat.reduceBEq, Nat.reducePow, Int.reduceToNat, Int.reduceLE, Int.reduceLT, Int.reduceNeg, reduceCtorEq, Int.reduceEq, Int.reduceAdd, Int.reduceSub, Int.reduceMul, Nat.reduceSub, take32, hashS]))
  all_goals trace_state
end Go.Proofs.YtjcnhgmaabkelaaGreat

/-
  Signatures read: wire.Eye.Sum, many.read.
-/
set_option linter.unusedSimpArgs false
set_option linter.unusedVariables false
set_option maxRecDepth 100000
set_option maxHeartbeats 1000000
namespace Go.Proofs.YtjcnhgmaabkelaaGreat
open Go Go.AL Go.Proofs.YtjcnhgmaabkelaaGreat.T
attribute [local go_sem] nb_u8s u8s_length nb_sum sumA List.length_replicate u8_wrap take32 List.drop_zero zero_sum sum_h nb_eye u8s_nil sums_len nb_sums
def sumOf (l : List UInt8) : Sum := if h : l.length = 32 then ⟨l, h⟩ else zeroS
def esumS (s : ES) : Sum × ES := (sumOf (rawS s 32).1, (rawS s 32).2)
theorem rawS_32 (s : ES) : (rawS s 32).1.length = 32 ∨ (rawS s 32).1 = [] := by
  unfold rawS
  split
  · split
    · exact .inr rfl
    · rename_i h; left; rw [List.length_take]; omega
  · exact .inr rfl
theorem range_full (l : List UInt8) (h : l.length = 32) : setRange (u8s zeroS.b) 0 (u8s l) = u8s (sumOf l).b := by
  unfold sumOf
  rw [dif_pos h]
  unfold setRange
  rw [List.take_zero, List.nil_append, List.drop_eq_nil_of_le (by rw [u8s_length, u8s_length, zeroS.h]; omega), List.append_nil]
theorem range_none : setRange (u8s zeroS.b) 0 (u8s []) = u8s (sumOf []).b := by
  unfold sumOf
  rw [dif_neg (by simp)]
  unfold setRange
  rw [u8s_nil, List.take_zero, List.nil_append, List.length_nil, Nat.zero_add, List.drop_zero, List.nil_append]
theorem rawS_set (s : ES) : setRange (u8s zeroS.b) 0 (u8s (rawS s 32).1) = u8s (esumS s).1.b := by
  unfold esumS
  rcases rawS_32 s with h | h
  · exact range_full _ h
  · simp only [h]; exact range_none
theorem rawS_le (s : ES) : (rawS s 32).1.length ≤ 32 := by
  rcases rawS_32 s with h | h
  · omega
  · rw [h]; simp
theorem esum_spec (nx m : Nat) (s : ES) (hm : m < nx) (hb : s.b.length < 2 ^ 40) : FnSpec Tryz.prog 124 nx [.ref m 0 []] [(m, some (.obj (eyeA s)))] (sumA (esumS s).1) [(m, some (.obj (eyeA (esumS s).2)))] 0 := by
  have x1 := fun k => lt_nx hm k
  have x2 := fun k => nx_gt hm k
  have hr := rawS_set s
  have hl := rawS_le s
  have e2 : (esumS s).2 = (rawS s 32).2 := rfl
  rw [e2]
  refine FnSpec.of_code (cx := cx) (an := {}) (rs := [.cell 2 23]) mo Tryz.func124 rfl rfl (by kernel_rfl) (by kernel_rfl) (by show 1 ≤ _; decide) (.inl rfl) (by simp [allWr, keys, Res.wr]) ?_
  repeat' (first | omega | assumption | (show AL.ahead _ _ _ = true; rfl) | refine brF (fun _ => ?_) (fun _ => ?_) | refine brT (fun _ => ?_) (fun _ => ?_) | refine brVF (fun _ => ?_) (fun _ => ?_) | refine brVT (fun _ => ?_) (fun _ => ?_) | (with_reducible refine And.intro ?_ ?_) | (refine callK_by (raw_spec _ m s 32 (by omega) (by omega)) ?_) | (simp -dsimp -implicitDefEqProofs only [go_sem, ↓reduceIte, Nat.reduceEqDiff, Nat.reduceAdd, Nat.reduceMul, Nat.reduceLeDiff, Nat.reduceLT, Nat.reduceBEq, Nat.reducePow, Int.reduceToNat, Int.reduceLE, Int.reduceLT, Int.reduceNeg, reduceCtorEq, Int.reduceEq, Int.reduceAdd, Int.reduceSub, Int.reduceMul, Nat.reduceSub, x1, x2, lt_nx0 hm, nx_gt0 hm, hr]))
  all_goals trace_state
theorem esumS_len (s : ES) : (esumS s).2.b.length ≤ s.b.length := rawS_len s 32
/-- sums that are read, one behind the other -/
def pathS (s : ES) : Nat → List Sum × ES
  | 0 => ([], s)
  | i + 1 => ((pathS s i).1 ++ [(esumS (pathS s i).2).1], (esumS (pathS s i).2).2)
theorem pathS_len (s : ES) : ∀ i, (pathS s i).1.length = i ∧ (pathS s i).2.b.length ≤ s.b.length
  | 0 => ⟨rfl, Nat.le_refl _⟩
  | i + 1 => by
    obtain ⟨h1, h2⟩ := pathS_len s i
    refine ⟨by simp [pathS, h1], Nat.le_trans (esumS_len _) h2⟩
structure Sig_ where
  at_ : Int
  leaves : Int
  path : List Sum
  one : List UInt8
  e : Int
def readS (b : List UInt8) : Sig_ :=
  let u := uptoS ⟨b, 0⟩ 64
  let v := uptoS u.2 64
  let k := uptoS v.2 8
  let p := pathS k.2 k.1.toNat
  let t := textS p.2 4096
  ⟨u.1, v.1, p.1, t.1, doneS t.2⟩
theorem uptoS_rng (s : ES) (most : Int) (hm : 0 ≤ most) : 0 ≤ (uptoS s most).1 ∧ (uptoS s most).1 ≤ most := by
  simp only [uptoS]
  by_cases h : most < ((numS s).1 : Int)
  · have hne : ¬ (failS (numS s).2 5).e = 0 := by
      unfold failS
      split
      · simp
      · assumption
    simp only [h, if_true, hne, if_false]
    exact ⟨Int.le_refl _, hm⟩
  · simp only [h, if_false]
    split
    · simp only; omega
    · simp only; omega
theorem read_spec (nx : Nat) (b : List UInt8) (hb : b.length < 2 ^ 40) :
    FnSpec Tryz.prog 119 nx [.sl 1 (u8s b) 0] [] (if (readS b).e = 0 then .tup [n64 (readS b).at_, n64 (readS b).leaves, .sl 32 (sumsA (readS b).path) 0, .sl 1 (u8s (readS b).one) 0, n64 0] else .tup [n64 0, n64 0, .sl 32 [] 0, .sl 0 [] 1, n64 (readS b).e]) [] 0 := by
  obtain ⟨u, hu⟩ : ∃ u, u = uptoS ⟨b, 0⟩ 64 := ⟨_, rfl⟩
  obtain ⟨v, hv⟩ : ∃ v, v = uptoS u.2 64 := ⟨_, rfl⟩
  obtain ⟨k, hk⟩ : ∃ k, k = uptoS v.2 8 := ⟨_, rfl⟩
  obtain ⟨q, hq⟩ : ∃ q, q = pathS k.2 k.1.toNat := ⟨_, rfl⟩
  obtain ⟨t, ht⟩ : ∃ t, t = textS q.2 4096 := ⟨_, rfl⟩
  have hr : readS b = ⟨u.1, v.1, q.1, t.1, doneS t.2⟩ := by rw [ht, hq, hk, hv, hu]; rfl
  have l1 := uptoS_len ⟨b, 0⟩ 64
  have l2 := uptoS_len u.2 64
  have l3 := uptoS_len v.2 8
  have l4 := pathS_len k.2 k.1.toNat
  have k8 := uptoS_rng v.2 8 (by decide)
  rw [← hu] at l1
  rw [← hv] at l2
  rw [← hk] at l3 k8
  rw [← hq] at l4
  simp only at l1
  rw [hr]
  simp only
  obtain ⟨kn, hkn⟩ : ∃ kn : Nat, k.1 = (kn : Int) := ⟨k.1.toNat, by omega⟩
  rw [hkn] at hq l4
  simp only [Int.toNat_natCast] at hq l4
  by_cases hd : doneS t.2 = 0
  · rw [if_pos hd]
    have key : FnSpec Tryz.prog 119 nx [.sl 1 (u8s b) 0] [] (.tup [n64 u.1, n64 v.1, .sl 32 (sumsA q.1) (nx + 19), .sl 1 (u8s t.1) 0, n64 0]) [(nx + 88, some (.obj (eyeA (if t.2.e = 0 ∧ 0 < t.2.b.length then ⟨t.2.b, 3⟩ else t.2)))), (nx + 17, some (.tail q.1.length))] 4000 := by
      refine FnSpec.of_code (cx := cx) (an := {tk := [(4, [([], 32)])]}) (rs := [.tmp 2, .tmp 3, .tmp 4, .tmp 5, .tmp 6]) mo Tryz.func119 rfl rfl (by kernel_rfl) (by kernel_rfl) (by show 1 ≤ _; decide) (.inr ⟨_, rfl, by simp [AV.good]⟩) (by simp [allWr, keys, Res.wr]) ?_
      repeat' (first | omega | assumption | (show AL.ahead _ _ _ = true; rfl) | refine brF (fun _ => ?_) (fun _ => ?_) | refine brT (fun _ => ?_) (fun _ => ?_) | refine brVF (fun _ => ?_) (fun _ => ?_) | refine brVT (fun _ => ?_) (fun _ => ?_) | (with_reducible refine And.intro ?_ ?_) | (refine callK_by (look_spec _ b) ?_) | (simp -dsimp -implicitDefEqProofs only [go_sem, ↓reduceIte, Nat.reduceEqDiff, Nat.reduceAdd, Nat.reduceMul, Nat.reduceLeDiff, Nat.reduceLT, Nat.reduceBEq, Nat.reducePow, Int.reduceToNat, Int.reduceLE, Int.reduceLT, Int.reduceNeg, reduceCtorEq, Int.reduceEq, Int.reduceAdd, Int.reduceSub, Int.reduceMul, Nat.reduceSub]))
      refine callK_by (upto_spec _ (nx + 88) ⟨b, 0⟩ 64 (by omega) (by simpa using hb)) ?_
      rw [← hu]
      repeat' (first | omega | assumption | (show AL.ahead _ _ _ = true; rfl) | refine brF (fun _ => ?_) (fun _ => ?_) | refine brT (fun _ => ?_) (fun _ => ?_) | refine brVF (fun _ => ?_) (fun _ => ?_) | refine brVT (fun _ => ?_) (fun _ => ?_) | (with_reducible refine And.intro ?_ ?_) | (simp -dsimp -implicitDefEqProofs only [go_sem, ↓reduceIte, Nat.reduceEqDiff, Nat.reduceAdd, Nat.reduceMul, Nat.reduceLeDiff, Nat.reduceLT, Nat.reduceBEq, Nat.reducePow, Int.reduceToNat, Int.reduceLE, Int.reduceLT, Int.reduceNeg, reduceCtorEq, Int.reduceEq, Int.reduceAdd, Int.reduceSub, Int.reduceMul, Nat.reduceSub]))
      refine callK_by (upto_spec _ (nx + 88) u.2 64 (by omega) (by omega)) ?_
      rw [← hv]
      repeat' (first | omega | assumption | (show AL.ahead _ _ _ = true; rfl) | refine brF (fun _ => ?_) (fun _ => ?_) | refine brT (fun _ => ?_) (fun _ => ?_) | refine brVF (fun _ => ?_) (fun _ => ?_) | refine brVT (fun _ => ?_) (fun _ => ?_) | (with_reducible refine And.intro ?_ ?_) | (simp -dsimp -implicitDefEqProofs only [go_sem, ↓reduceIte, Nat.reduceEqDiff, Nat.reduceAdd, Nat.reduceMul, Nat.reduceLeDiff, Nat.reduceLT, Nat.reduceBEq, Nat.reducePow, Int.reduceToNat, Int.reduceLE, Int.reduceLT, Int.reduceNeg, reduceCtorEq, Int.reduceEq, Int.reduceAdd, Int.reduceSub, Int.reduceMul, Nat.reduceSub]))
      refine callK_by (upto_spec _ (nx + 88) v.2 8 (by omega) (by omega)) ?_
      rw [← hk]
      repeat' (first | omega | assumption | (show AL.ahead _ _ _ = true; rfl) | refine brF (fun _ => ?_) (fun _ => ?_) | refine brT (fun _ => ?_) (fun _ => ?_) | refine brVF (fun _ => ?_) (fun _ => ?_) | refine brVT (fun _ => ?_) (fun _ => ?_) | (with_reducible refine And.intro ?_ ?_) | (simp -dsimp -implicitDefEqProofs only [go_sem, ↓reduceIte, Nat.reduceEqDiff, Nat.reduceAdd, Nat.reduceMul, Nat.reduceLeDiff, Nat.reduceLT, Nat.reduceBEq, Nat.reducePow, Int.reduceToNat, Int.reduceLE, Int.reduceLT, Int.reduceNeg, reduceCtorEq, Int.reduceEq, Int.reduceAdd, Int.reduceSub, Int.reduceMul, Nat.reduceSub]))
      apply loop_keep [2, 3, 7, 15] (fun i : { i : Nat // i ≤ kn } => [(4, .sl 32 (sumsA (pathS k.2 i.1).1) (nx + 19)), (16, n64 i.1)]) (fun i => [(nx + 88, some (.obj (eyeA (pathS k.2 i.1).2))), (nx + 17, some (.tail i.1))]) (fun i => kn - i.1) ⟨0, Nat.zero_le _⟩
      · simp -dsimp -implicitDefEqProofs only [go_sem, ↓reduceIte, Nat.reduceEqDiff, Nat.reduceAdd, Nat.reduceMul, Nat.reduceLeDiff, Nat.reduceLT, Nat.reduceBEq, Nat.reducePow, Int.reduceToNat, Int.reduceLE, Int.reduceLT, Int.reduceNeg, reduceCtorEq, Int.reduceEq, Int.reduceAdd, Int.reduceSub, Int.reduceMul, Nat.reduceSub]; try rfl
      · simp -dsimp -implicitDefEqProofs only [go_sem, ↓reduceIte, Nat.reduceEqDiff, Nat.reduceAdd, Nat.reduceMul, Nat.reduceLeDiff, Nat.reduceLT, Nat.reduceBEq, Nat.reducePow, Int.reduceToNat, Int.reduceLE, Int.reduceLT, Int.reduceNeg, reduceCtorEq, Int.reduceEq, Int.reduceAdd, Int.reduceSub, Int.reduceMul, Nat.reduceSub, pathS, sumsA, List.map_nil]; try rfl
      · simp -dsimp -implicitDefEqProofs only [go_sem, ↓reduceIte, Nat.reduceEqDiff, Nat.reduceAdd, Nat.reduceMul, Nat.reduceLeDiff, Nat.reduceLT, Nat.reduceBEq, Nat.reducePow, Int.reduceToNat, Int.reduceLE, Int.reduceLT, Int.reduceNeg, reduceCtorEq, Int.reduceEq, Int.reduceAdd, Int.reduceSub, Int.reduceMul, Nat.reduceSub, pathS]; try rfl
      · intro s
        simp -dsimp -implicitDefEqProofs only [go_sem, ↓reduceIte, Nat.reduceEqDiff, Nat.reduceAdd, Nat.reduceMul, Nat.reduceLeDiff, Nat.reduceLT, Nat.reduceBEq, Nat.reducePow, Int.reduceToNat, Int.reduceLE, Int.reduceLT, Int.reduceNeg, reduceCtorEq, Int.reduceEq, Int.reduceAdd, Int.reduceSub, Int.reduceMul, Nat.reduceSub]
        try omega
      · rintro ⟨i, hi⟩
        have hi : i ≤ kn := hi
        have hpl := pathS_len k.2 i
        simp -dsimp -implicitDefEqProofs only [go_sem, ↓reduceIte, Nat.reduceEqDiff, Nat.reduceAdd, Nat.reduceMul, Nat.reduceLeDiff, Nat.reduceLT, Nat.reduceBEq, Nat.reducePow, Int.reduceToNat, Int.reduceLE, Int.reduceLT, Int.reduceNeg, reduceCtorEq, Int.reduceEq, Int.reduceAdd, Int.reduceSub, Int.reduceMul, Nat.reduceSub, hkn]
        refine brT (fun h => ?_) (fun h => ?_)
        · have hi2 : i < kn := by omega
          have w1 : IntKind.i64.wrap ((i : Int) + 1) = ((i + 1 : Nat) : Int) := wrapE (by omega) (by omega)
          have e1 : pathS k.2 (i + 1) = ((pathS k.2 i).1 ++ [(esumS (pathS k.2 i).2).1], (esumS (pathS k.2 i).2).2) := rfl
          repeat' (first | omega | assumption | (show AL.ahead _ _ _ = true; rfl) | refine brF (fun _ => ?_) (fun _ => ?_) | refine brT (fun _ => ?_) (fun _ => ?_) | refine brVF (fun _ => ?_) (fun _ => ?_) | refine brVT (fun _ => ?_) (fun _ => ?_) | (with_reducible refine And.intro ?_ ?_) | (refine callK_by (esum_spec _ (nx + 88) (pathS k.2 i).2 (by omega) (by omega)) ?_) | (simp -dsimp -implicitDefEqProofs only [go_sem, ↓reduceIte, Nat.reduceEqDiff, Nat.reduceAdd, Nat.reduceMul, Nat.reduceLeDiff, Nat.reduceLT, Nat.reduceBEq, Nat.reducePow, Int.reduceToNat, Int.reduceLE, Int.reduceLT, Int.reduceNeg, reduceCtorEq, Int.reduceEq, Int.reduceAdd, Int.reduceSub, Int.reduceMul, Nat.reduceSub, w1, sums_snoc, hpl.1]))
          exact ⟨⟨i + 1, hi2⟩, by show kn - (i + 1) < kn - i; omega, ⟨by rw [e1], rfl, by rw [hkn]⟩, rfl, rfl⟩
        · have e : i = kn := by omega
          subst e
          repeat' (first | omega | assumption | (show AL.ahead _ _ _ = true; rfl) | refine brF (fun _ => ?_) (fun _ => ?_) | refine brT (fun _ => ?_) (fun _ => ?_) | refine brVF (fun _ => ?_) (fun _ => ?_) | refine brVT (fun _ => ?_) (fun _ => ?_) | (with_reducible refine And.intro ?_ ?_) | (refine callK_by (etext_spec _ (nx + 88) q.2 4096 (by omega) (by omega)) ?_) | (refine callK_by (done_spec _ (nx + 88) t.2 (by omega)) ?_) | (simp -dsimp -implicitDefEqProofs only [go_sem, ↓reduceIte, Nat.reduceEqDiff, Nat.reduceAdd, Nat.reduceMul, Nat.reduceLeDiff, Nat.reduceLT, Nat.reduceBEq, Nat.reducePow, Int.reduceToNat, Int.reduceLE, Int.reduceLT, Int.reduceNeg, reduceCtorEq, Int.reduceEq, Int.reduceAdd, Int.reduceSub, Int.reduceMul, Nat.reduceSub, ← hq, ← ht]))
          all_goals rw [l4.1]

    exact (key.outle (av' := .tup [n64 u.1, n64 v.1, .sl 32 (sumsA q.1) 0, .sl 1 (u8s t.1) 0, n64 0]) ⟨_, _, rfl, AV.le_refl _, _, _, rfl, AV.le_refl _, _, _, rfl, ⟨_, _, rfl, AV.les_refl _, .inr (.inl rfl)⟩, AV.les_refl _⟩).forget0 ⟨rfl, fun i x y h1 h2 => .inl (by rw [h1] at h2; exact Option.some.inj h2)⟩ (by simp [AV.nb, AV.nbs, nb_u8s, nb_sums]) (by simp [keys])
  · rw [if_neg hd]
    have key : FnSpec Tryz.prog 119 nx [.sl 1 (u8s b) 0] [] (.tup [n64 0, n64 0, .sl 32 [] (nx + 260), .sl 0 [] 1, n64 (doneS t.2)]) [(nx + 88, some (.obj (eyeA (if t.2.e = 0 ∧ 0 < t.2.b.length then ⟨t.2.b, 3⟩ else t.2)))), (nx + 17, some (.tail q.1.length)), (nx + 258, some (.tail 0))] 4000 := by
      refine FnSpec.of_code (cx := cx) (an := {tk := [(4, [([], 32)])]}) (rs := [.tmp 2, .tmp 3, .tmp 4, .tmp 5, .tmp 6]) mo Tryz.func119 rfl rfl (by kernel_rfl) (by kernel_rfl) (by show 1 ≤ _; decide) (.inr ⟨_, rfl, by simp [AV.good]⟩) (by simp [allWr, keys, Res.wr]) ?_
      repeat' (first | omega | assumption | (show AL.ahead _ _ _ = true; rfl) | refine brF (fun _ => ?_) (fun _ => ?_) | refine brT (fun _ => ?_) (fun _ => ?_) | refine brVF (fun _ => ?_) (fun _ => ?_) | refine brVT (fun _ => ?_) (fun _ => ?_) | (with_reducible refine And.intro ?_ ?_) | (refine callK_by (look_spec _ b) ?_) | (simp -dsimp -implicitDefEqProofs only [go_sem, ↓reduceIte, Nat.reduceEqDiff, Nat.reduceAdd, Nat.reduceMul, Nat.reduceLeDiff, Nat.reduceLT, Nat.reduceBEq, Nat.reducePow, Int.reduceToNat, Int.reduceLE, Int.reduceLT, Int.reduceNeg, reduceCtorEq, Int.reduceEq, Int.reduceAdd, Int.reduceSub, Int.reduceMul, Nat.reduceSub]))
      refine callK_by (upto_spec _ (nx + 88) ⟨b, 0⟩ 64 (by omega) (by simpa using hb)) ?_
      rw [← hu]
      repeat' (first | omega | assumption | (show AL.ahead _ _ _ = true; rfl) | refine brF (fun _ => ?_) (fun _ => ?_) | refine brT (fun _ => ?_) (fun _ => ?_) | refine brVF (fun _ => ?_) (fun _ => ?_) | refine brVT (fun _ => ?_) (fun _ => ?_) | (with_reducible refine And.intro ?_ ?_) | (simp -dsimp -implicitDefEqProofs only [go_sem, ↓reduceIte, Nat.reduceEqDiff, Nat.reduceAdd, Nat.reduceMul, Nat.reduceLeDiff, Nat.reduceLT, Nat.reduceBEq, Nat.reducePow, Int.reduceToNat, Int.reduceLE, Int.reduceLT, Int.reduceNeg, reduceCtorEq, Int.reduceEq, Int.reduceAdd, Int.reduceSub, Int.reduceMul, Nat.reduceSub]))
      refine callK_by (upto_spec _ (nx + 88) u.2 64 (by omega) (by omega)) ?_
      rw [← hv]
      repeat' (first | omega | assumption | (show AL.ahead _ _ _ = true; rfl) | refine brF (fun _ => ?_) (fun _ => ?_) | refine brT (fun _ => ?_) (fun _ => ?_) | refine brVF (fun _ => ?_) (fun _ => ?_) | refine brVT (fun _ => ?_) (fun _ => ?_) | (with_reducible refine And.intro ?_ ?_) | (simp -dsimp -implicitDefEqProofs only [go_sem, ↓reduceIte, Nat.reduceEqDiff, Nat.reduceAdd, Nat.reduceMul, Nat.reduceLeDiff, Nat.reduceLT, Nat.reduceBEq, Nat.reducePow, Int.reduceToNat, Int.reduceLE, Int.reduceLT, Int.reduceNeg, reduceCtorEq, Int.reduceEq, Int.reduceAdd, Int.reduceSub, Int.reduceMul, Nat.reduceSub]))
      refine callK_by (upto_spec _ (nx + 88) v.2 8 (by omega) (by omega)) ?_
      rw [← hk]
      repeat' (first | omega | assumption | (show AL.ahead _ _ _ = true; rfl) | refine brF (fun _ => ?_) (fun _ => ?_) | refine brT (fun _ => ?_) (fun _ => ?_) | refine brVF (fun _ => ?_) (fun _ => ?_) | refine brVT (fun _ => ?_) (fun _ => ?_) | (with_reducible refine And.intro ?_ ?_) | (simp -dsimp -implicitDefEqProofs only [go_sem, ↓reduceIte, Nat.reduceEqDiff, Nat.reduceAdd, Nat.reduceMul, Nat.reduceLeDiff, Nat.reduceLT, Nat.reduceBEq, Nat.reducePow, Int.reduceToNat, Int.reduceLE, Int.reduceLT, Int.reduceNeg, reduceCtorEq, Int.reduceEq, Int.reduceAdd, Int.reduceSub, Int.reduceMul, Nat.reduceSub]))
      apply loop_keep [2, 3, 7, 15] (fun i : { i : Nat // i ≤ kn } => [(4, .sl 32 (sumsA (pathS k.2 i.1).1) (nx + 19)), (16, n64 i.1)]) (fun i => [(nx + 88, some (.obj (eyeA (pathS k.2 i.1).2))), (nx + 17, some (.tail i.1))]) (fun i => kn - i.1) ⟨0, Nat.zero_le _⟩
      · simp -dsimp -implicitDefEqProofs only [go_sem, ↓reduceIte, Nat.reduceEqDiff, Nat.reduceAdd, Nat.reduceMul, Nat.reduceLeDiff, Nat.reduceLT, Nat.reduceBEq, Nat.reducePow, Int.reduceToNat, Int.reduceLE, Int.reduceLT, Int.reduceNeg, reduceCtorEq, Int.reduceEq, Int.reduceAdd, Int.reduceSub, Int.reduceMul, Nat.reduceSub]; try rfl
      · simp -dsimp -implicitDefEqProofs only [go_sem, ↓reduceIte, Nat.reduceEqDiff, Nat.reduceAdd, Nat.reduceMul, Nat.reduceLeDiff, Nat.reduceLT, Nat.reduceBEq, Nat.reducePow, Int.reduceToNat, Int.reduceLE, Int.reduceLT, Int.reduceNeg, reduceCtorEq, Int.reduceEq, Int.reduceAdd, Int.reduceSub, Int.reduceMul, Nat.reduceSub, pathS, sumsA, List.map_nil]; try rfl
      · simp -dsimp -implicitDefEqProofs only [go_sem, ↓reduceIte, Nat.reduceEqDiff, Nat.reduceAdd, Nat.reduceMul, Nat.reduceLeDiff, Nat.reduceLT, Nat.reduceBEq, Nat.reducePow, Int.reduceToNat, Int.reduceLE, Int.reduceLT, Int.reduceNeg, reduceCtorEq, Int.reduceEq, Int.reduceAdd, Int.reduceSub, Int.reduceMul, Nat.reduceSub, pathS]; try rfl
      · intro s
        simp -dsimp -implicitDefEqProofs only [go_sem, ↓reduceIte, Nat.reduceEqDiff, Nat.reduceAdd, Nat.reduceMul, Nat.reduceLeDiff, Nat.reduceLT, Nat.reduceBEq, Nat.reducePow, Int.reduceToNat, Int.reduceLE, Int.reduceLT, Int.reduceNeg, reduceCtorEq, Int.reduceEq, Int.reduceAdd, Int.reduceSub, Int.reduceMul, Nat.reduceSub]
        try omega
      · rintro ⟨i, hi⟩
        have hi : i ≤ kn := hi
        have hpl := pathS_len k.2 i
        simp -dsimp -implicitDefEqProofs only [go_sem, ↓reduceIte, Nat.reduceEqDiff, Nat.reduceAdd, Nat.reduceMul, Nat.reduceLeDiff, Nat.reduceLT, Nat.reduceBEq, Nat.reducePow, Int.reduceToNat, Int.reduceLE, Int.reduceLT, Int.reduceNeg, reduceCtorEq, Int.reduceEq, Int.reduceAdd, Int.reduceSub, Int.reduceMul, Nat.reduceSub, hkn]
        refine brT (fun h => ?_) (fun h => ?_)
        · have hi2 : i < kn := by omega
          have w1 : IntKind.i64.wrap ((i : Int) + 1) = ((i + 1 : Nat) : Int) := wrapE (by omega) (by omega)
          have e1 : pathS k.2 (i + 1) = ((pathS k.2 i).1 ++ [(esumS (pathS k.2 i).2).1], (esumS (pathS k.2 i).2).2) := rfl
          repeat' (first | omega | assumption | (show AL.ahead _ _ _ = true; rfl) | refine brF (fun _ => ?_) (fun _ => ?_) | refine brT (fun _ => ?_) (fun _ => ?_) | refine brVF (fun _ => ?_) (fun _ => ?_) | refine brVT (fun _ => ?_) (fun _ => ?_) | (with_reducible refine And.intro ?_ ?_) | (refine callK_by (esum_spec _ (nx + 88) (pathS k.2 i).2 (by omega) (by omega)) ?_) | (simp -dsimp -implicitDefEqProofs only [go_sem, ↓reduceIte, Nat.reduceEqDiff, Nat.reduceAdd, Nat.reduceMul, Nat.reduceLeDiff, Nat.reduceLT, Nat.reduceBEq, Nat.reducePow, Int.reduceToNat, Int.reduceLE, Int.reduceLT, Int.reduceNeg, reduceCtorEq, Int.reduceEq, Int.reduceAdd, Int.reduceSub, Int.reduceMul, Nat.reduceSub, w1, sums_snoc, hpl.1]))
          exact ⟨⟨i + 1, hi2⟩, by show kn - (i + 1) < kn - i; omega, ⟨by rw [e1], rfl, by rw [hkn]⟩, rfl, rfl⟩
        · have e : i = kn := by omega
          subst e
          repeat' (first | omega | assumption | (show AL.ahead _ _ _ = true; rfl) | refine brF (fun _ => ?_) (fun _ => ?_) | refine brT (fun _ => ?_) (fun _ => ?_) | refine brVF (fun _ => ?_) (fun _ => ?_) | refine brVT (fun _ => ?_) (fun _ => ?_) | (with_reducible refine And.intro ?_ ?_) | (refine callK_by (etext_spec _ (nx + 88) q.2 4096 (by omega) (by omega)) ?_) | (refine callK_by (done_spec _ (nx + 88) t.2 (by omega)) ?_) | (simp -dsimp -implicitDefEqProofs only [go_sem, ↓reduceIte, Nat.reduceEqDiff, Nat.reduceAdd, Nat.reduceMul, Nat.reduceLeDiff, Nat.reduceLT, Nat.reduceBEq, Nat.reducePow, Int.reduceToNat, Int.reduceLE, Int.reduceLT, Int.reduceNeg, reduceCtorEq, Int.reduceEq, Int.reduceAdd, Int.reduceSub, Int.reduceMul, Nat.reduceSub, ← hq, ← ht]))
          all_goals rw [l4.1]

    exact (key.outle (av' := .tup [n64 0, n64 0, .sl 32 [] 0, .sl 0 [] 1, n64 (doneS t.2)]) ⟨_, _, rfl, AV.le_refl _, _, _, rfl, AV.le_refl _, _, _, rfl, ⟨_, _, rfl, AV.les_refl _, .inr (.inl rfl)⟩, AV.les_refl _⟩).forget0 ⟨rfl, fun i x y h1 h2 => .inl (by rw [h1] at h2; exact Option.some.inj h2)⟩ (by simp [AV.nb, AV.nbs, nb_u8s]) (by simp [keys])
end Go.Proofs.YtjcnhgmaabkelaaGreat

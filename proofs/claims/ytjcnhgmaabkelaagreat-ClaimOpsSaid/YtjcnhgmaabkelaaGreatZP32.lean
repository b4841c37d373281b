/-
  slices.Equal of bytes.
-/
import Derived.Test.YtjcnhgmaabkelaaGreatZP12
import Derived.Test.YtjcnhgmaabkelaaGreatZP25
import Derived.Test.YtjcnhgmaabkelaaGreatZP14
import Derived.Test.YtjcnhgmaabkelaaGreatAL24
import Derived.Test.YtjcnhgmaabkelaaGreatRows
set_option linter.unusedSimpArgs false
set_option linter.unusedVariables false
set_option maxRecDepth 100000
set_option maxHeartbeats 1000000
namespace Go.Proofs.YtjcnhgmaabkelaaGreat
open Go Go.AL Go.Proofs.YtjcnhgmaabkelaaGreat.T
attribute [local go_sem] nb_u8s u8s_length
theorem bytes_ext {a b : List UInt8} (hl : a.length = b.length) (h : ∀ j, j < a.length → a.getD j 0 = b.getD j 0) : a = b := by
  apply List.ext_getElem hl
  intro j h1 h2
  have := h j h1
  simpa [List.getD_eq_getElem?_getD, List.getElem?_eq_getElem h1, List.getElem?_eq_getElem h2] using this
theorem u8_inj {a b : UInt8} (h : (a.toNat : Int) = (b.toNat : Int)) : a = b := UInt8.toNat_inj.1 (by omega)
theorem equal_spec (nx : Nat) (a b : List UInt8) (ta tb : Nat) (ha : a.length < 2 ^ 40) (hb : b.length < 2 ^ 40) (h1 : ta < 2 ∨ ta - 2 < nx) (h2 : tb < 2 ∨ tb - 2 < nx) :
    FnSpec Tryz.prog 62 nx [.sl 1 (u8s a) ta, .sl 1 (u8s b) tb] [] (bA (decide (a = b))) [] 0 := by
  refine FnSpec.of_code (cx := cx) (an := {}) (rs := [.tmp 4]) mo Tryz.func62 rfl rfl (by kernel_rfl) (by kernel_rfl) (by show 2 ≤ _; decide) (.inl rfl) (by simp [allWr, keys, Res.wr]) ?_
  repeat' (first | omega | assumption | (show AL.ahead _ _ _ = true; rfl) | refine brF (fun _ => ?_) (fun _ => ?_) | refine brT (fun _ => ?_) (fun _ => ?_) | refine brVF (fun _ => ?_) (fun _ => ?_) | refine brVT (fun _ => ?_) (fun _ => ?_) | (with_reducible refine And.intro ?_ ?_) | (simp -dsimp -implicitDefEqProofs only [go_sem, ↓reduceIte, Nat.reduceEqDiff, Nat.reduceAdd, Nat.reduceMul, Nat.reduceLeDiff, Nat.reduceLT, Nat.reduceBEq, Nat.reducePow, Int.reduceToNat, Int.reduceLE, Int.reduceLT, Int.reduceNeg, reduceCtorEq, Int.reduceEq, Int.reduceAdd, Int.reduceSub, Int.reduceMul, Nat.reduceSub]))
  · rename_i hne
    have e : decide (a = b) = false := decide_eq_false (fun e => by subst e; omega)
    rw [e]
  rename_i heq
  have heq : a.length = b.length := by omega
  apply loop_keep [0, 1, 12] (fun i : { i : Nat // i ≤ a.length ∧ ∀ j, j < i → a.getD j 0 = b.getD j 0 } => [(13, n64 i.1)]) (fun _ => []) (fun i => a.length - i.1) ⟨0, Nat.zero_le _, fun j hj => absurd hj (Nat.not_lt_zero _)⟩
  · simp -dsimp -implicitDefEqProofs only [go_sem, ↓reduceIte, Nat.reduceEqDiff, Nat.reduceAdd, Nat.reduceMul, Nat.reduceLeDiff, Nat.reduceLT, Nat.reduceBEq, Nat.reducePow, Int.reduceToNat, Int.reduceLE, Int.reduceLT, Int.reduceNeg, reduceCtorEq, Int.reduceEq, Int.reduceAdd, Int.reduceSub, Int.reduceMul, Nat.reduceSub]; rfl
  · simp -dsimp -implicitDefEqProofs only [go_sem, ↓reduceIte, Nat.reduceEqDiff, Nat.reduceAdd, Nat.reduceMul, Nat.reduceLeDiff, Nat.reduceLT, Nat.reduceBEq, Nat.reducePow, Int.reduceToNat, Int.reduceLE, Int.reduceLT, Int.reduceNeg, reduceCtorEq, Int.reduceEq, Int.reduceAdd, Int.reduceSub, Int.reduceMul, Nat.reduceSub]; try rfl
  · simp -dsimp -implicitDefEqProofs only [go_sem, ↓reduceIte, Nat.reduceEqDiff, Nat.reduceAdd, Nat.reduceMul, Nat.reduceLeDiff, Nat.reduceLT, Nat.reduceBEq, Nat.reducePow, Int.reduceToNat, Int.reduceLE, Int.reduceLT, Int.reduceNeg, reduceCtorEq, Int.reduceEq, Int.reduceAdd, Int.reduceSub, Int.reduceMul, Nat.reduceSub]; try rfl
  · intro s
    simp -dsimp -implicitDefEqProofs only [go_sem, ↓reduceIte, Nat.reduceEqDiff, Nat.reduceAdd, Nat.reduceMul, Nat.reduceLeDiff, Nat.reduceLT, Nat.reduceBEq, Nat.reducePow, Int.reduceToNat, Int.reduceLE, Int.reduceLT, Int.reduceNeg, reduceCtorEq, Int.reduceEq, Int.reduceAdd, Int.reduceSub, Int.reduceMul, Nat.reduceSub]
    try omega
  · rintro ⟨i, hi, hall⟩
    have hi : i ≤ a.length := hi
    simp -dsimp -implicitDefEqProofs only [go_sem, ↓reduceIte, Nat.reduceEqDiff, Nat.reduceAdd, Nat.reduceMul, Nat.reduceLeDiff, Nat.reduceLT, Nat.reduceBEq, Nat.reducePow, Int.reduceToNat, Int.reduceLE, Int.reduceLT, Int.reduceNeg, reduceCtorEq, Int.reduceEq, Int.reduceAdd, Int.reduceSub, Int.reduceMul, Nat.reduceSub]
    refine brT (fun hc => ?_) (fun hc => ?_)
    · have hi2 : i < a.length := by omega
      have hi3 : i < b.length := by omega
      have q1 := u8s_get hi2
      have q2 := u8s_get hi3
      have w1 : IntKind.i64.wrap ((i : Int) + 1) = ((i + 1 : Nat) : Int) := wrapE (by omega) (by omega)
      repeat' (first | omega | assumption | (show AL.ahead _ _ _ = true; rfl) | refine brF (fun _ => ?_) (fun _ => ?_) | refine brT (fun _ => ?_) (fun _ => ?_) | refine brVF (fun _ => ?_) (fun _ => ?_) | refine brVT (fun _ => ?_) (fun _ => ?_) | (with_reducible refine And.intro ?_ ?_) | (simp -dsimp -implicitDefEqProofs only [go_sem, ↓reduceIte, Nat.reduceEqDiff, Nat.reduceAdd, Nat.reduceMul, Nat.reduceLeDiff, Nat.reduceLT, Nat.reduceBEq, Nat.reducePow, Int.reduceToNat, Int.reduceLE, Int.reduceLT, Int.reduceNeg, reduceCtorEq, Int.reduceEq, Int.reduceAdd, Int.reduceSub, Int.reduceMul, Nat.reduceSub, q1, q2, w1]))
      all_goals first
        | (rename_i hx
           have e : decide (a = b) = false := decide_eq_false (fun e => hx (by rw [e]))
           rw [e])
        | (rename_i hx
           refine ⟨⟨i + 1, hi2, fun j hj => ?_⟩, by show a.length - (i + 1) < a.length - i; omega, rfl⟩
           by_cases hj3 : j < i
           · exact hall j hj3
           · have e : j = i := by omega
             subst e
             exact u8_inj (by omega))
        | trace_state
    · have e : i = a.length := by omega
      subst e
      repeat' (first | omega | assumption | (show AL.ahead _ _ _ = true; rfl) | refine brF (fun _ => ?_) (fun _ => ?_) | refine brT (fun _ => ?_) (fun _ => ?_) | refine brVF (fun _ => ?_) (fun _ => ?_) | refine brVT (fun _ => ?_) (fun _ => ?_) | (with_reducible refine And.intro ?_ ?_) | (simp -dsimp -implicitDefEqProofs only [go_sem, ↓reduceIte, Nat.reduceEqDiff, Nat.reduceAdd, Nat.reduceMul, Nat.reduceLeDiff, Nat.reduceLT, Nat.reduceBEq, Nat.reducePow, Int.reduceToNat, Int.reduceLE, Int.reduceLT, Int.reduceNeg, reduceCtorEq, Int.reduceEq, Int.reduceAdd, Int.reduceSub, Int.reduceMul, Nat.reduceSub]))
      have e : decide (a = b) = true := decide_eq_true (bytes_ext heq hall)
      rw [e]
end Go.Proofs.YtjcnhgmaabkelaaGreat

/-
  Is a transaction like itself? What a new book says.
-/
set_option linter.unusedSimpArgs false
set_option linter.unusedVariables false
set_option maxRecDepth 100000
set_option maxHeartbeats 1000000
namespace Go.Proofs.YtjcnhgmaabkelaaGreat
open Go Go.AL Go.Proofs.YtjcnhgmaabkelaaGreat.T
attribute [local go_sem] nb_u8s u8s_length nb_sum sumA List.length_replicate zero_sum sum_h nb_vals vals_len u8s_nil ways_len nb_ways ins_len outs_len signs_len nb_ins nb_outs nb_signs
theorem sameT_spec (nx : Nat) (t : Tx_) (hL : txL t) (hb : (bytL t).length < 2 ^ 38) (hk : ∀ o ∈ t.outs, ∀ w ∈ o.ways, w.keys.length < 2 ^ 32) : FnSpec Tryz.prog 30 nx [txA t, txA t] [] (bA (txB t)) [] 0 := by
  cases hB : txB t with
  | true =>
    have h1 := fun nc => bytesOk_spec nc t hL hB hb hk
    have h2 := fun nc => equal_spec nc (bytL t) (bytL t) 0 0 (by omega) (by omega) (by omega) (by omega)
    simp only [decide_true] at h2
    refine FnSpec.of_code (cx := cx) (an := {}) (rs := [.tmp 4]) mo Tryz.func30 rfl rfl (by kernel_rfl) (by kernel_rfl) (by show 2 ≤ _; decide) (.inl rfl) (by simp [allWr, keys, Res.wr]) ?_
    repeat' (first | omega | assumption | (show AL.ahead _ _ _ = true; rfl) | refine brF (fun _ => ?_) (fun _ => ?_) | refine brT (fun _ => ?_) (fun _ => ?_) | refine brVF (fun _ => ?_) (fun _ => ?_) | refine brVT (fun _ => ?_) (fun _ => ?_) | (with_reducible refine And.intro ?_ ?_) | (refine callK_by (h1 _) ?_) | (refine callK_by (h2 _) ?_) | (simp -dsimp -implicitDefEqProofs only [go_sem, ↓reduceIte, Nat.reduceEqDiff, Nat.reduceAdd, Nat.reduceMul, Nat.reduceLeDiff, Nat.reduceLT, Nat.reduceBEq, Nat.reducePow, Int.reduceToNat, Int.reduceLE, Int.reduceLT, Int.reduceNeg, reduceCtorEq, Int.reduceEq, Int.reduceAdd, Int.reduceSub, Int.reduceMul, Nat.reduceSub, txA_good, txA_csz, txA_agg, nb_tx]))
    all_goals trace_state
  | false =>
    have h1 := fun nc => bytesBad_spec nc t hL hB
    refine FnSpec.of_code (cx := cx) (an := {}) (rs := [.tmp 4]) mo Tryz.func30 rfl rfl (by kernel_rfl) (by kernel_rfl) (by show 2 ≤ _; decide) (.inl rfl) (by simp [allWr, keys, Res.wr]) ?_
    repeat' (first | omega | assumption | (show AL.ahead _ _ _ = true; rfl) | refine brF (fun _ => ?_) (fun _ => ?_) | refine brT (fun _ => ?_) (fun _ => ?_) | refine brVF (fun _ => ?_) (fun _ => ?_) | refine brVT (fun _ => ?_) (fun _ => ?_) | (with_reducible refine And.intro ?_ ?_) | (refine callK_by (h1 _) ?_) | (simp -dsimp -implicitDefEqProofs only [go_sem, ↓reduceIte, Nat.reduceEqDiff, Nat.reduceAdd, Nat.reduceMul, Nat.reduceLeDiff, Nat.reduceLT, Nat.reduceBEq, Nat.reducePow, Int.reduceToNat, Int.reduceLE, Int.reduceLT, Int.reduceNeg, reduceCtorEq, Int.reduceEq, Int.reduceAdd, Int.reduceSub, Int.reduceMul, Nat.reduceSub, txA_good, txA_csz, txA_agg, nb_tx]))
    all_goals trace_state
theorem body_byt (t : Tx_) : (bodyL true t).length ≤ (bytL t).length := by simp only [bytL, List.length_append]; omega
theorem lawSame_spec (nx : Nat) (t : Tx_) (hL : txL t) (hb : (bytL t).length < 2 ^ 38) (hk : ∀ o ∈ t.outs, ∀ w ∈ o.ways, w.keys.length < 2 ^ 32) : FnSpec Tryz.prog 10 nx [txA t, txA t] [] (bA true) [] 0 := by
  have hbb := body_byt t
  have h1 := fun nc => sameT_spec nc t hL hb hk
  have h2 := fun nc => txR_spec nc t hL
  have h3 := fun nc => txSum_spec nc t (by omega) hk
  cases hB : txB t with
  | true =>
    rw [hB] at h1 h2
    refine FnSpec.of_code (cx := cx) (an := {}) (rs := [.tmp 4]) mo Tryz.func10 rfl rfl (by kernel_rfl) (by kernel_rfl) (by show 2 ≤ _; decide) (.inl rfl) (by simp [allWr, keys, Res.wr]) ?_
    repeat' (first | omega | assumption | (show AL.ahead _ _ _ = true; rfl) | refine brF (fun _ => ?_) (fun _ => ?_) | refine brT (fun _ => ?_) (fun _ => ?_) | refine brVF (fun _ => ?_) (fun _ => ?_) | refine brVT (fun _ => ?_) (fun _ => ?_) | (with_reducible refine And.intro ?_ ?_) | (refine callK_by (h1 _) ?_) | (refine callK_by (h2 _) ?_) | (refine callK_by (h3 _) ?_) | (simp -dsimp -implicitDefEqProofs only [go_sem, ↓reduceIte, Nat.reduceEqDiff, Nat.reduceAdd, Nat.reduceMul, Nat.reduceLeDiff, Nat.reduceLT, Nat.reduceBEq, Nat.reducePow, Int.reduceToNat, Int.reduceLE, Int.reduceLT, Int.reduceNeg, reduceCtorEq, Int.reduceEq, Int.reduceAdd, Int.reduceSub, Int.reduceMul, Nat.reduceSub, txA_good, txA_csz, txA_agg, nb_tx, ↓cmp_sum, isSumT, decide_eq_true_eq, Bool.and_self, eqB_self]))
    all_goals trace_state
  | false =>
    rw [hB] at h1 h2
    refine FnSpec.of_code (cx := cx) (an := {}) (rs := [.tmp 4]) mo Tryz.func10 rfl rfl (by kernel_rfl) (by kernel_rfl) (by show 2 ≤ _; decide) (.inl rfl) (by simp [allWr, keys, Res.wr]) ?_
    repeat' (first | omega | assumption | (show AL.ahead _ _ _ = true; rfl) | refine brF (fun _ => ?_) (fun _ => ?_) | refine brT (fun _ => ?_) (fun _ => ?_) | refine brVF (fun _ => ?_) (fun _ => ?_) | refine brVT (fun _ => ?_) (fun _ => ?_) | (with_reducible refine And.intro ?_ ?_) | (refine callK_by (h1 _) ?_) | (refine callK_by (h2 _) ?_) | (refine callK_by (h3 _) ?_) | (simp -dsimp -implicitDefEqProofs only [go_sem, ↓reduceIte, Nat.reduceEqDiff, Nat.reduceAdd, Nat.reduceMul, Nat.reduceLeDiff, Nat.reduceLT, Nat.reduceBEq, Nat.reducePow, Int.reduceToNat, Int.reduceLE, Int.reduceLT, Int.reduceNeg, reduceCtorEq, Int.reduceEq, Int.reduceAdd, Int.reduceSub, Int.reduceMul, Nat.reduceSub, txA_good, txA_csz, txA_agg, nb_tx, ↓cmp_sum, isSumT, decide_eq_true_eq, Bool.and_self, eqB_self]))
    all_goals trace_state
end Go.Proofs.YtjcnhgmaabkelaaGreat

/-
  What a new book says; the example of the law ClaimOps.
-/
set_option linter.unusedSimpArgs false
set_option linter.unusedVariables false
set_option maxRecDepth 100000
set_option maxHeartbeats 1000000
namespace Go.Proofs.YtjcnhgmaabkelaaGreat
open Go Go.AL Go.Proofs.YtjcnhgmaabkelaaGreat.T
attribute [local go_sem] nb_u8s u8s_length nb_sum sumA List.length_replicate zero_sum sum_h nb_vals vals_len u8s_nil ways_len nb_ways ins_len outs_len signs_len nb_ins nb_outs nb_signs
def bookZ (m : Nat) : AV := .agg 47 [chanA chanZ, bA false, .sl 67 [] 1, .sl 33 [] 1, .agg 1 [.sl 32 [] 1], n64 0, .sl 69 [] 1, .map m, bA false]
theorem bnew_spec (nx : Nat) : FnSpec Tryz.prog 15 nx [] [] (.cref (bookZ (nx + 8))) [] 40 := by
  refine FnSpec.of_code (cx := cx) (an := {}) (rs := [.tmp 0]) mo Tryz.func15 rfl rfl (by kernel_rfl) (by kernel_rfl) (by show 0 ≤ _; decide) (.inl rfl) (by simp [allWr, keys, Res.wr]) ?_
  repeat' (first | omega | assumption | (show AL.ahead _ _ _ = true; rfl) | refine brF (fun _ => ?_) (fun _ => ?_) | refine brT (fun _ => ?_) (fun _ => ?_) | refine brVF (fun _ => ?_) (fun _ => ?_) | refine brVT (fun _ => ?_) (fun _ => ?_) | (with_reducible refine And.intro ?_ ?_) | (simp -dsimp -implicitDefEqProofs only [go_sem, ↓reduceIte, Nat.reduceEqDiff, Nat.reduceAdd, Nat.reduceMul, Nat.reduceLeDiff, Nat.reduceLT, Nat.reduceBEq, Nat.reducePow, Int.reduceToNat, Int.reduceLE, Int.reduceLT, Int.reduceNeg, reduceCtorEq, Int.reduceEq, Int.reduceAdd, Int.reduceSub, Int.reduceMul, Nat.reduceSub, bookZ, chanA, refA, chanZ]))
theorem bnone_new (nx m : Nat) (hm : m < nx) : FnSpec Tryz.prog 32 nx [.cref (bookZ m)] [] (bA false) [] 0 := by
  have x1 := fun k => lt_nx hm k
  have x2 := fun k => nx_gt hm k
  refine FnSpec.of_code (cx := cx) (an := {}) (rs := [.tmp 2]) mo Tryz.func32 rfl rfl (by kernel_rfl) (by kernel_rfl) (by show 1 ≤ _; decide) (.inl rfl) (by simp [allWr, keys, Res.wr]) ?_
  repeat' (first | omega | assumption | (show AL.ahead _ _ _ = true; rfl) | refine brF (fun _ => ?_) (fun _ => ?_) | refine brT (fun _ => ?_) (fun _ => ?_) | refine brVF (fun _ => ?_) (fun _ => ?_) | refine brVT (fun _ => ?_) (fun _ => ?_) | (with_reducible refine And.intro ?_ ?_) | (simp -dsimp -implicitDefEqProofs only [go_sem, ↓reduceIte, Nat.reduceEqDiff, Nat.reduceAdd, Nat.reduceMul, Nat.reduceLeDiff, Nat.reduceLT, Nat.reduceBEq, Nat.reducePow, Int.reduceToNat, Int.reduceLE, Int.reduceLT, Int.reduceNeg, reduceCtorEq, Int.reduceEq, Int.reduceAdd, Int.reduceSub, Int.reduceMul, Nat.reduceSub, bookZ, chanA, refA, chanZ]))
theorem bchan_new (nx m : Nat) (hm : m < nx) : FnSpec Tryz.prog 41 nx [.cref (bookZ m)] [] (.tup [chanA chanZ, bA false]) [] 0 := by
  have h := fun nc (h : m < nc) => bnone_new nc m h
  simp only [bookZ] at h
  refine FnSpec.of_code (cx := cx) (an := {}) (rs := [.cell 2 27, .tmp 3]) mo Tryz.func41 rfl rfl (by kernel_rfl) (by kernel_rfl) (by show 1 ≤ _; decide) (.inr ⟨_, rfl, by simp [AV.good, chanA]⟩) (by simp [allWr, keys, Res.wr]) ?_
  repeat' (first | omega | assumption | (show AL.ahead _ _ _ = true; rfl) | refine brF (fun _ => ?_) (fun _ => ?_) | refine brT (fun _ => ?_) (fun _ => ?_) | refine brVF (fun _ => ?_) (fun _ => ?_) | refine brVT (fun _ => ?_) (fun _ => ?_) | (with_reducible refine And.intro ?_ ?_) | (refine callK_by (h _ (by omega)) ?_) | (simp -dsimp -implicitDefEqProofs only [go_sem, ↓reduceIte, Nat.reduceEqDiff, Nat.reduceAdd, Nat.reduceMul, Nat.reduceLeDiff, Nat.reduceLT, Nat.reduceBEq, Nat.reducePow, Int.reduceToNat, Int.reduceLE, Int.reduceLT, Int.reduceNeg, reduceCtorEq, Int.reduceEq, Int.reduceAdd, Int.reduceSub, Int.reduceMul, Nat.reduceSub, chanA, refA, chanZ, bookZ]))
theorem own_new (nx m : Nat) (hm : m < nx) : FnSpec Tryz.prog 20 nx [.cref (bookZ m)] [] (.tup [tx0, n64 9]) [] 0 := by
  have h := fun nc (h : m < nc) => bchan_new nc m h
  simp only [bookZ] at h
  refine FnSpec.of_code (cx := cx) (an := {}) (rs := [.cell 2 42, .tmp 3]) mo Tryz.func20 rfl rfl (by kernel_rfl) (by kernel_rfl) (by show 1 ≤ _; decide) (.inr ⟨_, rfl, by simp [AV.good, tx0]⟩) (by simp [allWr, keys, Res.wr]) ?_
  repeat' (first | omega | assumption | (show AL.ahead _ _ _ = true; rfl) | refine brF (fun _ => ?_) (fun _ => ?_) | refine brT (fun _ => ?_) (fun _ => ?_) | refine brVF (fun _ => ?_) (fun _ => ?_) | refine brVT (fun _ => ?_) (fun _ => ?_) | (with_reducible refine And.intro ?_ ?_) | (refine callK_by (h _ (by omega)) ?_) | (simp -dsimp -implicitDefEqProofs only [go_sem, ↓reduceIte, Nat.reduceEqDiff, Nat.reduceAdd, Nat.reduceMul, Nat.reduceLeDiff, Nat.reduceLT, Nat.reduceBEq, Nat.reducePow, Int.reduceToNat, Int.reduceLE, Int.reduceLT, Int.reduceNeg, reduceCtorEq, Int.reduceEq, Int.reduceAdd, Int.reduceSub, Int.reduceMul, Nat.reduceSub, chanA, refA, chanZ, bookZ, tx0]))
  all_goals trace_state
theorem txA_p3l (t : Tx_) : (txA t).parts.getD 3 .undef = .sl 33 (signsA t.signs) 0 := rfl
theorem cawake_spec (nx : Nat) : FnSpec Tryz.prog 5 nx [] [] (bA true) [] 0 := by
  have h := fun nc (h : nx + 80 < nc) => own_new nc (nx + 80) h
  simp only [bookZ] at h
  have hs := fun nc => settle_spec nc ⟨0, 1, 0, ⟨zeroS, 0⟩, 0, 0, 0⟩ 3 5
  simp only [chanA, refA] at hs
  have hn : ∀ t : Tx_, signsA (signedT t 1).signs = [signA ⟨1, txS t⟩] := fun t => rfl
  refine FnSpec.of_code (cx := cx) (an := {}) (rs := [.tmp 0]) mo Tryz.func5 rfl rfl (by kernel_rfl) (by kernel_rfl) (by show 0 ≤ _; decide) (.inl rfl) (by simp [allWr, keys, Res.wr]) ?_
  repeat' (first | omega | assumption | (show AL.ahead _ _ _ = true; rfl) | refine brF (fun _ => ?_) (fun _ => ?_) | refine brT (fun _ => ?_) (fun _ => ?_) | refine brVF (fun _ => ?_) (fun _ => ?_) | refine brVT (fun _ => ?_) (fun _ => ?_) | (with_reducible refine And.intro ?_ ?_) | (refine callK_by (bnew_spec _) ?_) | (refine callK_by (h _ (by omega)) ?_) | (refine callK_by (planNil_spec _) ?_) | (refine callK_by (owedNil_spec _) ?_) | (refine callK_by (hs _) ?_) | (simp -dsimp -implicitDefEqProofs only [go_sem, ↓reduceIte, Nat.reduceEqDiff, Nat.reduceAdd, Nat.reduceMul, Nat.reduceLeDiff, Nat.reduceLT, Nat.reduceBEq, Nat.reducePow, Int.reduceToNat, Int.reduceLE, Int.reduceLT, Int.reduceNeg, reduceCtorEq, Int.reduceEq, Int.reduceAdd, Int.reduceSub, Int.reduceMul, Nat.reduceSub, chanA, refA, chanZ, bookZ, txA_good, txA_csz, txA_agg, nb_tx, txA_p3, txA_len, txA_off, hn, tx0_good, tx0_csz, tx0_agg]))
  all_goals trace_state
end Go.Proofs.YtjcnhgmaabkelaaGreat

/-
  The law ClaimOps.
-/
set_option linter.unusedSimpArgs false
set_option linter.unusedVariables false
set_option maxRecDepth 100000
set_option maxHeartbeats 1000000
namespace Go.Proofs.YtjcnhgmaabkelaaGreat
open Go Go.AL Go.Proofs.YtjcnhgmaabkelaaGreat.T
attribute [local go_sem] nb_u8s u8s_length nb_sum sumA List.length_replicate zero_sum sum_h nb_vals vals_len u8s_nil ways_len nb_ways ins_len outs_len signs_len nb_ins nb_outs nb_signs
theorem sign1_len (t : Tx_) (k : Int) (hb : (bodyL true t).length < 2 ^ 37) : (bytL (signedT t k)).length < 2 ^ 38 := by
  have h1 := numI_len ((1 : Nat) : Int)
  have h2 := numI_len k
  have h3 : bodyL true (signedT t k) = bodyL true t := rfl
  have h4 : (signedT t k).signs = [⟨k, txS t⟩] := rfl
  simp only [bytL, h3, h4, List.flatMap_cons, List.flatMap_nil, signL, List.length_append, sum_h, List.length_cons, List.length_nil, Nat.zero_add]
  omega
theorem sweepT_len' (k : Int) (id : Sum) (a : Int) : (bodyL true (sweepT k id a)).length < 2 ^ 37 := by
  have h1 := numI_len ((1 : Nat) : Int)
  have h2 := inL_le ⟨⟨id, 0⟩, 0, []⟩
  have h3 := outL_to k a
  have h4 := opL_le op0
  simp only [op0, List.length_nil] at h4 h2
  simp only [bodyL, sweepT, op0, List.flatMap_cons, List.flatMap_nil, List.append_nil, List.length_append, List.length_cons, List.length_nil, Nat.zero_add]
  omega
theorem settleT_len' (ch k t a : Int) : (bodyL true (settleT ch k t a)).length < 2 ^ 37 := by
  have h1 := numI_len ((1 : Nat) : Int)
  have h2 := numI_len ((0 : Nat) : Int)
  have h3 := outL_to k a
  have h4 := opL_le ⟨7, t, ch, 0, zeroS, []⟩
  simp only [List.length_nil] at h4
  simp only [bodyL, settleT, List.flatMap_cons, List.flatMap_nil, List.append_nil, List.length_append, List.length_cons, List.length_nil, Nat.zero_add]
  omega
theorem proveT_len' (ch t : Int) (d : List UInt8) (hd : d.length ≤ 65536) : (bodyL true (proveT ch t d)).length < 2 ^ 37 := by
  have h2 := numI_len ((0 : Nat) : Int)
  have h4 := opL_le ⟨6, t, ch, 0, zeroS, d⟩
  simp only at h4
  simp only [bodyL, proveT, List.flatMap_nil, List.append_nil, List.length_append, List.length_nil]
  omega
theorem to_L (k a : Int) : ∀ o ∈ [toO k a], o.ways.length < 2 ^ 40 ∧ ∀ w ∈ o.ways, w.keys.length < 2 ^ 40 := by
  intro o ho
  simp at ho; subst ho
  refine ⟨by simp [toO], fun w hw => ?_⟩
  simp [toO] at hw; subst hw
  simp
theorem sweepT_L (k : Int) (id : Sum) (a k' : Int) : txL (signedT (sweepT k id a) k') := by
  refine ⟨fun x hx => ?_, by simp [signedT, sweepT, op0], by simp [signedT, sweepT], by simp [signedT, sweepT], by simp [signedT], to_L k a⟩
  simp [signedT, sweepT] at hx; subst hx; simp
theorem settleT_L (ch k t a k' : Int) : txL (signedT (settleT ch k t a) k') := by
  refine ⟨fun x hx => ?_, by simp [signedT, settleT], by simp [signedT, settleT], by simp [signedT, settleT], by simp [signedT], to_L k a⟩
  simp [signedT, settleT] at hx
theorem proveT_L (ch t : Int) (d : List UInt8) (k' : Int) (hd : d.length ≤ 65536) : txL (signedT (proveT ch t d) k') := by
  refine ⟨fun x hx => ?_, by simp [signedT, proveT]; omega, by simp [signedT, proveT], by simp [signedT, proveT], by simp [signedT], fun o ho => ?_⟩
  · simp [signedT, proveT] at hx
  · simp [signedT, proveT] at ho
theorem lawSweep_same (nx : Nat) (k : Int) (id : Sum) (a : Int) : FnSpec Tryz.prog 10 nx [txA (signedT (sweepT k id a) k), txA (signedT (sweepT k id a) k)] [] (bA true) [] 0 :=
  lawSame_spec nx _ (sweepT_L k id a k) (sign1_len _ k (sweepT_len' k id a)) (toO_keys k a _ rfl)
theorem lawSettle_same (nx : Nat) (ch k t a : Int) : FnSpec Tryz.prog 10 nx [txA (signedT (settleT ch k t a) k), txA (signedT (settleT ch k t a) k)] [] (bA true) [] 0 :=
  lawSame_spec nx _ (settleT_L ch k t a k) (sign1_len _ k (settleT_len' ch k t a)) (toO_keys k a _ rfl)
theorem lawProve_same (nx : Nat) (ch k t : Int) (d : List UInt8) (hd : d.length ≤ 65536) : FnSpec Tryz.prog 10 nx [txA (signedT (proveT ch t d) k), txA (signedT (proveT ch t d) k)] [] (bA true) [] 0 :=
  lawSame_spec nx _ (proveT_L ch t d k hd) (sign1_len _ k (proveT_len' ch t d hd)) (fun o ho => by simp [signedT, proveT] at ho)
def zeroT : Tx_ := ⟨[], [], op0, []⟩
theorem tx0_le : AV.le tx0 (txA zeroT) := by
  refine ⟨_, rfl, _, _, rfl, ⟨_, _, rfl, AV.les_refl _, .inr (.inl rfl)⟩, _, _, rfl, ⟨_, _, rfl, AV.les_refl _, .inr (.inl rfl)⟩, _, _, rfl, ⟨_, rfl, ?_⟩, _, _, rfl, ⟨_, _, rfl, AV.les_refl _, .inr (.inl rfl)⟩, rfl⟩
  exact ⟨_, _, rfl, AV.le_refl _, _, _, rfl, AV.le_refl _, _, _, rfl, AV.le_refl _, _, _, rfl, AV.le_refl _, _, _, rfl, AV.le_refl _, _, _, rfl, ⟨_, _, rfl, AV.les_refl _, .inr (.inl rfl)⟩, rfl⟩
theorem zero_same (nx : Nat) : FnSpec Tryz.prog 10 nx [tx0, tx0] [] (bA true) [] 0 := by
  refine (lawSame_spec nx zeroT ⟨fun x hx => by simp [zeroT] at hx, by simp [zeroT, op0], by simp [zeroT], by simp [zeroT], by simp [zeroT], fun o ho => by simp [zeroT] at ho⟩ ?_ (fun o ho => by simp [zeroT] at ho)).le ?_
  · have h2 := numI_len ((0 : Nat) : Int)
    have h4 := opL_le op0
    simp only [op0, List.length_nil] at h4
    simp only [bytL, bodyL, zeroT, op0, List.flatMap_nil, List.append_nil, List.length_append, List.length_nil]
    omega
  · exact ⟨_, _, rfl, tx0_le, _, _, rfl, tx0_le, rfl⟩
end Go.Proofs.YtjcnhgmaabkelaaGreat

/-
  The law ClaimOps.
-/
set_option linter.unusedSimpArgs false
set_option linter.unusedVariables false
set_option maxRecDepth 100000
set_option maxHeartbeats 1000000
namespace Go.Proofs.YtjcnhgmaabkelaaGreat
open Go Go.AL Go.Proofs.YtjcnhgmaabkelaaGreat.T
attribute [local go_sem] nb_u8s u8s_length nb_sum sumA List.length_replicate zero_sum sum_h nb_vals vals_len u8s_nil ways_len nb_ways ins_len outs_len signs_len nb_ins nb_outs nb_signs
theorem held_len (h : Held_) (id : Sum) (h1 : h.blob.length ≤ 1000) (h2 : h.sig.length ≤ 6000) (hr : proofR (heldP h id)) : (proofL (heldP h id)).length ≤ 65536 := by
  obtain ⟨a1, a2⟩ := proof_len (heldP h id) hr
  have n1 := numI_len (recL (heldP h id).rec_).length
  have n2 := numI_len (heldP h id).sig.length
  have n3 := numI_len (heldP h id).blob.length
  have e1 : (heldP h id).sig = h.sig := rfl
  have e2 : (heldP h id).blob = h.blob := rfl
  rw [e1] at n2 a2
  rw [e2] at n3 a2
  omega
theorem ops_spec (nx : Nat) (c : Chan) (h : Held_) (id : Sum) (amount tower : Int):
    FnSpec Tryz.prog 3 nx [chanA c, heldA h, sumA id, n64 amount, n64 tower] [] (bA true) [] 0 := by
  by_cases hg : h.blob.length ≤ 1000 ∧ h.sig.length ≤ 6000
  · have h1 : h.sig.length < 2 ^ 40 := by omega
    have h2 : h.blob.length < 2 ^ 40 := by omega
    by_cases hr : proofR (heldP h id)
    · have hl := held_len h id hg.1 hg.2 hr
      refine FnSpec.of_code (cx := cx) (an := {}) (rs := [.tmp 10]) mo Tryz.func3 rfl rfl (by kernel_rfl) (by kernel_rfl) (by show 5 ≤ _; decide) (.inl rfl) (by simp [allWr, keys, Res.wr]) ?_
      repeat' (first | omega | assumption | (show AL.ahead _ _ _ = true; rfl) | refine brF (fun _ => ?_) (fun _ => ?_) | refine brT (fun _ => ?_) (fun _ => ?_) | refine brVF (fun _ => ?_) (fun _ => ?_) | refine brVT (fun _ => ?_) (fun _ => ?_) | (with_reducible refine And.intro ?_ ?_) | (refine callK_by (cawake_spec _) ?_) | (refine callK_by (proveOk_spec _ c h id hr hl) ?_) | (refine callK_by (lawProveOk_spec _ c h id hr hl) ?_) | (refine callK_by (to_spec _ c.client amount) ?_) | (refine callK_by (sweepSign _ c.client id amount) ?_) | (refine callK_by (lawProve_same _ c.id c.client h.rec_.tower (proofL (heldP h id)) hl) ?_) | (refine callK_by (sweep_spec _ c id amount) ?_) | (refine callK_by (lawSweep_same _ c.client id amount) ?_) | (refine callK_by (settle_spec _ c tower amount) ?_) | (refine callK_by (lawSettle_spec _ c tower amount) ?_) | (refine callK_by (lawSettle_same _ c.id c.client tower amount) ?_) | (simp -dsimp -implicitDefEqProofs only [go_sem, ↓reduceIte, Nat.reduceEqDiff, Nat.reduceAdd, Nat.reduceMul, Nat.reduceLeDiff, Nat.reduceLT, Nat.reduceBEq, Nat.reducePow, Int.reduceToNat, Int.reduceLE, Int.reduceLT, Int.reduceNeg, reduceCtorEq, Int.reduceEq, Int.reduceAdd, Int.reduceSub, Int.reduceMul, Nat.reduceSub, chanA, refA, heldA, recA, outA, txA_good, txA_csz, txA_agg, nb_tx]))
      all_goals trace_state
    · refine FnSpec.of_code (cx := cx) (an := {}) (rs := [.tmp 10]) mo Tryz.func3 rfl rfl (by kernel_rfl) (by kernel_rfl) (by show 5 ≤ _; decide) (.inl rfl) (by simp [allWr, keys, Res.wr]) ?_
      repeat' (first | omega | assumption | (show AL.ahead _ _ _ = true; rfl) | refine brF (fun _ => ?_) (fun _ => ?_) | refine brT (fun _ => ?_) (fun _ => ?_) | refine brVF (fun _ => ?_) (fun _ => ?_) | refine brVT (fun _ => ?_) (fun _ => ?_) | (with_reducible refine And.intro ?_ ?_) | (refine callK_by (cawake_spec _) ?_) | (refine callK_by (proveBad_spec _ c h id h1 h2 hr) ?_) | (refine callK_by (lawProveBad_spec _ c h id h1 h2 hr) ?_) | (refine callK_by (to_spec _ c.client amount) ?_) | (refine callK_by (sweepSign _ c.client id amount) ?_) | (refine callK_by (zero_same _) ?_) | (refine callK_by (sweep_spec _ c id amount) ?_) | (refine callK_by (lawSweep_same _ c.client id amount) ?_) | (refine callK_by (settle_spec _ c tower amount) ?_) | (refine callK_by (lawSettle_spec _ c tower amount) ?_) | (refine callK_by (lawSettle_same _ c.id c.client tower amount) ?_) | (simp -dsimp -implicitDefEqProofs only [go_sem, ↓reduceIte, Nat.reduceEqDiff, Nat.reduceAdd, Nat.reduceMul, Nat.reduceLeDiff, Nat.reduceLT, Nat.reduceBEq, Nat.reducePow, Int.reduceToNat, Int.reduceLE, Int.reduceLT, Int.reduceNeg, reduceCtorEq, Int.reduceEq, Int.reduceAdd, Int.reduceSub, Int.reduceMul, Nat.reduceSub, chanA, refA, heldA, recA, outA, txA_good, txA_csz, txA_agg, nb_tx, tx0_good, tx0_csz, tx0_agg]))
      all_goals trace_state
  · refine FnSpec.of_code (cx := cx) (an := {}) (rs := [.tmp 10]) mo Tryz.func3 rfl rfl (by kernel_rfl) (by kernel_rfl) (by show 5 ≤ _; decide) (.inl rfl) (by simp [allWr, keys, Res.wr]) ?_
    repeat' (first | omega | assumption | (show AL.ahead _ _ _ = true; rfl) | refine brF (fun _ => ?_) (fun _ => ?_) | refine brT (fun _ => ?_) (fun _ => ?_) | refine brVF (fun _ => ?_) (fun _ => ?_) | refine brVT (fun _ => ?_) (fun _ => ?_) | (with_reducible refine And.intro ?_ ?_) | (refine callK_by (cawake_spec _) ?_) | (simp -dsimp -implicitDefEqProofs only [go_sem, ↓reduceIte, Nat.reduceEqDiff, Nat.reduceAdd, Nat.reduceMul, Nat.reduceLeDiff, Nat.reduceLT, Nat.reduceBEq, Nat.reducePow, Int.reduceToNat, Int.reduceLE, Int.reduceLT, Int.reduceNeg, reduceCtorEq, Int.reduceEq, Int.reduceAdd, Int.reduceSub, Int.reduceMul, Nat.reduceSub, chanA, refA, heldA, recA]))
    all_goals trace_state
end Go.Proofs.YtjcnhgmaabkelaaGreat

/-
  bartizanlaw31.TowerNobody: for every input it returns true, and the input reads behind the call as it read before. No condition.
-/
set_option linter.unusedSimpArgs false
set_option linter.unusedVariables false
set_option maxRecDepth 100000
set_option maxHeartbeats 1000000
namespace Go.Proofs.YtjcnhgmaabkelaaGreat
open Go Go.AL Go.Proofs.YtjcnhgmaabkelaaGreat.T Go.ChangeShapes Go.WideShapes Go.ChangeAt Go.RowKit

theorem Tryz.own : ownKnob Tryz.prog.godebug = none := by kernel_rfl
theorem Tryz.laidOut : laidOutB Tryz.prog = true := by kernel_rfl
theorem toNat_ofNat' {n : Nat} (h : n < 256) : (UInt8.ofNat n).toNat = n := by
  rw [UInt8.toNat_ofNat']; omega
theorem ty_byte {n : Nat} {a : AV} (h : Ty Tryz.prog (n + 1) 5 a) : ∃ b, a = u8 b ∧ True := by
  obtain ⟨x, rfl, h1, h2⟩ := h.int_inv Tryz.underlying5
  have h1' : (0 : Int) ≤ x := h1
  have h2' : x ≤ 255 := h2
  refine ⟨UInt8.ofNat x.toNat, ?_, trivial⟩
  rw [u8, toNat_ofNat' (by omega)]
  congr 2; omega
theorem ty_sum {n : Nat} {a : AV} (h : Ty Tryz.prog (n + 2) 23 a) : ∃ s, a = sumA s := by
  obtain ⟨L, rfl, hl, k⟩ := h.arr_inv Tryz.underlying23 (m := 1) (by kernel_rfl)
  obtain ⟨l, rfl, _⟩ := list_inv (f := u8) (p := fun _ => True) (fun x hx => ty_byte (k x hx))
  rw [List.length_map] at hl
  exact ⟨⟨l, hl⟩, rfl⟩
theorem ty_int {n : Nat} {a : AV} (h : Ty Tryz.prog (n + 1) 3 a) : ∃ x, a = n64 x := by
  obtain ⟨x, rfl, _⟩ := h.int_inv Tryz.underlying3
  exact ⟨x, rfl⟩
theorem ty_int64 {n : Nat} {a : AV} (h : Ty Tryz.prog (n + 1) 2 a) : ∃ x, a = n64 x := by
  obtain ⟨x, rfl, _⟩ := h.int_inv Tryz.underlying2
  exact ⟨x, rfl⟩
theorem ty_ref {n : Nat} {a : AV} (h : Ty Tryz.prog (n + 3) 25 a) : ∃ r, a = refA r := by
  obtain ⟨L, rfl, k⟩ := h.struct_inv Tryz.underlying25 (m := 33) (ts := [23, 3]) (by kernel_rfl) rfl
  obtain ⟨a0, _, rfl, h0, k⟩ := k.cons_inv
  obtain ⟨a1, _, rfl, h1, k⟩ := k.cons_inv
  cases k.nil_inv
  obtain ⟨x0, rfl⟩ := ty_sum h0
  obtain ⟨x1, rfl⟩ := ty_int h1
  exact ⟨⟨x0, x1⟩, rfl⟩
theorem ty_chan {n : Nat} {a : AV} (h : Ty Tryz.prog (n + 4) 27 a) : ∃ c, a = chanA c := by
  obtain ⟨L, rfl, k⟩ := h.struct_inv Tryz.underlying27 (m := 39) (ts := [3, 3, 3, 25, 2, 3, 3]) (by kernel_rfl) rfl
  obtain ⟨a0, _, rfl, h0, k⟩ := k.cons_inv
  obtain ⟨a1, _, rfl, h1, k⟩ := k.cons_inv
  obtain ⟨a2, _, rfl, h2, k⟩ := k.cons_inv
  obtain ⟨a3, _, rfl, h3, k⟩ := k.cons_inv
  obtain ⟨a4, _, rfl, h4, k⟩ := k.cons_inv
  obtain ⟨a5, _, rfl, h5, k⟩ := k.cons_inv
  obtain ⟨a6, _, rfl, h6, k⟩ := k.cons_inv
  cases k.nil_inv
  obtain ⟨x0, rfl⟩ := ty_int h0
  obtain ⟨x1, rfl⟩ := ty_int h1
  obtain ⟨x2, rfl⟩ := ty_int h2
  obtain ⟨x3, rfl⟩ := ty_ref h3
  obtain ⟨x4, rfl⟩ := ty_int64 h4
  obtain ⟨x5, rfl⟩ := ty_int h5
  obtain ⟨x6, rfl⟩ := ty_int h6
  exact ⟨⟨x0, x1, x2, x3, x4, x5, x6⟩, rfl⟩

end Go.Proofs.YtjcnhgmaabkelaaGreat

/-
  bartizanlaw33.ClaimOps: for every input it returns true, and the input reads behind the call as it read before. No condition.
-/
set_option linter.unusedSimpArgs false
set_option linter.unusedVariables false
set_option maxRecDepth 100000
set_option maxHeartbeats 1000000
namespace Go.Proofs.YtjcnhgmaabkelaaGreat
open Go Go.AL Go.Proofs.YtjcnhgmaabkelaaGreat.T Go.ChangeShapes Go.WideShapes Go.ChangeAt Go.RowKit
theorem ty_bytes {n : Nat} {a : AV} (h : Ty Tryz.prog (n + 2) 30 a) : ∃ l, a = .sl 1 (u8s l) 0 := by
  obtain ⟨L, rfl, hl, k⟩ := h.sl_inv Tryz.underlying30 (m := 1) (by kernel_rfl)
  obtain ⟨l, rfl, _⟩ := list_inv (f := u8) (p := fun _ => True) (fun x hx => ty_byte (k x hx))
  exact ⟨l, rfl⟩
theorem ty_rec {n : Nat} {a : AV} (h : Ty Tryz.prog (n + 3) 29 a) : ∃ r, a = recA r := by
  obtain ⟨L, rfl, k⟩ := h.struct_inv Tryz.underlying29 (m := 67) (ts := [3, 3, 3, 23, 23]) (by kernel_rfl) rfl
  obtain ⟨a0, _, rfl, h0, k⟩ := k.cons_inv
  obtain ⟨a1, _, rfl, h1, k⟩ := k.cons_inv
  obtain ⟨a2, _, rfl, h2, k⟩ := k.cons_inv
  obtain ⟨a3, _, rfl, h3, k⟩ := k.cons_inv
  obtain ⟨a4, _, rfl, h4, k⟩ := k.cons_inv
  cases k.nil_inv
  obtain ⟨x0, rfl⟩ := ty_int h0
  obtain ⟨x1, rfl⟩ := ty_int h1
  obtain ⟨x2, rfl⟩ := ty_int h2
  obtain ⟨x3, rfl⟩ := ty_sum h3
  obtain ⟨x4, rfl⟩ := ty_sum h4
  exact ⟨⟨x0, x1, x2, x3, x4⟩, rfl⟩
theorem ty_held {n : Nat} {a : AV} (h : Ty Tryz.prog (n + 5) 34 a) : ∃ r, a = heldA r := by
  obtain ⟨L, rfl, k⟩ := h.struct_inv Tryz.underlying34 (m := 69) (ts := [32, 30]) (by kernel_rfl) rfl
  obtain ⟨a0, _, rfl, h0, k⟩ := k.cons_inv
  obtain ⟨a1, _, rfl, h1, k⟩ := k.cons_inv
  cases k.nil_inv
  obtain ⟨M, rfl, k2⟩ := h0.struct_inv Tryz.underlying32 (m := 68) (ts := [29, 30]) (by kernel_rfl) rfl
  obtain ⟨b0, _, rfl, g0, k2⟩ := k2.cons_inv
  obtain ⟨b1, _, rfl, g1, k2⟩ := k2.cons_inv
  cases k2.nil_inv
  obtain ⟨x0, rfl⟩ := ty_rec g0
  obtain ⟨x1, rfl⟩ := ty_bytes g1
  obtain ⟨x2, rfl⟩ := ty_bytes h1
  exact ⟨⟨x0, x1, x2⟩, rfl⟩
theorem co_spec (xs : List AV) (h : TyF (Ty Tryz.prog 8) Tryz.f3.params.toList xs) : FnSpec Tryz.prog 3 0 xs [] (.val (.bool true)) [] 0 := by
  have hp : Tryz.f3.params.toList = [27, 34, 23, 2, 3] := rfl
  rw [hp] at h
  obtain ⟨a0, _, rfl, h0, h⟩ := h.cons_inv
  obtain ⟨a1, _, rfl, h1, h⟩ := h.cons_inv
  obtain ⟨a2, _, rfl, h2, h⟩ := h.cons_inv
  obtain ⟨a3, _, rfl, h3, h⟩ := h.cons_inv
  obtain ⟨a4, _, rfl, h4, h⟩ := h.cons_inv
  cases h.nil_inv
  obtain ⟨x0, rfl⟩ := ty_chan h0
  obtain ⟨x1, rfl⟩ := ty_held h1
  obtain ⟨x2, rfl⟩ := ty_sum h2
  obtain ⟨x3, rfl⟩ := ty_int64 h3
  obtain ⟨x4, rfl⟩ := ty_int h4
  exact ops_spec 0 x0 x1 x2 x3 x4

theorem co_lifted (os : Os) (started : os.Started) (H : Type) (enc : TypeId × Value → H) :
    ReturnsInHanded {} Tryz.checked os 3 .any (Rows.claimOpsSpec.pre6 enc Tryz.prog Tryz.f3 Rows.claimOpsRow.domain false) (Rows.claimOpsSpec.post enc Tryz.prog Tryz.f3 false true false false) := by
  refine returnsInHanded_of_change (C := Tryz.checked) Tryz.own started (by kernel_rfl) Tryz.func3
    (ChangeSpec.witness6 (enc := enc) (C := Tryz.checked) false ⟨#[], #[.agg #[.int .i64 0, .int .i64 0, .int .i64 0, .int .u8 0, .int .u8 0, .int .u8 0, .int .u8 0, .int .u8 0, .int .u8 0, .int .u8 0, .int .u8 0, .int .u8 0, .int .u8 0, .int .u8 0, .int .u8 0, .int .u8 0, .int .u8 0, .int .u8 0, .int .u8 0, .int .u8 0, .int .u8 0, .int .u8 0, .int .u8 0, .int .u8 0, .int .u8 0, .int .u8 0, .int .u8 0, .int .u8 0, .int .u8 0, .int .u8 0, .int .u8 0, .int .u8 0, .int .u8 0, .int .u8 0, .int .u8 0, .int .i64 0, .int .i64 0, .int .i64 0, .int .i64 0], .agg #[.int .i64 0, .int .i64 0, .int .i64 0, .int .u8 0, .int .u8 0, .int .u8 0, .int .u8 0, .int .u8 0, .int .u8 0, .int .u8 0, .int .u8 0, .int .u8 0, .int .u8 0, .int .u8 0, .int .u8 0, .int .u8 0, .int .u8 0, .int .u8 0, .int .u8 0, .int .u8 0, .int .u8 0, .int .u8 0, .int .u8 0, .int .u8 0, .int .u8 0, .int .u8 0, .int .u8 0, .int .u8 0, .int .u8 0, .int .u8 0, .int .u8 0, .int .u8 0, .int .u8 0, .int .u8 0, .int .u8 0, .int .u8 0, .int .u8 0, .int .u8 0, .int .u8 0, .int .u8 0, .int .u8 0, .int .u8 0, .int .u8 0, .int .u8 0, .int .u8 0, .int .u8 0, .int .u8 0, .int .u8 0, .int .u8 0, .int .u8 0, .int .u8 0, .int .u8 0, .int .u8 0, .int .u8 0, .int .u8 0, .int .u8 0, .int .u8 0, .int .u8 0, .int .u8 0, .int .u8 0, .int .u8 0, .int .u8 0, .int .u8 0, .int .u8 0, .int .u8 0, .int .u8 0, .int .u8 0, .slice none 0 0, .slice none 0 0], .agg #[.int .u8 0, .int .u8 0, .int .u8 0, .int .u8 0, .int .u8 0, .int .u8 0, .int .u8 0, .int .u8 0, .int .u8 0, .int .u8 0, .int .u8 0, .int .u8 0, .int .u8 0, .int .u8 0, .int .u8 0, .int .u8 0, .int .u8 0, .int .u8 0, .int .u8 0, .int .u8 0, .int .u8 0, .int .u8 0, .int .u8 0, .int .u8 0, .int .u8 0, .int .u8 0, .int .u8 0, .int .u8 0, .int .u8 0, .int .u8 0, .int .u8 0, .int .u8 0], .int .i64 0, .int .i64 0], []⟩ 8 (by kernel_rfl) (by kernel_rfl) (by kernel_rfl) (by kernel_rfl)) ?_
  intro W base args ds gs before hval0 hW hcnd _
  exact post_of_spec (P := Tryz.prog) (n := 8) (tb := 4) Tryz.laidOut rfl (fun ds hl => by
    match ds, hl with
    | [d1, d2, d3, d4, d5], _ => rfl) (by kernel_rfl) (by kernel_rfl) rfl Tryz.underlying4 co_spec W base args ds gs before hval0 hW

theorem co_holds : Rows.ClaimOpsSaid :=
  OpenClaim.holds_of_wide 3 Tryz.f3 rfl rfl rfl rfl rfl rfl rfl ⟨rfl, rfl, rfl, rfl, rfl⟩ rfl rfl rfl rfl rfl (by kernel_rfl) Tryz.func3 (by kernel_rfl)
    (of_decide_eq_true (by kernel_rfl)) (by unfold Func.isWrapper; first | (rw [if_pos (by decide +kernel)]; kernel_rfl) | (rw [if_neg (by decide +kernel)]; exact ⟨rfl, rfl⟩))
    (fun os started H enc _ => co_lifted os started H enc)
#print axioms co_holds
end Go.Proofs.YtjcnhgmaabkelaaGreat

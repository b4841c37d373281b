/-
  tx.body, tx.Sum.
-/
import Derived.Test.YtjcnhgmaabkelaaBP11
set_option linter.unusedSimpArgs false
set_option linter.unusedVariables false
set_option maxRecDepth 100000
set_option maxHeartbeats 1000000
namespace Go.Proofs.Ytjcnhgmaabkelaa
open Go Go.AL Go.Proofs.Ytjcnhgmaabkelaa.T

attribute [local go_sem] nb_u8s u8s_length nb_sum sumA List.length_replicate u8_wrap take32 List.drop_zero zero_sum sum_h u8s_cons u8s_one u8_gc u8_gd1 u8_cs1 u8s_app penA nb_vals vals_len u8s_nil ways_len outs_len ins_len signs_len nb_ways nb_outs nb_ins nb_signs
theorem body_spec (nx m q : Nat) (bs : List UInt8) (t : Tx_) (sh : Bool) (hb : bs.length + (bodyL true t).length < 2 ^ 38) (hk : ∀ o ∈ t.outs, ∀ w ∈ o.ways, w.keys.length < 2 ^ 32) (hm : m < nx) (hq : q < nx) (hne : m ≠ q) :
    FnSpec Try.prog 50 nx [.ref m 0 [], txA t, bA sh] (penH m q bs) (.tup []) (penH m q (bs ++ bodyL sh t)) 0 := by
  have z1 : (m = q) = False := by simp [hne]
  have z2 : (q = m) = False := by simp [Ne.symm hne]
  have x1 := fun k => lt_nx hm k
  have x2 := fun k => nx_gt hm k
  have y1 := fun k => lt_nx hq k
  have y2 := fun k => nx_gt hq k
  have hsh : ∀ x : In_, (inL sh x).length ≤ (inL true x).length := fun x => by cases sh <;> simp [inL]
  have hpre : ∀ x ∈ t.ins, x.pre.length ≤ (bodyL true t).length := fun x hx => by
    obtain ⟨i, hi, e⟩ := List.getElem_of_mem hx
    have h1 := flat_le (inL true) t.ins (i + 1)
    rw [flat_take_snoc _ hi, e, List.length_append] at h1
    have h2 : x.pre.length ≤ (inL true x).length := by simp only [inL, if_true, List.length_append]; omega
    simp only [bodyL, List.length_append]; omega
  have hfl : (t.ins.flatMap (inL sh)).length ≤ (t.ins.flatMap (inL true)).length := by
    generalize t.ins = l
    induction l with
    | nil => simp
    | cons a l ih => simp only [List.flatMap_cons, List.length_append]; have := hsh a; omega
  have hb' := hb
  simp only [bodyL, opL, List.length_append] at hb'
  have n1 := numI_len t.ins.length
  have n2 := numI_len t.outs.length
  have n3 := flat_numI [t.op.kind, t.op.tower, t.op.channel, t.op.amount]
  simp only [List.length_cons, List.length_nil] at n3
  have n4 := numI_len t.op.data.length
  have hil := flat_ge (inL sh) (inL_pos sh) t.ins
  have hol := flat_ge outL outL_pos t.outs
  refine FnSpec.of_code (cx := cx) (an := {}) (rs := []) mo Try.func50 rfl rfl (by kernel_rfl) (by kernel_rfl) (by show 3 ≤ _; decide) (.inr ⟨_, rfl, by simp [AV.good]⟩) (by simp [allWr, keys, Res.wr]) ?_
  repeat' (first | omega | assumption | (show AL.ahead _ _ _ = true; rfl) | refine brF (fun _ => ?_) (fun _ => ?_) | refine brT (fun _ => ?_) (fun _ => ?_) | refine brVF (fun _ => ?_) (fun _ => ?_) | refine brVT (fun _ => ?_) (fun _ => ?_) | (with_reducible refine And.intro ?_ ?_) | (refine callK_by (num_spec _ m q bs t.ins.length (by omega) (by omega) (by omega) hne) ?_) | (simp -dsimp -implicitDefEqProofs only [go_sem, ↓reduceIte, Nat.reduceEqDiff, Nat.reduceAdd, Nat.reduceMul, Nat.reduceLeDiff, Nat.reduceLT, Nat.reduceBEq, Nat.reducePow, Int.reduceToNat, Int.reduceLE, Int.reduceLT, Int.reduceNeg, reduceCtorEq, Int.reduceEq, Int.reduceAdd, Int.reduceSub, Int.reduceMul, Nat.reduceSub, txA, z1, z2]))
  obtain ⟨A, hA⟩ : ∃ A, A = bs ++ numI t.ins.length := ⟨_, rfl⟩
  have hAl := congrArg List.length hA
  rw [List.length_append] at hAl
  rw [← hA]
  apply loop_keep [0, 2, 4, 17, 18] (fun i : { i : Nat // i ≤ t.ins.length } => [(19, n64 i.1)]) (fun i => penH m q (A ++ (t.ins.take i.1).flatMap (inL sh))) (fun i => t.ins.length - i.1) ⟨0, Nat.zero_le _⟩
  · simp -dsimp -implicitDefEqProofs only [go_sem, ↓reduceIte, Nat.reduceEqDiff, Nat.reduceAdd, Nat.reduceMul, Nat.reduceLeDiff, Nat.reduceLT, Nat.reduceBEq, Nat.reducePow, Int.reduceToNat, Int.reduceLE, Int.reduceLT, Int.reduceNeg, reduceCtorEq, Int.reduceEq, Int.reduceAdd, Int.reduceSub, Int.reduceMul, Nat.reduceSub]; rfl
  · simp -dsimp -implicitDefEqProofs only [go_sem, ↓reduceIte, Nat.reduceEqDiff, Nat.reduceAdd, Nat.reduceMul, Nat.reduceLeDiff, Nat.reduceLT, Nat.reduceBEq, Nat.reducePow, Int.reduceToNat, Int.reduceLE, Int.reduceLT, Int.reduceNeg, reduceCtorEq, Int.reduceEq, Int.reduceAdd, Int.reduceSub, Int.reduceMul, Nat.reduceSub]; try rfl
  · simp -dsimp -implicitDefEqProofs only [go_sem, ↓reduceIte, Nat.reduceEqDiff, Nat.reduceAdd, Nat.reduceMul, Nat.reduceLeDiff, Nat.reduceLT, Nat.reduceBEq, Nat.reducePow, Int.reduceToNat, Int.reduceLE, Int.reduceLT, Int.reduceNeg, reduceCtorEq, Int.reduceEq, Int.reduceAdd, Int.reduceSub, Int.reduceMul, Nat.reduceSub, z1, z2, List.take_zero, List.flatMap_nil, List.append_nil, hAl]; try rfl
  · intro s
    simp -dsimp -implicitDefEqProofs only [go_sem, ↓reduceIte, Nat.reduceEqDiff, Nat.reduceAdd, Nat.reduceMul, Nat.reduceLeDiff, Nat.reduceLT, Nat.reduceBEq, Nat.reducePow, Int.reduceToNat, Int.reduceLE, Int.reduceLT, Int.reduceNeg, reduceCtorEq, Int.reduceEq, Int.reduceAdd, Int.reduceSub, Int.reduceMul, Nat.reduceSub, opT]
    try omega
  · rintro ⟨i, hi⟩
    have hi : i ≤ t.ins.length := hi
    have hle := flat_le (inL sh) t.ins i
    simp -dsimp -implicitDefEqProofs only [go_sem, ↓reduceIte, Nat.reduceEqDiff, Nat.reduceAdd, Nat.reduceMul, Nat.reduceLeDiff, Nat.reduceLT, Nat.reduceBEq, Nat.reducePow, Int.reduceToNat, Int.reduceLE, Int.reduceLT, Int.reduceNeg, reduceCtorEq, Int.reduceEq, Int.reduceAdd, Int.reduceSub, Int.reduceMul, Nat.reduceSub]
    refine brT (fun h => ?_) (fun h => ?_)
    · have hi2 : i < t.ins.length := by omega
      have w1 : IntKind.i64.wrap ((i : Int) + 1) = ((i + 1 : Nat) : Int) := wrapE (by omega) (by omega)
      have hg := ins_get hi2
      have hsn := flat_take_snoc (inL sh) hi2
      have hle2 := flat_le (inL sh) t.ins (i + 1)
      have hpp := hpre t.ins[i] (List.getElem_mem _)
      rw [hsn, List.length_append] at hle2
      generalize t.ins[i] = x at *
      have n5 := flat_numI [x.ref.at_, x.way]
      simp only [List.length_cons, List.length_nil] at n5
      have n6 := numI_len x.pre.length
      obtain ⟨B, hB⟩ : ∃ B, B = A ++ (t.ins.take i).flatMap (inL sh) := ⟨_, rfl⟩
      have hBl := congrArg List.length hB
      rw [List.length_append] at hBl
      rw [← hB]
      cases sh with
      | false =>
        simp only [inL, List.length_append, Bool.false_eq_true, if_false, List.length_nil, List.append_nil] at hle2
        repeat' (first | omega | assumption | (show AL.ahead _ _ _ = true; rfl) | refine brF (fun _ => ?_) (fun _ => ?_) | refine brT (fun _ => ?_) (fun _ => ?_) | refine brVF (fun _ => ?_) (fun _ => ?_) | refine brVT (fun _ => ?_) (fun _ => ?_) | (with_reducible refine And.intro ?_ ?_) | (refine callK_by (psum_spec _ m q B x.ref.tx (by omega) (by omega) (by omega) hne) ?_) | (refine callK_by (nums_spec _ m q 1 (B ++ x.ref.tx.b) [x.ref.at_, x.way] (by simp only [List.length_append, List.length_cons, List.length_nil, sum_h]; omega) (by omega) (by omega) hne (by omega)) ?_) | (simp -dsimp -implicitDefEqProofs only [go_sem, ↓reduceIte, Nat.reduceEqDiff, Nat.reduceAdd, Nat.reduceMul, Nat.reduceLeDiff, Nat.reduceLT, Nat.reduceBEq, Nat.reducePow, Int.reduceToNat, Int.reduceLE, Int.reduceLT, Int.reduceNeg, reduceCtorEq, Int.reduceEq, Int.reduceAdd, Int.reduceSub, Int.reduceMul, Nat.reduceSub, hg, inA, refA, z1, z2, x1, x2, y1, y2, w1]))
        refine ⟨⟨i + 1, hi2⟩, by show t.ins.length - (i + 1) < t.ins.length - i; omega, rfl, ?_, ?_⟩
        · simp only [hsn, inL, hB, List.append_assoc, Bool.false_eq_true, if_false, if_true, List.append_nil]
        · simp only [hsn, inL, hB, List.length_append, sum_h, Bool.false_eq_true, if_false, if_true, List.length_nil]
          congr 2; omega
      | true =>
        simp only [inL, List.length_append, if_true] at hle2
        repeat' (first | omega | assumption | (show AL.ahead _ _ _ = true; rfl) | refine brF (fun _ => ?_) (fun _ => ?_) | refine brT (fun _ => ?_) (fun _ => ?_) | refine brVF (fun _ => ?_) (fun _ => ?_) | refine brVT (fun _ => ?_) (fun _ => ?_) | (with_reducible refine And.intro ?_ ?_) | (refine callK_by (psum_spec _ m q B x.ref.tx (by omega) (by omega) (by omega) hne) ?_) | (refine callK_by (nums_spec _ m q 1 (B ++ x.ref.tx.b) [x.ref.at_, x.way] (by simp only [List.length_append, List.length_cons, List.length_nil, sum_h]; omega) (by omega) (by omega) hne (by omega)) ?_) | (refine callK_by (text_spec _ m q 0 (B ++ x.ref.tx.b ++ [x.ref.at_, x.way].flatMap numI) x.pre (by simp only [List.length_append, sum_h]; omega) (by omega) (by omega) hne (by omega)) ?_) | (simp -dsimp -implicitDefEqProofs only [go_sem, ↓reduceIte, Nat.reduceEqDiff, Nat.reduceAdd, Nat.reduceMul, Nat.reduceLeDiff, Nat.reduceLT, Nat.reduceBEq, Nat.reducePow, Int.reduceToNat, Int.reduceLE, Int.reduceLT, Int.reduceNeg, reduceCtorEq, Int.reduceEq, Int.reduceAdd, Int.reduceSub, Int.reduceMul, Nat.reduceSub, hg, inA, refA, z1, z2, x1, x2, y1, y2, w1]))
        refine ⟨⟨i + 1, hi2⟩, by show t.ins.length - (i + 1) < t.ins.length - i; omega, rfl, ?_, ?_⟩
        · simp only [hsn, inL, hB, List.append_assoc, Bool.false_eq_true, if_false, if_true, List.append_nil]
        · simp only [hsn, inL, hB, List.length_append, sum_h, Bool.false_eq_true, if_false, if_true, List.length_nil]
          congr 2; omega
    · have e : i = t.ins.length := by omega
      subst e
      obtain ⟨C, hC⟩ : ∃ C, C = A ++ t.ins.flatMap (inL sh) := ⟨_, rfl⟩
      have hCl := congrArg List.length hC
      rw [List.length_append] at hCl
      obtain ⟨D, hD⟩ : ∃ D, D = C ++ numI t.outs.length := ⟨_, rfl⟩
      have hDl := congrArg List.length hD
      rw [List.length_append] at hDl
      repeat' (first | omega | assumption | (show AL.ahead _ _ _ = true; rfl) | refine brF (fun _ => ?_) (fun _ => ?_) | refine brT (fun _ => ?_) (fun _ => ?_) | refine brVF (fun _ => ?_) (fun _ => ?_) | refine brVT (fun _ => ?_) (fun _ => ?_) | (with_reducible refine And.intro ?_ ?_) | (refine callK_by (num_spec _ m q C t.outs.length (by omega) (by omega) (by omega) hne) ?_) | (simp -dsimp -implicitDefEqProofs only [go_sem, ↓reduceIte, Nat.reduceEqDiff, Nat.reduceAdd, Nat.reduceMul, Nat.reduceLeDiff, Nat.reduceLT, Nat.reduceBEq, Nat.reducePow, Int.reduceToNat, Int.reduceLE, Int.reduceLT, Int.reduceNeg, reduceCtorEq, Int.reduceEq, Int.reduceAdd, Int.reduceSub, Int.reduceMul, Nat.reduceSub, z1, z2, List.take_length, ← hC]))
      rw [← hD]
      apply loop_keep [0, 4, 47, 48] (fun i : { i : Nat // i ≤ t.outs.length } => [(49, n64 i.1)]) (fun i => penH m q (D ++ (t.outs.take i.1).flatMap outL)) (fun i => t.outs.length - i.1) ⟨0, Nat.zero_le _⟩
      · simp -dsimp -implicitDefEqProofs only [go_sem, ↓reduceIte, Nat.reduceEqDiff, Nat.reduceAdd, Nat.reduceMul, Nat.reduceLeDiff, Nat.reduceLT, Nat.reduceBEq, Nat.reducePow, Int.reduceToNat, Int.reduceLE, Int.reduceLT, Int.reduceNeg, reduceCtorEq, Int.reduceEq, Int.reduceAdd, Int.reduceSub, Int.reduceMul, Nat.reduceSub]; try rfl
      · simp -dsimp -implicitDefEqProofs only [go_sem, ↓reduceIte, Nat.reduceEqDiff, Nat.reduceAdd, Nat.reduceMul, Nat.reduceLeDiff, Nat.reduceLT, Nat.reduceBEq, Nat.reducePow, Int.reduceToNat, Int.reduceLE, Int.reduceLT, Int.reduceNeg, reduceCtorEq, Int.reduceEq, Int.reduceAdd, Int.reduceSub, Int.reduceMul, Nat.reduceSub]; try rfl
      · simp -dsimp -implicitDefEqProofs only [go_sem, ↓reduceIte, Nat.reduceEqDiff, Nat.reduceAdd, Nat.reduceMul, Nat.reduceLeDiff, Nat.reduceLT, Nat.reduceBEq, Nat.reducePow, Int.reduceToNat, Int.reduceLE, Int.reduceLT, Int.reduceNeg, reduceCtorEq, Int.reduceEq, Int.reduceAdd, Int.reduceSub, Int.reduceMul, Nat.reduceSub, z1, z2, List.take_zero, List.flatMap_nil, List.append_nil, hDl]; try rfl
      · intro s
        simp -dsimp -implicitDefEqProofs only [go_sem, ↓reduceIte, Nat.reduceEqDiff, Nat.reduceAdd, Nat.reduceMul, Nat.reduceLeDiff, Nat.reduceLT, Nat.reduceBEq, Nat.reducePow, Int.reduceToNat, Int.reduceLE, Int.reduceLT, Int.reduceNeg, reduceCtorEq, Int.reduceEq, Int.reduceAdd, Int.reduceSub, Int.reduceMul, Nat.reduceSub, opT]
        try omega
      · rintro ⟨i, hi⟩
        have hi : i ≤ t.outs.length := hi
        have hle := flat_le outL t.outs i
        simp -dsimp -implicitDefEqProofs only [go_sem, ↓reduceIte, Nat.reduceEqDiff, Nat.reduceAdd, Nat.reduceMul, Nat.reduceLeDiff, Nat.reduceLT, Nat.reduceBEq, Nat.reducePow, Int.reduceToNat, Int.reduceLE, Int.reduceLT, Int.reduceNeg, reduceCtorEq, Int.reduceEq, Int.reduceAdd, Int.reduceSub, Int.reduceMul, Nat.reduceSub]
        refine brT (fun h => ?_) (fun h => ?_)
        · have hi2 : i < t.outs.length := by omega
          have w1 : IntKind.i64.wrap ((i : Int) + 1) = ((i + 1 : Nat) : Int) := wrapE (by omega) (by omega)
          have hg := outs_get hi2
          have hsn := flat_take_snoc outL hi2
          have hle2 := flat_le outL t.outs (i + 1)
          have hkk := hk t.outs[i] (List.getElem_mem _)
          rw [hsn, List.length_append] at hle2
          generalize t.outs[i] = o at *
          have hps := fun mm (h1 : m < mm) (h2 : q < mm) => put_spec mm m q (D ++ (t.outs.take i).flatMap outL) o (by rw [List.length_append]; omega) hkk h1 h2 hne
          unfold outA at hps
          repeat' (first | omega | assumption | (show AL.ahead _ _ _ = true; rfl) | refine brF (fun _ => ?_) (fun _ => ?_) | refine brT (fun _ => ?_) (fun _ => ?_) | refine brVF (fun _ => ?_) (fun _ => ?_) | refine brVT (fun _ => ?_) (fun _ => ?_) | (with_reducible refine And.intro ?_ ?_) | (refine callK_by (hps _ (by omega) (by omega)) ?_) | (simp -dsimp -implicitDefEqProofs only [go_sem, ↓reduceIte, Nat.reduceEqDiff, Nat.reduceAdd, Nat.reduceMul, Nat.reduceLeDiff, Nat.reduceLT, Nat.reduceBEq, Nat.reducePow, Int.reduceToNat, Int.reduceLE, Int.reduceLT, Int.reduceNeg, reduceCtorEq, Int.reduceEq, Int.reduceAdd, Int.reduceSub, Int.reduceMul, Nat.reduceSub, hg, outA, z1, z2, x1, x2, y1, y2, w1]))
          refine ⟨⟨i + 1, hi2⟩, by show t.outs.length - (i + 1) < t.outs.length - i; omega, rfl, ?_, ?_⟩
          · simp only [hsn, List.append_assoc]
          · simp only [hsn, List.length_append]
        · have e : i = t.outs.length := by omega
          subst e
          obtain ⟨F, hF⟩ : ∃ F, F = D ++ t.outs.flatMap outL := ⟨_, rfl⟩
          have hFl := congrArg List.length hF
          rw [List.length_append] at hFl
          have hfin : bs ++ bodyL sh t = F ++ [t.op.kind, t.op.tower, t.op.channel, t.op.amount].flatMap numI ++ t.op.root.b ++ numI t.op.data.length ++ t.op.data := by
            rw [hF, hD, hC, hA, bodyL, opL]; simp only [List.append_assoc]
          rw [hfin]
          repeat' (first | omega | assumption | (show AL.ahead _ _ _ = true; rfl) | refine brF (fun _ => ?_) (fun _ => ?_) | refine brT (fun _ => ?_) (fun _ => ?_) | refine brVF (fun _ => ?_) (fun _ => ?_) | refine brVT (fun _ => ?_) (fun _ => ?_) | (with_reducible refine And.intro ?_ ?_) | (refine callK_by (nums_spec _ m q 1 F [t.op.kind, t.op.tower, t.op.channel, t.op.amount] (by simp only [List.length_cons, List.length_nil]; omega) (by omega) (by omega) hne (by omega)) ?_) | (refine callK_by (psum_spec _ m q (F ++ [t.op.kind, t.op.tower, t.op.channel, t.op.amount].flatMap numI) t.op.root (by rw [List.length_append]; omega) (by omega) (by omega) hne) ?_) | (refine callK_by (text_spec _ m q 0 (F ++ [t.op.kind, t.op.tower, t.op.channel, t.op.amount].flatMap numI ++ t.op.root.b) t.op.data (by simp only [List.length_append, sum_h]; omega) (by omega) (by omega) hne (by omega)) ?_) | (simp -dsimp -implicitDefEqProofs only [go_sem, ↓reduceIte, Nat.reduceEqDiff, Nat.reduceAdd, Nat.reduceMul, Nat.reduceLeDiff, Nat.reduceLT, Nat.reduceBEq, Nat.reducePow, Int.reduceToNat, Int.reduceLE, Int.reduceLT, Int.reduceNeg, reduceCtorEq, Int.reduceEq, Int.reduceAdd, Int.reduceSub, Int.reduceMul, Nat.reduceSub, z1, z2, x1, x2, y1, y2, List.take_length, ← hF, opT, List.length_append]))
/-- a transaction's sum -/
noncomputable def txS (t : Tx_) : Sum := joinS 41 [bodyL false t]
theorem body_le (t : Tx_) : (bodyL false t).length ≤ (bodyL true t).length := by
  have hsh : ∀ x : In_, (inL false x).length ≤ (inL true x).length := fun x => by simp [inL]
  have hfl : (t.ins.flatMap (inL false)).length ≤ (t.ins.flatMap (inL true)).length := by
    generalize t.ins = l
    induction l with
    | nil => simp
    | cons a l ih => simp only [List.flatMap_cons, List.length_append]; have := hsh a; omega
  simp only [bodyL, List.length_append]; omega
theorem txA_good (t : Tx_) : (txA t).good = true := rfl
theorem txA_csz (t : Tx_) : (txA t).csize = 40 := rfl
theorem txA_agg (t : Tx_) : (txA t).isAgg = true := rfl
theorem nb_tx {m : Nat} (t : Tx_) : AV.nb m (txA t) = True := by
  simp [txA, AV.nb, AV.nbs, nb_ins, nb_outs, nb_signs, opT, nb_sum, nb_u8s]
theorem txSum_spec (nx : Nat) (t : Tx_) (hb : (bodyL true t).length < 2 ^ 38) (hk : ∀ o ∈ t.outs, ∀ w ∈ o.ways, w.keys.length < 2 ^ 32) :
    FnSpec Try.prog 31 nx [txA t] [] (sumA (txS t)) [] 0 := by
  have hl := body_le t
  have hbs := fun mm (h1 : nx + 16 < mm) (h2 : nx + 17 < mm) => body_spec mm (nx + 16) (nx + 17) [] t false (by simpa using hb) hk h1 h2 (by omega)
  simp only [List.nil_append] at hbs
  unfold txS
  refine FnSpec.of_code (cx := cx) (an := {tk := [(3, [([0], 1)])]}) (rs := [.cell 2 23]) mo Try.func31 rfl rfl (by kernel_rfl) (by kernel_rfl) (by show 1 ≤ _; decide) (.inl rfl) (by simp [allWr, keys, Res.wr]) ?_
  repeat' (first | omega | assumption | (show AL.ahead _ _ _ = true; rfl) | refine brF (fun _ => ?_) (fun _ => ?_) | refine brT (fun _ => ?_) (fun _ => ?_) | refine brVF (fun _ => ?_) (fun _ => ?_) | refine brVT (fun _ => ?_) (fun _ => ?_) | (with_reducible refine And.intro ?_ ?_) | (refine callK_by (hbs _ (by omega) (by omega)) ?_) | (refine callK_by (bytes_spec _ (nx + 16) (nx + 19) (bodyL false t) (by omega) (by omega) (by omega)) ?_) | (refine callK_by (join1_spec _ 1 (nx + 130) 41 (bodyL false t) (by omega) (by omega) (by omega)) ?_) | (simp -dsimp -implicitDefEqProofs only [go_sem, ↓reduceIte, Nat.reduceEqDiff, Nat.reduceAdd, Nat.reduceMul, Nat.reduceLeDiff, Nat.reduceLT, Nat.reduceBEq, Nat.reducePow, Int.reduceToNat, Int.reduceLE, Int.reduceLT, Int.reduceNeg, reduceCtorEq, Int.reduceEq, Int.reduceAdd, Int.reduceSub, Int.reduceMul, Nat.reduceSub, txA_good, txA_csz, txA_agg, nb_tx]))
end Go.Proofs.Ytjcnhgmaabkelaa

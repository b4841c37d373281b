/-
  What proves.
-/
import Derived.Test.YtjcnhgmaabkelaaGreatZP41
set_option linter.unusedSimpArgs false
set_option linter.unusedVariables false
set_option maxRecDepth 100000
set_option maxHeartbeats 1000000
namespace Go.Proofs.YtjcnhgmaabkelaaGreat
open Go Go.AL Go.Proofs.YtjcnhgmaabkelaaGreat.T
attribute [local go_sem] nb_u8s u8s_length nb_sum sumA List.length_replicate zero_sum sum_h nb_vals vals_len u8s_nil
structure Held_ where
  rec_ : Rec_
  sig : List UInt8
  blob : List UInt8
def heldA (h : Held_) : AV := .agg 69 [.agg 68 [recA h.rec_, .sl 1 (u8s h.sig) 0], .sl 1 (u8s h.blob) 0]
def heldP (h : Held_) (id : Sum) : Proof_ := ⟨h.rec_, h.sig, h.blob, id⟩
def proveT (ch tower : Int) (d : List UInt8) : Tx_ := ⟨[], [], ⟨6, tower, ch, 0, zeroS, d⟩, []⟩
theorem proveT_len (ch t : Int) (d : List UInt8) (hd : d.length ≤ 65536) : (bodyL true (proveT ch t d)).length < 2 ^ 38 := by
  have h2 := numI_len ((0 : Nat) : Int)
  have h4 := opL_le ⟨6, t, ch, 0, zeroS, d⟩
  simp only at h4
  simp only [bodyL, proveT, List.flatMap_nil, List.append_nil, List.length_append, List.length_nil]
  omega
theorem proveSign (nx : Nat) (ch k t : Int) (d : List UInt8) (hd : d.length ≤ 65536) :
    FnSpec Tryz.prog 8 nx [.agg 40 [.sl 35 [] 1, .sl 2 [] 1, .agg 37 [n64 6, n64 t, n64 ch, n64 0, sumA zeroS, .sl 1 (u8s d) 0], .sl 33 [] 1], .sl 1 [n64 k] 1] [] (txA (signedT (proveT ch t d) k)) [] 0 := by
  refine (signed_spec nx 1 (proveT ch t d) k rfl (proveT_len ch t d hd) (fun o ho => by simp [proveT] at ho) (.inl (by decide))).le ?_
  refine ⟨_, _, rfl, ⟨_, rfl, _, _, rfl, ⟨_, _, rfl, AV.les_refl _, .inr (.inl rfl)⟩, _, _, rfl, ⟨_, _, rfl, AV.les_refl _, .inr (.inl rfl)⟩, _, _, rfl, AV.le_refl _, AV.les_refl _⟩, AV.les_refl _⟩
theorem proveOk_spec (nx : Nat) (c : Chan) (h : Held_) (id : Sum) (hr : proofR (heldP h id)) (hl : (proofL (heldP h id)).length ≤ 65536) :
    FnSpec Tryz.prog 6 nx [chanA c, heldA h, sumA id] [] (.tup [txA (signedT (proveT c.id h.rec_.tower (proofL (heldP h id))) c.client), n64 0]) [] 0 := by
  refine FnSpec.of_code (cx := cx) (an := {}) (rs := [.cell 6 42, .tmp 7]) mo Tryz.func6 rfl rfl (by kernel_rfl) (by kernel_rfl) (by show 3 ≤ _; decide) (.inr ⟨_, rfl, by simp [AV.good, txA]⟩) (by simp [allWr, keys, Res.wr]) ?_
  repeat' (first | omega | assumption | (show AL.ahead _ _ _ = true; rfl) | refine brF (fun _ => ?_) (fun _ => ?_) | refine brT (fun _ => ?_) (fun _ => ?_) | refine brVF (fun _ => ?_) (fun _ => ?_) | refine brVT (fun _ => ?_) (fun _ => ?_) | (with_reducible refine And.intro ?_ ?_) | (refine callK_by (putOk_spec _ (heldP h id) hr hl) ?_) | (refine callK_by (proveSign _ c.id c.client h.rec_.tower (proofL (heldP h id)) hl) ?_) | (simp -dsimp -implicitDefEqProofs only [go_sem, ↓reduceIte, Nat.reduceEqDiff, Nat.reduceAdd, Nat.reduceMul, Nat.reduceLeDiff, Nat.reduceLT, Nat.reduceBEq, Nat.reducePow, Int.reduceToNat, Int.reduceLE, Int.reduceLT, Int.reduceNeg, reduceCtorEq, Int.reduceEq, Int.reduceAdd, Int.reduceSub, Int.reduceMul, Nat.reduceSub, chanA, refA, heldA, recA, txA_good, txA_csz, txA_agg, nb_tx]))
theorem proveBad_spec (nx : Nat) (c : Chan) (h : Held_) (id : Sum) (h1 : h.sig.length < 2 ^ 40) (h2 : h.blob.length < 2 ^ 40) (hr : ¬ proofR (heldP h id)) :
    FnSpec Tryz.prog 6 nx [chanA c, heldA h, sumA id] [] (.tup [tx0, n64 1]) [] 0 := by
  refine FnSpec.of_code (cx := cx) (an := {}) (rs := [.cell 6 42, .tmp 7]) mo Tryz.func6 rfl rfl (by kernel_rfl) (by kernel_rfl) (by show 3 ≤ _; decide) (.inr ⟨_, rfl, by simp [AV.good, tx0]⟩) (by simp [allWr, keys, Res.wr]) ?_
  repeat' (first | omega | assumption | (show AL.ahead _ _ _ = true; rfl) | refine brF (fun _ => ?_) (fun _ => ?_) | refine brT (fun _ => ?_) (fun _ => ?_) | refine brVF (fun _ => ?_) (fun _ => ?_) | refine brVT (fun _ => ?_) (fun _ => ?_) | (with_reducible refine And.intro ?_ ?_) | (refine callK_by (putBad_spec _ (heldP h id) h1 h2 hr) ?_) | (simp -dsimp -implicitDefEqProofs only [go_sem, ↓reduceIte, Nat.reduceEqDiff, Nat.reduceAdd, Nat.reduceMul, Nat.reduceLeDiff, Nat.reduceLT, Nat.reduceBEq, Nat.reducePow, Int.reduceToNat, Int.reduceLE, Int.reduceLT, Int.reduceNeg, reduceCtorEq, Int.reduceEq, Int.reduceAdd, Int.reduceSub, Int.reduceMul, Nat.reduceSub, chanA, refA, heldA, recA, tx0]))
theorem proveLong_spec (nx : Nat) (c : Chan) (h : Held_) (id : Sum) (hr : proofR (heldP h id)) (hl : ¬ (proofL (heldP h id)).length ≤ 65536) :
    FnSpec Tryz.prog 6 nx [chanA c, heldA h, sumA id] [] (.tup [tx0, n64 3]) [] 0 := by
  refine FnSpec.of_code (cx := cx) (an := {}) (rs := [.cell 6 42, .tmp 7]) mo Tryz.func6 rfl rfl (by kernel_rfl) (by kernel_rfl) (by show 3 ≤ _; decide) (.inr ⟨_, rfl, by simp [AV.good, tx0]⟩) (by simp [allWr, keys, Res.wr]) ?_
  repeat' (first | omega | assumption | (show AL.ahead _ _ _ = true; rfl) | refine brF (fun _ => ?_) (fun _ => ?_) | refine brT (fun _ => ?_) (fun _ => ?_) | refine brVF (fun _ => ?_) (fun _ => ?_) | refine brVT (fun _ => ?_) (fun _ => ?_) | (with_reducible refine And.intro ?_ ?_) | (refine callK_by (putLong_spec _ (heldP h id) hr hl) ?_) | (simp -dsimp -implicitDefEqProofs only [go_sem, ↓reduceIte, Nat.reduceEqDiff, Nat.reduceAdd, Nat.reduceMul, Nat.reduceLeDiff, Nat.reduceLT, Nat.reduceBEq, Nat.reducePow, Int.reduceToNat, Int.reduceLE, Int.reduceLT, Int.reduceNeg, reduceCtorEq, Int.reduceEq, Int.reduceAdd, Int.reduceSub, Int.reduceMul, Nat.reduceSub, chanA, refA, heldA, recA, tx0]))
theorem lawProveOk_spec (nx : Nat) (c : Chan) (h : Held_) (id : Sum) (hr : proofR (heldP h id)) (hl : (proofL (heldP h id)).length ≤ 65536) :
    FnSpec Tryz.prog 7 nx [chanA c, heldA h, sumA id] [] (.tup [txA (signedT (proveT c.id h.rec_.tower (proofL (heldP h id))) c.client), n64 0]) [] 0 := by
  refine FnSpec.of_code (cx := cx) (an := {}) (rs := [.cell 6 42, .tmp 7]) mo Tryz.func7 rfl rfl (by kernel_rfl) (by kernel_rfl) (by show 3 ≤ _; decide) (.inr ⟨_, rfl, by simp [AV.good, txA]⟩) (by simp [allWr, keys, Res.wr]) ?_
  repeat' (first | omega | assumption | (show AL.ahead _ _ _ = true; rfl) | refine brF (fun _ => ?_) (fun _ => ?_) | refine brT (fun _ => ?_) (fun _ => ?_) | refine brVF (fun _ => ?_) (fun _ => ?_) | refine brVT (fun _ => ?_) (fun _ => ?_) | (with_reducible refine And.intro ?_ ?_) | (refine callK_by (putOk_spec _ (heldP h id) hr hl) ?_) | (refine callK_by (proveSign _ c.id c.client h.rec_.tower (proofL (heldP h id)) hl) ?_) | (simp -dsimp -implicitDefEqProofs only [go_sem, ↓reduceIte, Nat.reduceEqDiff, Nat.reduceAdd, Nat.reduceMul, Nat.reduceLeDiff, Nat.reduceLT, Nat.reduceBEq, Nat.reducePow, Int.reduceToNat, Int.reduceLE, Int.reduceLT, Int.reduceNeg, reduceCtorEq, Int.reduceEq, Int.reduceAdd, Int.reduceSub, Int.reduceMul, Nat.reduceSub, chanA, refA, heldA, recA, txA_good, txA_csz, txA_agg, nb_tx]))
theorem lawProveBad_spec (nx : Nat) (c : Chan) (h : Held_) (id : Sum) (h1 : h.sig.length < 2 ^ 40) (h2 : h.blob.length < 2 ^ 40) (hr : ¬ proofR (heldP h id)) :
    FnSpec Tryz.prog 7 nx [chanA c, heldA h, sumA id] [] (.tup [tx0, n64 1]) [] 0 := by
  refine FnSpec.of_code (cx := cx) (an := {}) (rs := [.cell 6 42, .tmp 7]) mo Tryz.func7 rfl rfl (by kernel_rfl) (by kernel_rfl) (by show 3 ≤ _; decide) (.inr ⟨_, rfl, by simp [AV.good, tx0]⟩) (by simp [allWr, keys, Res.wr]) ?_
  repeat' (first | omega | assumption | (show AL.ahead _ _ _ = true; rfl) | refine brF (fun _ => ?_) (fun _ => ?_) | refine brT (fun _ => ?_) (fun _ => ?_) | refine brVF (fun _ => ?_) (fun _ => ?_) | refine brVT (fun _ => ?_) (fun _ => ?_) | (with_reducible refine And.intro ?_ ?_) | (refine callK_by (putBad_spec _ (heldP h id) h1 h2 hr) ?_) | (simp -dsimp -implicitDefEqProofs only [go_sem, ↓reduceIte, Nat.reduceEqDiff, Nat.reduceAdd, Nat.reduceMul, Nat.reduceLeDiff, Nat.reduceLT, Nat.reduceBEq, Nat.reducePow, Int.reduceToNat, Int.reduceLE, Int.reduceLT, Int.reduceNeg, reduceCtorEq, Int.reduceEq, Int.reduceAdd, Int.reduceSub, Int.reduceMul, Nat.reduceSub, chanA, refA, heldA, recA, tx0]))
theorem lawProveLong_spec (nx : Nat) (c : Chan) (h : Held_) (id : Sum) (hr : proofR (heldP h id)) (hl : ¬ (proofL (heldP h id)).length ≤ 65536) :
    FnSpec Tryz.prog 7 nx [chanA c, heldA h, sumA id] [] (.tup [tx0, n64 3]) [] 0 := by
  refine FnSpec.of_code (cx := cx) (an := {}) (rs := [.cell 6 42, .tmp 7]) mo Tryz.func7 rfl rfl (by kernel_rfl) (by kernel_rfl) (by show 3 ≤ _; decide) (.inr ⟨_, rfl, by simp [AV.good, tx0]⟩) (by simp [allWr, keys, Res.wr]) ?_
  repeat' (first | omega | assumption | (show AL.ahead _ _ _ = true; rfl) | refine brF (fun _ => ?_) (fun _ => ?_) | refine brT (fun _ => ?_) (fun _ => ?_) | refine brVF (fun _ => ?_) (fun _ => ?_) | refine brVT (fun _ => ?_) (fun _ => ?_) | (with_reducible refine And.intro ?_ ?_) | (refine callK_by (putLong_spec _ (heldP h id) hr hl) ?_) | (simp -dsimp -implicitDefEqProofs only [go_sem, ↓reduceIte, Nat.reduceEqDiff, Nat.reduceAdd, Nat.reduceMul, Nat.reduceLeDiff, Nat.reduceLT, Nat.reduceBEq, Nat.reducePow, Int.reduceToNat, Int.reduceLE, Int.reduceLT, Int.reduceNeg, reduceCtorEq, Int.reduceEq, Int.reduceAdd, Int.reduceSub, Int.reduceMul, Nat.reduceSub, chanA, refA, heldA, recA, tx0]))
end Go.Proofs.YtjcnhgmaabkelaaGreat

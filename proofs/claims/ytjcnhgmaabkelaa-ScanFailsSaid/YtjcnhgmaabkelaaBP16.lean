/-
  Receipts' texts, proofs' bytes, what proves.
-/
import Derived.Test.YtjcnhgmaabkelaaBP42
import Derived.Test.YtjcnhgmaabkelaaBP40
set_option linter.unusedSimpArgs false
set_option linter.unusedVariables false
set_option maxRecDepth 100000
set_option maxHeartbeats 1000000
namespace Go.Proofs.Ytjcnhgmaabkelaa
open Go Go.AL Go.Proofs.Ytjcnhgmaabkelaa.T
attribute [local go_sem] nb_u8s u8s_length nb_sum sumA List.length_replicate u8_wrap take32 List.drop_zero zero_sum sum_h u8s_cons u8s_one u8_gc u8_gd1 u8_cs1 List.length_append u8s_app penA nb_vals vals_len u8s_nil
structure Rec_ where
  tower : Int
  channel : Int
  state : Int
  hint : Sum
  blob : Sum
def recA (r : Rec_) : AV := .agg 67 [n64 r.tower, n64 r.channel, n64 r.state, sumA r.hint, sumA r.blob]
def recL (r : Rec_) : List UInt8 := [r.tower, r.channel, r.state].flatMap numI ++ r.hint.b ++ r.blob.b
abbrev recR (r : Rec_) : Prop := 0 ≤ r.tower ∧ r.tower < 16 ∧ 0 ≤ r.channel ∧ r.channel ≤ 1048576 ∧ 0 ≤ r.state ∧ r.state ≤ 1048576
theorem recRight_spec (nx : Nat) (r : Rec_) : FnSpec Try.prog 101 nx [recA r] [] (bA (decide (recR r))) [] 0 := by
  refine FnSpec.of_code (cx := cx) (an := {}) (rs := [.tmp 2]) mo Try.func101 rfl rfl (by kernel_rfl) (by kernel_rfl) (by show 1 ≤ _; decide) (.inl rfl) (by simp [allWr, keys, Res.wr]) ?_
  repeat' (first | omega | assumption | (show AL.ahead _ _ _ = true; rfl) | refine brF (fun _ => ?_) (fun _ => ?_) | refine brT (fun _ => ?_) (fun _ => ?_) | refine brVF (fun _ => ?_) (fun _ => ?_) | refine brVT (fun _ => ?_) (fun _ => ?_) | (with_reducible refine And.intro ?_ ?_) | (simp -dsimp -implicitDefEqProofs only [go_sem, ↓reduceIte, Nat.reduceEqDiff, Nat.reduceAdd, Nat.reduceMul, Nat.reduceLeDiff, Nat.reduceLT, Nat.reduceBEq, Nat.reducePow, Int.reduceToNat, Int.reduceLE, Int.reduceLT, Int.reduceNeg, reduceCtorEq, Int.reduceEq, Int.reduceAdd, Int.reduceSub, Int.reduceMul, Nat.reduceSub, recA]))
  all_goals (simp only [bA, recR]; congr 2; first | (simp; omega) | (apply decide_eq_decide.2; omega) | trace_state)
theorem recText_spec (nx : Nat) (r : Rec_) : FnSpec Try.prog 103 nx [recA r] [] (.sl 1 (u8s (recL r)) 0) [] 0 := by
  have h1 := flat_numI [r.tower, r.channel, r.state]
  have h2 := r.hint.h
  have h3 := r.blob.h
  simp only [List.length_cons, List.length_nil] at h1
  have key : FnSpec Try.prog 103 nx [recA r] [] (.sl 1 (u8s (recL r)) (nx + 210)) [(nx + 208, some (.tail (recL r).length))] 600 := by
    unfold recL
    refine FnSpec.of_code (cx := cx) (an := {tk := [(3, [([0], 1)])]}) (rs := [.tmp 2]) mo Try.func103 rfl rfl (by kernel_rfl) (by kernel_rfl) (by show 1 ≤ _; decide) (.inl rfl) (by simp [allWr, keys, Res.wr]) ?_
    repeat' (first | omega | assumption | (show AL.ahead _ _ _ = true; rfl) | refine brF (fun _ => ?_) (fun _ => ?_) | refine brT (fun _ => ?_) (fun _ => ?_) | refine brVF (fun _ => ?_) (fun _ => ?_) | refine brVT (fun _ => ?_) (fun _ => ?_) | (with_reducible refine And.intro ?_ ?_) | (refine callK_by (nums_spec _ (nx + 16) (nx + 17) 1 [] [r.tower, r.channel, r.state] (by simp) (by omega) (by omega) (by omega) (by omega)) ?_) | (refine callK_by (psum_spec _ (nx + 16) (nx + 17) ([r.tower, r.channel, r.state].flatMap numI) r.hint (by omega) (by omega) (by omega) (by omega)) ?_) | (refine callK_by (psum_spec _ (nx + 16) (nx + 17) ([r.tower, r.channel, r.state].flatMap numI ++ r.hint.b) r.blob (by simp only [List.length_append]; omega) (by omega) (by omega) (by omega)) ?_) | (refine callK_by (bytes_spec _ (nx + 16) (nx + 19) ([r.tower, r.channel, r.state].flatMap numI ++ r.hint.b ++ r.blob.b) (by simp only [List.length_append]; omega) (by omega) (by omega)) ?_) | (simp -dsimp -implicitDefEqProofs only [go_sem, ↓reduceIte, Nat.reduceEqDiff, Nat.reduceAdd, Nat.reduceMul, Nat.reduceLeDiff, Nat.reduceLT, Nat.reduceBEq, Nat.reducePow, Int.reduceToNat, Int.reduceLE, Int.reduceLT, Int.reduceNeg, reduceCtorEq, Int.reduceEq, Int.reduceAdd, Int.reduceSub, Int.reduceMul, Nat.reduceSub, recA]))
    all_goals trace_state
  exact key.forget0 ⟨rfl, .inr ⟨.inl rfl, .inl rfl⟩⟩ (by simp [AV.nb, nb_u8s]) (by simp [keys])
structure Proof_ where
  rec_ : Rec_
  sig : List UInt8
  blob : List UInt8
  commit : Sum
def proofA (p : Proof_) : AV := .agg 101 [recA p.rec_, .sl 1 (u8s p.sig) 0, .sl 1 (u8s p.blob) 0, sumA p.commit]
def textL (d : List UInt8) : List UInt8 := numI d.length ++ d
def proofL (p : Proof_) : List UInt8 := textL (recL p.rec_) ++ textL p.sig ++ textL p.blob ++ p.commit.b
abbrev proofR (p : Proof_) : Prop := recR p.rec_ ∧ p.sig.length ≤ 65536 ∧ p.blob.length ≤ 65536
theorem proof_len (p : Proof_) (h : proofR p) : (recL p.rec_).length ≤ 94 ∧ (proofL p).length = (numI (recL p.rec_).length).length + (recL p.rec_).length + ((numI p.sig.length).length + p.sig.length) + ((numI p.blob.length).length + p.blob.length) + 32 := by
  have h1 := flat_numI [p.rec_.tower, p.rec_.channel, p.rec_.state]
  simp only [List.length_cons, List.length_nil] at h1
  have h2 : (recL p.rec_).length ≤ 94 := by simp only [recL, List.length_append, sum_h]; omega
  refine ⟨h2, ?_⟩
  simp only [proofL, textL, List.length_append, sum_h]
end Go.Proofs.Ytjcnhgmaabkelaa

/-
  Is a signature that of a key with a root? Is a receipt good?
-/
set_option linter.unusedSimpArgs false
set_option linter.unusedVariables false
set_option maxRecDepth 100000
set_option maxHeartbeats 1000000
namespace Go.Proofs.Ytjcnhgmaabkelaa
open Go Go.AL Go.Proofs.Ytjcnhgmaabkelaa.T
attribute [local go_sem] nb_u8s u8s_length nb_sum sumA List.length_replicate u8_wrap take32 List.drop_zero zero_sum sum_h u8s_nil sums_len nb_sums
noncomputable def verB (root : Sum) (text sig : List UInt8) : Bool :=
  if (readS sig).e = 0 ∧ (readS sig).one.length = 4096 ∧ (readS sig).at_ < (readS sig).leaves then checkC root ⟨(readS sig).at_.toNat, (readS sig).leaves.toNat, leafS (backS text (readS sig).one), (readS sig).path⟩ else false
theorem readS_rng (b : List UInt8) : 0 ≤ (readS b).at_ ∧ 0 ≤ (readS b).leaves ∧ (readS b).leaves ≤ 64 := by
  have h1 := uptoS_rng ⟨b, 0⟩ 64 (by decide)
  have h2 := uptoS_rng (uptoS ⟨b, 0⟩ 64).2 64 (by decide)
  exact ⟨h1.1, h2.1, h2.2⟩
theorem mver_spec (nx t t2 : Nat) (root : Sum) (text sig : List UInt8) (hx : text.length < 2 ^ 39) (hs : sig.length < 2 ^ 40) (ht : t < 2 ∨ t - 2 < nx) (ht2 : t2 = 0) :
    FnSpec Try.prog 102 nx [sumA root, .sl 1 (u8s text) t, .sl 1 (u8s sig) t2] [] (bA (verB root text sig)) [] 0 := by
  subst ht2
  have hrd := fun nc => read_spec nc sig hs
  have hrg := readS_rng sig
  have hvb : ∀ b, b = verB root text sig → (bA b = bA (verB root text sig)) := fun b h => by rw [h]
  unfold verB at hvb ⊢
  generalize readS sig = R at *
  by_cases he : R.e = 0
  · simp only [he, if_true] at hrd
    by_cases ho : R.one.length = 4096
    · have hbk := fun nc (h : nx ≤ nc) => backT_spec nc t 0 text R.one hx ho (by omega) (by omega)
      by_cases hc : R.at_ < R.leaves
      · have hck := fun nc => check_spec nc root (backS text R.one) R.at_.toNat R.leaves.toNat R.path (by omega) (by omega)
        rw [Int.toNat_of_nonneg hrg.1, Int.toNat_of_nonneg hrg.2.1] at hck
        rw [if_pos ⟨he, ho, hc⟩]
        refine FnSpec.of_code (cx := cx) (an := {}) (rs := [.tmp 6]) mo Try.func102 rfl rfl (by kernel_rfl) (by kernel_rfl) (by show 3 ≤ _; decide) (.inl rfl) (by simp [allWr, keys, Res.wr]) ?_
        repeat' (first | omega | assumption | (show AL.ahead _ _ _ = true; rfl) | refine brF (fun _ => ?_) (fun _ => ?_) | refine brT (fun _ => ?_) (fun _ => ?_) | refine brVF (fun _ => ?_) (fun _ => ?_) | refine brVT (fun _ => ?_) (fun _ => ?_) | (with_reducible refine And.intro ?_ ?_) | (refine callK_by (hrd _) ?_) | (refine callK_by (hbk _ (by omega)) ?_) | (refine callK_by (hck _) ?_) | (simp -dsimp -implicitDefEqProofs only [go_sem, ↓reduceIte, Nat.reduceEqDiff, Nat.reduceAdd, Nat.reduceMul, Nat.reduceLeDiff, Nat.reduceLT, Nat.reduceBEq, Nat.reducePow, Int.reduceToNat, Int.reduceLE, Int.reduceLT, Int.reduceNeg, reduceCtorEq, Int.reduceEq, Int.reduceAdd, Int.reduceSub, Int.reduceMul, Nat.reduceSub]))
        all_goals trace_state
      · have hck := fun nc => checkBad_spec nc 0 root (backS text R.one) R.at_ R.leaves R.path (by omega) (by omega)
        rw [if_neg (fun h => hc h.2.2)]
        refine FnSpec.of_code (cx := cx) (an := {}) (rs := [.tmp 6]) mo Try.func102 rfl rfl (by kernel_rfl) (by kernel_rfl) (by show 3 ≤ _; decide) (.inl rfl) (by simp [allWr, keys, Res.wr]) ?_
        repeat' (first | omega | assumption | (show AL.ahead _ _ _ = true; rfl) | refine brF (fun _ => ?_) (fun _ => ?_) | refine brT (fun _ => ?_) (fun _ => ?_) | refine brVF (fun _ => ?_) (fun _ => ?_) | refine brVT (fun _ => ?_) (fun _ => ?_) | (with_reducible refine And.intro ?_ ?_) | (refine callK_by (hrd _) ?_) | (refine callK_by (hbk _ (by omega)) ?_) | (refine callK_by (hck _) ?_) | (simp -dsimp -implicitDefEqProofs only [go_sem, ↓reduceIte, Nat.reduceEqDiff, Nat.reduceAdd, Nat.reduceMul, Nat.reduceLeDiff, Nat.reduceLT, Nat.reduceBEq, Nat.reducePow, Int.reduceToNat, Int.reduceLE, Int.reduceLT, Int.reduceNeg, reduceCtorEq, Int.reduceEq, Int.reduceAdd, Int.reduceSub, Int.reduceMul, Nat.reduceSub]))
        all_goals trace_state
    · have hbk := fun nc (h : nx ≤ nc) => backBad_spec nc t 0 text R.one ho (by omega) (by omega)
      rw [if_neg (fun h => ho h.2.1)]
      refine FnSpec.of_code (cx := cx) (an := {}) (rs := [.tmp 6]) mo Try.func102 rfl rfl (by kernel_rfl) (by kernel_rfl) (by show 3 ≤ _; decide) (.inl rfl) (by simp [allWr, keys, Res.wr]) ?_
      repeat' (first | omega | assumption | (show AL.ahead _ _ _ = true; rfl) | refine brF (fun _ => ?_) (fun _ => ?_) | refine brT (fun _ => ?_) (fun _ => ?_) | refine brVF (fun _ => ?_) (fun _ => ?_) | refine brVT (fun _ => ?_) (fun _ => ?_) | (with_reducible refine And.intro ?_ ?_) | (refine callK_by (hrd _) ?_) | (refine callK_by (hbk _ (by omega)) ?_) | (simp -dsimp -implicitDefEqProofs only [go_sem, ↓reduceIte, Nat.reduceEqDiff, Nat.reduceAdd, Nat.reduceMul, Nat.reduceLeDiff, Nat.reduceLT, Nat.reduceBEq, Nat.reducePow, Int.reduceToNat, Int.reduceLE, Int.reduceLT, Int.reduceNeg, reduceCtorEq, Int.reduceEq, Int.reduceAdd, Int.reduceSub, Int.reduceMul, Nat.reduceSub]))
      all_goals trace_state
  · simp only [he, if_false] at hrd
    rw [if_neg (fun h => he h.1)]
    refine FnSpec.of_code (cx := cx) (an := {}) (rs := [.tmp 6]) mo Try.func102 rfl rfl (by kernel_rfl) (by kernel_rfl) (by show 3 ≤ _; decide) (.inl rfl) (by simp [allWr, keys, Res.wr]) ?_
    repeat' (first | omega | assumption | (show AL.ahead _ _ _ = true; rfl) | refine brF (fun _ => ?_) (fun _ => ?_) | refine brT (fun _ => ?_) (fun _ => ?_) | refine brVF (fun _ => ?_) (fun _ => ?_) | refine brVT (fun _ => ?_) (fun _ => ?_) | (with_reducible refine And.intro ?_ ?_) | (refine callK_by (hrd _) ?_) | (simp -dsimp -implicitDefEqProofs only [go_sem, ↓reduceIte, Nat.reduceEqDiff, Nat.reduceAdd, Nat.reduceMul, Nat.reduceLeDiff, Nat.reduceLT, Nat.reduceBEq, Nat.reducePow, Int.reduceToNat, Int.reduceLE, Int.reduceLT, Int.reduceNeg, reduceCtorEq, Int.reduceEq, Int.reduceAdd, Int.reduceSub, Int.reduceMul, Nat.reduceSub]))
    all_goals trace_state
structure SRec where
  rec_ : Rec_
  sig : List UInt8
def srecA (x : SRec) : AV := .agg 68 [recA x.rec_, .sl 1 (u8s x.sig) 0]
noncomputable def goodB (root : Sum) (x : SRec) : Bool := decide (recR x.rec_) && verB root (recL x.rec_) x.sig
theorem rver_spec (nx : Nat) (root : Sum) (x : SRec) (hs : x.sig.length < 2 ^ 40) : FnSpec Try.prog 89 nx [sumA root, recA x.rec_, .sl 1 (u8s x.sig) 0] [] (bA (goodB root x)) [] 0 := by
  have h1 := flat_numI [x.rec_.tower, x.rec_.channel, x.rec_.state]
  simp only [List.length_cons, List.length_nil] at h1
  have hl : (recL x.rec_).length < 2 ^ 39 := by simp only [recL, List.length_append, sum_h]; omega
  have h2 := fun nc => recRight_spec nc x.rec_
  have h3 := fun nc => recText_spec nc x.rec_
  have h4 := fun nc => mver_spec nc 0 0 root (recL x.rec_) x.sig hl hs (by omega) rfl
  simp only [recA] at h2 h3
  unfold goodB
  refine FnSpec.of_code (cx := cx) (an := {}) (rs := [.tmp 6]) mo Try.func89 rfl rfl (by kernel_rfl) (by kernel_rfl) (by show 3 ≤ _; decide) (.inl rfl) (by simp [allWr, keys, Res.wr]) ?_
  repeat' (first | omega | assumption | (show AL.ahead _ _ _ = true; rfl) | refine brF (fun _ => ?_) (fun _ => ?_) | refine brT (fun _ => ?_) (fun _ => ?_) | refine brVF (fun _ => ?_) (fun _ => ?_) | refine brVT (fun _ => ?_) (fun _ => ?_) | (with_reducible refine And.intro ?_ ?_) | (refine callK_by (h2 _) ?_) | (refine callK_by (h3 _) ?_) | (refine callK_by (h4 _) ?_) | (simp -dsimp -implicitDefEqProofs only [go_sem, ↓reduceIte, Nat.reduceEqDiff, Nat.reduceAdd, Nat.reduceMul, Nat.reduceLeDiff, Nat.reduceLT, Nat.reduceBEq, Nat.reducePow, Int.reduceToNat, Int.reduceLE, Int.reduceLT, Int.reduceNeg, reduceCtorEq, Int.reduceEq, Int.reduceAdd, Int.reduceSub, Int.reduceMul, Nat.reduceSub, recA]))
  · rename_i hx
    rw [decide_eq_true hx, Bool.true_and]
  · rename_i hx
    rw [decide_eq_false hx, Bool.false_and]
theorem good_spec (nx : Nat) (root : Sum) (x : SRec) (hs : x.sig.length < 2 ^ 40) : FnSpec Try.prog 67 nx [srecA x, sumA root] [] (bA (goodB root x)) [] 0 := by
  have h1 := fun nc => rver_spec nc root x hs
  simp only [recA] at h1
  refine FnSpec.of_code (cx := cx) (an := {}) (rs := [.tmp 4]) mo Try.func67 rfl rfl (by kernel_rfl) (by kernel_rfl) (by show 2 ≤ _; decide) (.inl rfl) (by simp [allWr, keys, Res.wr]) ?_
  repeat' (first | omega | assumption | (show AL.ahead _ _ _ = true; rfl) | refine brF (fun _ => ?_) (fun _ => ?_) | refine brT (fun _ => ?_) (fun _ => ?_) | refine brVF (fun _ => ?_) (fun _ => ?_) | refine brVT (fun _ => ?_) (fun _ => ?_) | (with_reducible refine And.intro ?_ ?_) | (refine callK_by (h1 _) ?_) | (simp -dsimp -implicitDefEqProofs only [go_sem, ↓reduceIte, Nat.reduceEqDiff, Nat.reduceAdd, Nat.reduceMul, Nat.reduceLeDiff, Nat.reduceLT, Nat.reduceBEq, Nat.reducePow, Int.reduceToNat, Int.reduceLE, Int.reduceLT, Int.reduceNeg, reduceCtorEq, Int.reduceEq, Int.reduceAdd, Int.reduceSub, Int.reduceMul, Nat.reduceSub, srecA, recA]))
  all_goals trace_state
end Go.Proofs.Ytjcnhgmaabkelaa

/-
  What proves.
-/
set_option linter.unusedSimpArgs false
set_option linter.unusedVariables false
set_option maxRecDepth 100000
set_option maxHeartbeats 1000000
namespace Go.Proofs.Ytjcnhgmaabkelaa
open Go Go.AL Go.Proofs.Ytjcnhgmaabkelaa.T
attribute [local go_sem] nb_u8s u8s_length nb_sum sumA List.length_replicate zero_sum sum_h nb_vals vals_len u8s_nil
structure Held_ where
  rec_ : Rec_
  sig : List UInt8
  blob : List UInt8
def heldA (h : Held_) : AV := .agg 69 [.agg 68 [recA h.rec_, .sl 1 (u8s h.sig) 0], .sl 1 (u8s h.blob) 0]
def heldP (h : Held_) (id : Sum) : Proof_ := ⟨h.rec_, h.sig, h.blob, id⟩
def proveT (ch tower : Int) (d : List UInt8) : Tx_ := ⟨[], [], ⟨6, tower, ch, 0, zeroS, d⟩, []⟩
theorem proveT_len (ch t : Int) (d : List UInt8) (hd : d.length ≤ 65536) : (bodyL true (proveT ch t d)).length < 2 ^ 38 := by
  have h2 := numI_len ((0 : Nat) : Int)
  have h4 := opL_le ⟨6, t, ch, 0, zeroS, d⟩
  simp only at h4
  simp only [bodyL, proveT, List.flatMap_nil, List.append_nil, List.length_append, List.length_nil]
  omega
theorem proveSign (nx : Nat) (ch k t : Int) (d : List UInt8) (hd : d.length ≤ 65536) :
    FnSpec Try.prog 33 nx [.agg 40 [.sl 35 [] 1, .sl 2 [] 1, .agg 37 [n64 6, n64 t, n64 ch, n64 0, sumA zeroS, .sl 1 (u8s d) 0], .sl 33 [] 1], .sl 1 [n64 k] 1] [] (txA (signedT (proveT ch t d) k)) [] 0 := by
  refine (signed_spec nx 1 (proveT ch t d) k rfl (proveT_len ch t d hd) (fun o ho => by simp [proveT] at ho) (.inl (by decide))).le ?_
  refine ⟨_, _, rfl, ⟨_, rfl, _, _, rfl, ⟨_, _, rfl, AV.les_refl _, .inr (.inl rfl)⟩, _, _, rfl, ⟨_, _, rfl, AV.les_refl _, .inr (.inl rfl)⟩, _, _, rfl, AV.le_refl _, AV.les_refl _⟩, AV.les_refl _⟩
end Go.Proofs.Ytjcnhgmaabkelaa

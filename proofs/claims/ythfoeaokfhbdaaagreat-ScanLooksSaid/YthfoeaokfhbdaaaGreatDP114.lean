/-
 A channel is read.
-/
import Derived.Test.YthfoeaokfhbdaaaGreatDP71
import Derived.Test.YthfoeaokfhbdaaaGreatDP65
import Derived.Test.YthfoeaokfhbdaaaGreatDP23
import Derived.Test.YthfoeaokfhbdaaaGreatDP94
set_option linter.unusedSimpArgs false
set_option linter.unusedVariables false
set_option maxRecDepth 100000
set_option maxHeartbeats 8000000
namespace Go.Proofs.YthfoeaokfhbdaaaGreat
open Go Go.AL Go.Proofs.YthfoeaokfhbdaaaGreat.T
attribute [local go_sem] nb_u8s u8s_length nb_sum List.length_replicate zero_sum sum_h u8s_nil sum_csz sum_agg sumA_good nb_eye
theorem rchan_spec (nx : Nat) (b : List UInt8) (hb : b.length < 2 ^ 40) : FnSpec Tryz.prog 22 nx [.sl 1 (u8s b) 0] [] (.tup [chanA (rdC b).1, n64 (rdC b).2]) [] 0 := by
 obtain ⟨a, ha⟩ : ∃ a, a = uptoS ⟨b, 0⟩ 1048576 := ⟨_, rfl⟩
 obtain ⟨c, hc⟩ : ∃ c, c = uptoS a.2 255 := ⟨_, rfl⟩
 obtain ⟨p, hp⟩ : ∃ p, p = uptoS c.2 255 := ⟨_, rfl⟩
 obtain ⟨t, ht⟩ : ∃ t, t = esumS p.2 := ⟨_, rfl⟩
 obtain ⟨i, hi⟩ : ∃ i, i = uptoS t.2 16 := ⟨_, rfl⟩
 obtain ⟨k, hk⟩ : ∃ k, k = uptoS i.2 1125899906842624 := ⟨_, rfl⟩
 obtain ⟨w, hw⟩ : ∃ w, w = uptoS k.2 1073741824 := ⟨_, rfl⟩
 obtain ⟨v, hv⟩ : ∃ v, v = uptoS w.2 1073741824 := ⟨_, rfl⟩
 have hr : readC b = (⟨a.1, c.1, p.1, ⟨t.1, i.1⟩, k.1, w.1, v.1⟩, doneS v.2) := by rw [hv, hw, hk, hi, ht, hp, hc, ha]; rfl
 have l1 := uptoS_len ⟨b, 0⟩ 1048576
 have l2 := uptoS_len a.2 255
 have l3 := uptoS_len c.2 255
 have l4 := esumS_len p.2
 have l5 := uptoS_len t.2 16
 have l6 := uptoS_len i.2 1125899906842624
 have l7 := uptoS_len k.2 1073741824
 rw [← ha] at l1
 rw [← hc] at l2
 rw [← hp] at l3
 rw [← ht] at l4
 rw [← hi] at l5
 rw [← hk] at l6
 rw [← hw] at l7
 simp only at l1
 have hrr : rdC b = if doneS v.2 = 0 then (@ite _ (chanR ⟨a.1, c.1, p.1, ⟨t.1, i.1⟩, k.1, w.1, v.1⟩) (Classical.propDecidable _) (⟨a.1, c.1, p.1, ⟨t.1, i.1⟩, k.1, w.1, v.1⟩, 0) (chanZ0, 4)) else (chanZ0, doneS v.2) := by unfold rdC; rw [hr]
 have hch := fun nc => chanR_spec nc ⟨a.1, c.1, p.1, ⟨t.1, i.1⟩, k.1, w.1, v.1⟩
 have z1 := fun nc m (q : m < nc) => upto_spec nc m ⟨b, 0⟩ 1048576 q hb
 have z2 := fun nc m (q : m < nc) => upto_spec nc m a.2 255 q (by omega)
 have z3 := fun nc m (q : m < nc) => upto_spec nc m c.2 255 q (by omega)
 have z4 := fun nc m (q : m < nc) => esum_spec nc m p.2 q (by omega)
 have z5 := fun nc m (q : m < nc) => upto_spec nc m t.2 16 q (by omega)
 have z6 := fun nc m (q : m < nc) => upto_spec nc m i.2 1125899906842624 q (by omega)
 have z7 := fun nc m (q : m < nc) => upto_spec nc m k.2 1073741824 q (by omega)
 have z8 := fun nc m (q : m < nc) => upto_spec nc m w.2 1073741824 q (by omega)
 have z9 := fun nc m (q : m < nc) => done_spec nc m v.2 q
 rw [← ha] at z1
 rw [← hc] at z2
 rw [← hp] at z3
 rw [← ht] at z4
 rw [← hi] at z5
 rw [← hk] at z6
 rw [← hw] at z7
 rw [← hv] at z8
 clear ha hc hp ht hi hk hw hv hr
 simp only [chanA, refA] at hch
 rw [hrr]
 by_cases hd : doneS v.2 = 0
 ·rw [hd] at z9
  rw [if_pos hd]
  by_cases hR : chanR ⟨a.1, c.1, p.1, ⟨t.1, i.1⟩, k.1, w.1, v.1⟩
  ·rw [if_pos hR]
   rw [decide_eq_true hR] at hch
   refine FnSpec.of_code (cx := cx) (an := {}) (rs := [.cell 2 66, .tmp 3]) mo Tryz.func22 rfl rfl (by kernel_rfl) (by kernel_rfl) (by show 1 ≤ _; decide) (.inr ⟨_, rfl, by simp [AV.good, chanA]⟩) (by simp [allWr, keys, Res.wr]) ?_
   repeat' (first | omega | assumption | (show AL.ahead _ _ _ = true; rfl) | (first | apply brF | apply brT | apply brVF | apply brVT) <;> intro _ | (with_reducible refine And.intro ?_ ?_) | (refine callK_by (look_spec _ b) ?_) | (simp -dsimp -implicitDefEqProofs only [go_sem]))
   refine callK_by (z1 _ (nx + 64) (by omega)) ?_
   repeat' (first | omega | assumption | (show AL.ahead _ _ _ = true; rfl) | (first | apply brF | apply brT | apply brVF | apply brVT) <;> intro _ | (with_reducible refine And.intro ?_ ?_) | (simp -dsimp -implicitDefEqProofs only [go_sem]))
   refine callK_by (z2 _ (nx + 64) (by omega)) ?_
   repeat' (first | omega | assumption | (show AL.ahead _ _ _ = true; rfl) | (first | apply brF | apply brT | apply brVF | apply brVT) <;> intro _ | (with_reducible refine And.intro ?_ ?_) | (simp -dsimp -implicitDefEqProofs only [go_sem]))
   refine callK_by (z3 _ (nx + 64) (by omega)) ?_
   repeat' (first | omega | assumption | (show AL.ahead _ _ _ = true; rfl) | (first | apply brF | apply brT | apply brVF | apply brVT) <;> intro _ | (with_reducible refine And.intro ?_ ?_) | (simp -dsimp -implicitDefEqProofs only [go_sem]))
   refine callK_by (z4 _ (nx + 64) (by omega)) ?_
   repeat' (first | omega | assumption | (show AL.ahead _ _ _ = true; rfl) | (first | apply brF | apply brT | apply brVF | apply brVT) <;> intro _ | (with_reducible refine And.intro ?_ ?_) | (simp -dsimp -implicitDefEqProofs only [go_sem]))
   refine callK_by (z5 _ (nx + 64) (by omega)) ?_
   repeat' (first | omega | assumption | (show AL.ahead _ _ _ = true; rfl) | (first | apply brF | apply brT | apply brVF | apply brVT) <;> intro _ | (with_reducible refine And.intro ?_ ?_) | (simp -dsimp -implicitDefEqProofs only [go_sem]))
   refine callK_by (z6 _ (nx + 64) (by omega)) ?_
   repeat' (first | omega | assumption | (show AL.ahead _ _ _ = true; rfl) | (first | apply brF | apply brT | apply brVF | apply brVT) <;> intro _ | (with_reducible refine And.intro ?_ ?_) | (simp -dsimp -implicitDefEqProofs only [go_sem]))
   refine callK_by (z7 _ (nx + 64) (by omega)) ?_
   repeat' (first | omega | assumption | (show AL.ahead _ _ _ = true; rfl) | (first | apply brF | apply brT | apply brVF | apply brVT) <;> intro _ | (with_reducible refine And.intro ?_ ?_) | (simp -dsimp -implicitDefEqProofs only [go_sem]))
   refine callK_by (z8 _ (nx + 64) (by omega)) ?_
   repeat' (first | omega | assumption | (show AL.ahead _ _ _ = true; rfl) | (first | apply brF | apply brT | apply brVF | apply brVT) <;> intro _ | (with_reducible refine And.intro ?_ ?_) | (simp -dsimp -implicitDefEqProofs only [go_sem]))
   refine callK_by (z9 _ (nx + 64) (by omega)) ?_
   repeat' (first | omega | assumption | (show AL.ahead _ _ _ = true; rfl) | (first | apply brF | apply brT | apply brVF | apply brVT) <;> intro _ | (with_reducible refine And.intro ?_ ?_) | (refine callK_by (hch _) ?_) | (simp -dsimp -implicitDefEqProofs only [go_sem, chanA, refA]))
   all_goals rfl
  ·rw [if_neg hR]
   rw [decide_eq_false hR] at hch
   refine FnSpec.of_code (cx := cx) (an := {}) (rs := [.cell 2 66, .tmp 3]) mo Tryz.func22 rfl rfl (by kernel_rfl) (by kernel_rfl) (by show 1 ≤ _; decide) (.inr ⟨_, rfl, by simp [AV.good, chanA]⟩) (by simp [allWr, keys, Res.wr]) ?_
   repeat' (first | omega | assumption | (show AL.ahead _ _ _ = true; rfl) | (first | apply brF | apply brT | apply brVF | apply brVT) <;> intro _ | (with_reducible refine And.intro ?_ ?_) | (refine callK_by (look_spec _ b) ?_) | (simp -dsimp -implicitDefEqProofs only [go_sem]))
   refine callK_by (z1 _ (nx + 64) (by omega)) ?_
   repeat' (first | omega | assumption | (show AL.ahead _ _ _ = true; rfl) | (first | apply brF | apply brT | apply brVF | apply brVT) <;> intro _ | (with_reducible refine And.intro ?_ ?_) | (simp -dsimp -implicitDefEqProofs only [go_sem]))
   refine callK_by (z2 _ (nx + 64) (by omega)) ?_
   repeat' (first | omega | assumption | (show AL.ahead _ _ _ = true; rfl) | (first | apply brF | apply brT | apply brVF | apply brVT) <;> intro _ | (with_reducible refine And.intro ?_ ?_) | (simp -dsimp -implicitDefEqProofs only [go_sem]))
   refine callK_by (z3 _ (nx + 64) (by omega)) ?_
   repeat' (first | omega | assumption | (show AL.ahead _ _ _ = true; rfl) | (first | apply brF | apply brT | apply brVF | apply brVT) <;> intro _ | (with_reducible refine And.intro ?_ ?_) | (simp -dsimp -implicitDefEqProofs only [go_sem]))
   refine callK_by (z4 _ (nx + 64) (by omega)) ?_
   repeat' (first | omega | assumption | (show AL.ahead _ _ _ = true; rfl) | (first | apply brF | apply brT | apply brVF | apply brVT) <;> intro _ | (with_reducible refine And.intro ?_ ?_) | (simp -dsimp -implicitDefEqProofs only [go_sem]))
   refine callK_by (z5 _ (nx + 64) (by omega)) ?_
   repeat' (first | omega | assumption | (show AL.ahead _ _ _ = true; rfl) | (first | apply brF | apply brT | apply brVF | apply brVT) <;> intro _ | (with_reducible refine And.intro ?_ ?_) | (simp -dsimp -implicitDefEqProofs only [go_sem]))
   refine callK_by (z6 _ (nx + 64) (by omega)) ?_
   repeat' (first | omega | assumption | (show AL.ahead _ _ _ = true; rfl) | (first | apply brF | apply brT | apply brVF | apply brVT) <;> intro _ | (with_reducible refine And.intro ?_ ?_) | (simp -dsimp -implicitDefEqProofs only [go_sem]))
   refine callK_by (z7 _ (nx + 64) (by omega)) ?_
   repeat' (first | omega | assumption | (show AL.ahead _ _ _ = true; rfl) | (first | apply brF | apply brT | apply brVF | apply brVT) <;> intro _ | (with_reducible refine And.intro ?_ ?_) | (simp -dsimp -implicitDefEqProofs only [go_sem]))
   refine callK_by (z8 _ (nx + 64) (by omega)) ?_
   repeat' (first | omega | assumption | (show AL.ahead _ _ _ = true; rfl) | (first | apply brF | apply brT | apply brVF | apply brVT) <;> intro _ | (with_reducible refine And.intro ?_ ?_) | (simp -dsimp -implicitDefEqProofs only [go_sem]))
   refine callK_by (z9 _ (nx + 64) (by omega)) ?_
   repeat' (first | omega | assumption | (show AL.ahead _ _ _ = true; rfl) | (first | apply brF | apply brT | apply brVF | apply brVT) <;> intro _ | (with_reducible refine And.intro ?_ ?_) | (refine callK_by (hch _) ?_) | (simp -dsimp -implicitDefEqProofs only [go_sem, chanA, refA, chanZ0]))
   all_goals rfl
 ·rw [if_neg hd]
  refine FnSpec.of_code (cx := cx) (an := {}) (rs := [.cell 2 66, .tmp 3]) mo Tryz.func22 rfl rfl (by kernel_rfl) (by kernel_rfl) (by show 1 ≤ _; decide) (.inr ⟨_, rfl, by simp [AV.good, chanA]⟩) (by simp [allWr, keys, Res.wr]) ?_
  repeat' (first | omega | assumption | (show AL.ahead _ _ _ = true; rfl) | (first | apply brF | apply brT | apply brVF | apply brVT) <;> intro _ | (with_reducible refine And.intro ?_ ?_) | (refine callK_by (look_spec _ b) ?_) | (simp -dsimp -implicitDefEqProofs only [go_sem]))
  refine callK_by (z1 _ (nx + 64) (by omega)) ?_
  repeat' (first | omega | assumption | (show AL.ahead _ _ _ = true; rfl) | (first | apply brF | apply brT | apply brVF | apply brVT) <;> intro _ | (with_reducible refine And.intro ?_ ?_) | (simp -dsimp -implicitDefEqProofs only [go_sem]))
  refine callK_by (z2 _ (nx + 64) (by omega)) ?_
  repeat' (first | omega | assumption | (show AL.ahead _ _ _ = true; rfl) | (first | apply brF | apply brT | apply brVF | apply brVT) <;> intro _ | (with_reducible refine And.intro ?_ ?_) | (simp -dsimp -implicitDefEqProofs only [go_sem]))
  refine callK_by (z3 _ (nx + 64) (by omega)) ?_
  repeat' (first | omega | assumption | (show AL.ahead _ _ _ = true; rfl) | (first | apply brF | apply brT | apply brVF | apply brVT) <;> intro _ | (with_reducible refine And.intro ?_ ?_) | (simp -dsimp -implicitDefEqProofs only [go_sem]))
  refine callK_by (z4 _ (nx + 64) (by omega)) ?_
  repeat' (first | omega | assumption | (show AL.ahead _ _ _ = true; rfl) | (first | apply brF | apply brT | apply brVF | apply brVT) <;> intro _ | (with_reducible refine And.intro ?_ ?_) | (simp -dsimp -implicitDefEqProofs only [go_sem]))
  refine callK_by (z5 _ (nx + 64) (by omega)) ?_
  repeat' (first | omega | assumption | (show AL.ahead _ _ _ = true; rfl) | (first | apply brF | apply brT | apply brVF | apply brVT) <;> intro _ | (with_reducible refine And.intro ?_ ?_) | (simp -dsimp -implicitDefEqProofs only [go_sem]))
  refine callK_by (z6 _ (nx + 64) (by omega)) ?_
  repeat' (first | omega | assumption | (show AL.ahead _ _ _ = true; rfl) | (first | apply brF | apply brT | apply brVF | apply brVT) <;> intro _ | (with_reducible refine And.intro ?_ ?_) | (simp -dsimp -implicitDefEqProofs only [go_sem]))
  refine callK_by (z7 _ (nx + 64) (by omega)) ?_
  repeat' (first | omega | assumption | (show AL.ahead _ _ _ = true; rfl) | (first | apply brF | apply brT | apply brVF | apply brVT) <;> intro _ | (with_reducible refine And.intro ?_ ?_) | (simp -dsimp -implicitDefEqProofs only [go_sem]))
  refine callK_by (z8 _ (nx + 64) (by omega)) ?_
  repeat' (first | omega | assumption | (show AL.ahead _ _ _ = true; rfl) | (first | apply brF | apply brT | apply brVF | apply brVT) <;> intro _ | (with_reducible refine And.intro ?_ ?_) | (simp -dsimp -implicitDefEqProofs only [go_sem]))
  refine callK_by (z9 _ (nx + 64) (by omega)) ?_
  repeat' (first | omega | assumption | (show AL.ahead _ _ _ = true; rfl) | (first | apply brF | apply brT | apply brVF | apply brVT) <;> intro _ | (with_reducible refine And.intro ?_ ?_) | (refine callK_by (hch _) ?_) | (simp -dsimp -implicitDefEqProofs only [go_sem, chanA, refA, chanZ0, hd]))
  all_goals rfl
end Go.Proofs.YthfoeaokfhbdaaaGreat

namespace Go.Proofs.YthfoeaokfhbdaaaGreat
open Go Go.AL Go.Proofs.YthfoeaokfhbdaaaGreat.T
def recZ : Rec_ := ⟨0, 0, 0, zeroS, zeroS⟩
def proofZ : Proof_ := ⟨recZ, [], [], zeroS⟩
def rdR (b : List UInt8) : Rec_ × Int :=
 let a := uptoS ⟨b, 0⟩ 15
 let c := uptoS a.2 1048576
 let s := uptoS c.2 1048576
 let h := esumS s.2
 let m := esumS h.2
 if doneS m.2 = 0 then (⟨a.1, c.1, s.1, h.1, m.1⟩, 0) else (recZ, doneS m.2)
def rdP (b : List UInt8) : Proof_ × Int :=
 if 65536 < b.length then (proofZ, 3) else
 let x := textS ⟨b, 0⟩ 65536
 let s := textS x.2 65536
 let l := textS s.2 65536
 let h := esumS l.2
 if doneS h.2 = 0 then (if (rdR x.1).2 = 0 then (⟨(rdR x.1).1, s.1, l.1, h.1⟩, 0) else (proofZ, (rdR x.1).2)) else (proofZ, doneS h.2)
theorem recA_good (r : Rec_) : (recA r).good = true := rfl
theorem recA_agg (r : Rec_) : (recA r).isAgg = true := rfl
theorem recA_csz (r : Rec_) : (recA r).csize = 67 := rfl
theorem nb_rec1 {m : Nat} (r : Rec_) : AV.nb m (recA r) = True := by simp [recA, AV.nb, AV.nbs, nb_sum]
attribute [local go_sem] nb_u8s u8s_length nb_sum List.length_replicate zero_sum sum_h u8s_nil sum_csz sum_agg sumA_good nb_eye recA_good recA_agg recA_csz nb_rec1
theorem rread_spec (nx : Nat) (b : List UInt8) (hb : b.length < 2 ^ 40) : FnSpec Tryz.prog 192 nx [.sl 1 (u8s b) 0] [] (.tup [recA (rdR b).1, n64 (rdR b).2]) [] 0 := by
 obtain ⟨a, ha⟩ : ∃ a, a = uptoS ⟨b, 0⟩ 15 := ⟨_, rfl⟩
 obtain ⟨c, hc⟩ : ∃ c, c = uptoS a.2 1048576 := ⟨_, rfl⟩
 obtain ⟨s, hs⟩ : ∃ s, s = uptoS c.2 1048576 := ⟨_, rfl⟩
 obtain ⟨h, hh⟩ : ∃ h, h = esumS s.2 := ⟨_, rfl⟩
 obtain ⟨m, hm⟩ : ∃ m, m = esumS h.2 := ⟨_, rfl⟩
 have hrr : rdR b = if doneS m.2 = 0 then (⟨a.1, c.1, s.1, h.1, m.1⟩, 0) else (recZ, doneS m.2) := by rw [hm, hh, hs, hc, ha]; rfl
 have l1 := uptoS_len ⟨b, 0⟩ 15
 have l2 := uptoS_len a.2 1048576
 have l3 := uptoS_len c.2 1048576
 have l4 := esumS_len s.2
 rw [← ha] at l1
 rw [← hc] at l2
 rw [← hs] at l3
 rw [← hh] at l4
 simp only at l1
 have z1 := fun nc m (q : m < nc) => upto_spec nc m ⟨b, 0⟩ 15 q hb
 have z2 := fun nc m (q : m < nc) => upto_spec nc m a.2 1048576 q (by omega)
 have z3 := fun nc m (q : m < nc) => upto_spec nc m c.2 1048576 q (by omega)
 have z4 := fun nc m (q : m < nc) => esum_spec nc m s.2 q (by omega)
 have z5 := fun nc m (q : m < nc) => esum_spec nc m h.2 q (by omega)
 have z6 := fun nc k (q : k < nc) => done_spec nc k m.2 q
 rw [← ha] at z1
 rw [← hc] at z2
 rw [← hs] at z3
 rw [← hh] at z4
 rw [← hm] at z5
 clear ha hc hs hh hm
 rw [hrr]
 by_cases hd : doneS m.2 = 0
 ·rw [hd] at z6
  rw [if_pos hd]
  refine FnSpec.of_code (cx := cx) (an := {}) (rs := [.cell 2 173, .tmp 3]) mo Tryz.func192 rfl rfl (by kernel_rfl) (by kernel_rfl) (by show 1 ≤ _; decide) (.inr ⟨_, rfl, by simp [AV.good, recA]⟩) (by simp [allWr, keys, Res.wr]) ?_
  repeat' (first | omega | assumption | (show AL.ahead _ _ _ = true; rfl) | (first | apply brF | apply brT | apply brVF | apply brVT) <;> intro _ | (with_reducible refine And.intro ?_ ?_) | (refine callK_by (look_spec _ b) ?_) | (simp -dsimp -implicitDefEqProofs only [go_sem]))
  refine callK_by (z1 _ (nx + 64) (by omega)) ?_
  repeat' (first | omega | assumption | (show AL.ahead _ _ _ = true; rfl) | (first | apply brF | apply brT | apply brVF | apply brVT) <;> intro _ | (with_reducible refine And.intro ?_ ?_) | (simp -dsimp -implicitDefEqProofs only [go_sem]))
  refine callK_by (z2 _ (nx + 64) (by omega)) ?_
  repeat' (first | omega | assumption | (show AL.ahead _ _ _ = true; rfl) | (first | apply brF | apply brT | apply brVF | apply brVT) <;> intro _ | (with_reducible refine And.intro ?_ ?_) | (simp -dsimp -implicitDefEqProofs only [go_sem]))
  refine callK_by (z3 _ (nx + 64) (by omega)) ?_
  repeat' (first | omega | assumption | (show AL.ahead _ _ _ = true; rfl) | (first | apply brF | apply brT | apply brVF | apply brVT) <;> intro _ | (with_reducible refine And.intro ?_ ?_) | (simp -dsimp -implicitDefEqProofs only [go_sem]))
  refine callK_by (z4 _ (nx + 64) (by omega)) ?_
  repeat' (first | omega | assumption | (show AL.ahead _ _ _ = true; rfl) | (first | apply brF | apply brT | apply brVF | apply brVT) <;> intro _ | (with_reducible refine And.intro ?_ ?_) | (simp -dsimp -implicitDefEqProofs only [go_sem]))
  refine callK_by (z5 _ (nx + 64) (by omega)) ?_
  repeat' (first | omega | assumption | (show AL.ahead _ _ _ = true; rfl) | (first | apply brF | apply brT | apply brVF | apply brVT) <;> intro _ | (with_reducible refine And.intro ?_ ?_) | (simp -dsimp -implicitDefEqProofs only [go_sem]))
  refine callK_by (z6 _ (nx + 64) (by omega)) ?_
  repeat' (first | omega | assumption | (show AL.ahead _ _ _ = true; rfl) | (first | apply brF | apply brT | apply brVF | apply brVT) <;> intro _ | (with_reducible refine And.intro ?_ ?_) | (simp -dsimp -implicitDefEqProofs only [go_sem, recA]))
  all_goals rfl
 ·rw [if_neg hd]
  refine FnSpec.of_code (cx := cx) (an := {}) (rs := [.cell 2 173, .tmp 3]) mo Tryz.func192 rfl rfl (by kernel_rfl) (by kernel_rfl) (by show 1 ≤ _; decide) (.inr ⟨_, rfl, by simp [AV.good, recA]⟩) (by simp [allWr, keys, Res.wr]) ?_
  repeat' (first | omega | assumption | (show AL.ahead _ _ _ = true; rfl) | (first | apply brF | apply brT | apply brVF | apply brVT) <;> intro _ | (with_reducible refine And.intro ?_ ?_) | (refine callK_by (look_spec _ b) ?_) | (simp -dsimp -implicitDefEqProofs only [go_sem]))
  refine callK_by (z1 _ (nx + 64) (by omega)) ?_
  repeat' (first | omega | assumption | (show AL.ahead _ _ _ = true; rfl) | (first | apply brF | apply brT | apply brVF | apply brVT) <;> intro _ | (with_reducible refine And.intro ?_ ?_) | (simp -dsimp -implicitDefEqProofs only [go_sem]))
  refine callK_by (z2 _ (nx + 64) (by omega)) ?_
  repeat' (first | omega | assumption | (show AL.ahead _ _ _ = true; rfl) | (first | apply brF | apply brT | apply brVF | apply brVT) <;> intro _ | (with_reducible refine And.intro ?_ ?_) | (simp -dsimp -implicitDefEqProofs only [go_sem]))
  refine callK_by (z3 _ (nx + 64) (by omega)) ?_
  repeat' (first | omega | assumption | (show AL.ahead _ _ _ = true; rfl) | (first | apply brF | apply brT | apply brVF | apply brVT) <;> intro _ | (with_reducible refine And.intro ?_ ?_) | (simp -dsimp -implicitDefEqProofs only [go_sem]))
  refine callK_by (z4 _ (nx + 64) (by omega)) ?_
  repeat' (first | omega | assumption | (show AL.ahead _ _ _ = true; rfl) | (first | apply brF | apply brT | apply brVF | apply brVT) <;> intro _ | (with_reducible refine And.intro ?_ ?_) | (simp -dsimp -implicitDefEqProofs only [go_sem]))
  refine callK_by (z5 _ (nx + 64) (by omega)) ?_
  repeat' (first | omega | assumption | (show AL.ahead _ _ _ = true; rfl) | (first | apply brF | apply brT | apply brVF | apply brVT) <;> intro _ | (with_reducible refine And.intro ?_ ?_) | (simp -dsimp -implicitDefEqProofs only [go_sem]))
  refine callK_by (z6 _ (nx + 64) (by omega)) ?_
  repeat' (first | omega | assumption | (show AL.ahead _ _ _ = true; rfl) | (first | apply brF | apply brT | apply brVF | apply brVT) <;> intro _ | (with_reducible refine And.intro ?_ ?_) | (simp -dsimp -implicitDefEqProofs only [go_sem, recA, recZ, hd]))
  all_goals rfl
def proofZA : AV := .agg 101 [.agg 67 [n64 0, n64 0, n64 0, sumA zeroS, sumA zeroS], .sl 1 [] 1, .sl 1 [] 1, sumA zeroS]
def optP (r : Proof_ × Int) : AV := if r.2 = 0 then proofA r.1 else proofZA
theorem textS_fst (s : ES) (n : Int) (hn : 0 ≤ n) : (textS s n).1.length ≤ s.b.length := by
 have h1 := uptoS_len s n
 simp only [textS, rawS]
 split
 ·split
  ·simp
  ·simp only [List.length_take]; omega
 ·simp
theorem pget_spec (nx : Nat) (b : List UInt8) (hb : b.length < 2 ^ 40) : FnSpec Tryz.prog 166 nx [.sl 1 (u8s b) 0] [] (.tup [optP (rdP b), n64 (rdP b).2]) [] 0 := by
 by_cases hlen : 65536 < b.length
 ·have e : rdP b = (proofZ, 3) := by unfold rdP; rw [if_pos hlen]
  rw [e]
  have hgt : (65536 : Int) < (b.length : Int) := by omega
  have e2 : optP (proofZ, 3) = proofZA := by unfold optP; rw [if_neg (by decide)]
  rw [e2]
  refine FnSpec.of_code (cx := cx) (an := {}) (rs := [.cell 2 275, .tmp 3]) mo Tryz.func166 rfl rfl (by kernel_rfl) (by kernel_rfl) (by show 1 ≤ _; decide) (.inr ⟨_, rfl, by simp [AV.good, proofZA]⟩) (by simp [allWr, keys, Res.wr]) ?_
  repeat' (first | omega | assumption | (show AL.ahead _ _ _ = true; rfl) | (first | apply brF | apply brT | apply brVF | apply brVT) <;> intro _ | (with_reducible refine And.intro ?_ ?_) | (simp -dsimp -implicitDefEqProofs only [go_sem, gt_iff_lt, hgt, proofZA]))
  all_goals rfl
 ·have hgt : ¬ ((65536 : Int) < (b.length : Int)) := by omega
  obtain ⟨x, hx⟩ : ∃ x, x = textS ⟨b, 0⟩ 65536 := ⟨_, rfl⟩
  obtain ⟨s, hs⟩ : ∃ s, s = textS x.2 65536 := ⟨_, rfl⟩
  obtain ⟨l, hl⟩ : ∃ l, l = textS s.2 65536 := ⟨_, rfl⟩
  obtain ⟨h, hh⟩ : ∃ h, h = esumS l.2 := ⟨_, rfl⟩
  obtain ⟨R, hR⟩ : ∃ R, R = rdR x.1 := ⟨_, rfl⟩
  have hrr : rdP b = if doneS h.2 = 0 then (if R.2 = 0 then (⟨R.1, s.1, l.1, h.1⟩, 0) else (proofZ, R.2)) else (proofZ, doneS h.2) := by
   rw [hR, hh, hl, hs, hx]; unfold rdP; rw [if_neg hlen]
  have l1 := textS_len ⟨b, 0⟩ 65536
  have l2 := textS_len x.2 65536
  have l3 := textS_len s.2 65536
  have f1 := textS_fst ⟨b, 0⟩ 65536 (by decide)
  rw [← hx] at l1 f1
  rw [← hs] at l2
  rw [← hl] at l3
  simp only at l1 f1
  have z1 := fun nc m (q : m < nc) => etext_spec nc m ⟨b, 0⟩ 65536 q hb
  have z2 := fun nc m (q : m < nc) => etext_spec nc m x.2 65536 q (by omega)
  have z3 := fun nc m (q : m < nc) => etext_spec nc m s.2 65536 q (by omega)
  have z4 := fun nc m (q : m < nc) => esum_spec nc m l.2 q (by omega)
  have z5 := fun nc k (q : k < nc) => done_spec nc k h.2 q
  have z6 := fun nc => rread_spec nc x.1 (by omega)
  rw [← hx] at z1
  rw [← hs] at z2
  rw [← hl] at z3
  rw [← hh] at z4
  rw [← hR] at z6
  clear hx hs hl hh hR
  rw [hrr]
  by_cases hd : doneS h.2 = 0
  ·rw [hd] at z5
   by_cases hr : R.2 = 0
   ·have e2 : optP (if doneS h.2 = 0 then (if R.2 = 0 then (⟨R.1, s.1, l.1, h.1⟩, 0) else (proofZ, R.2)) else (proofZ, doneS h.2)) = proofA ⟨R.1, s.1, l.1, h.1⟩ := by rw [if_pos hd, if_pos hr]; rfl
    rw [e2, if_pos hd, if_pos hr]
    rw [hr] at z6
    refine FnSpec.of_code (cx := cx) (an := {}) (rs := [.cell 2 275, .tmp 3]) mo Tryz.func166 rfl rfl (by kernel_rfl) (by kernel_rfl) (by show 1 ≤ _; decide) (.inr ⟨_, rfl, by simp [AV.good, proofA, proofZA]⟩) (by simp [allWr, keys, Res.wr]) ?_
    repeat' (first | omega | assumption | (show AL.ahead _ _ _ = true; rfl) | (first | apply brF | apply brT | apply brVF | apply brVT) <;> intro _ | (with_reducible refine And.intro ?_ ?_) | (refine callK_by (look_spec _ b) ?_) | (simp -dsimp -implicitDefEqProofs only [go_sem, gt_iff_lt, hgt]))
    refine callK_by (z1 _ (nx + 88) (by omega)) ?_
    repeat' (first | omega | assumption | (show AL.ahead _ _ _ = true; rfl) | (first | apply brF | apply brT | apply brVF | apply brVT) <;> intro _ | (with_reducible refine And.intro ?_ ?_) | (simp -dsimp -implicitDefEqProofs only [go_sem]))
    refine callK_by (z2 _ (nx + 88) (by omega)) ?_
    repeat' (first | omega | assumption | (show AL.ahead _ _ _ = true; rfl) | (first | apply brF | apply brT | apply brVF | apply brVT) <;> intro _ | (with_reducible refine And.intro ?_ ?_) | (simp -dsimp -implicitDefEqProofs only [go_sem]))
    refine callK_by (z3 _ (nx + 88) (by omega)) ?_
    repeat' (first | omega | assumption | (show AL.ahead _ _ _ = true; rfl) | (first | apply brF | apply brT | apply brVF | apply brVT) <;> intro _ | (with_reducible refine And.intro ?_ ?_) | (simp -dsimp -implicitDefEqProofs only [go_sem]))
    refine callK_by (z4 _ (nx + 88) (by omega)) ?_
    repeat' (first | omega | assumption | (show AL.ahead _ _ _ = true; rfl) | (first | apply brF | apply brT | apply brVF | apply brVT) <;> intro _ | (with_reducible refine And.intro ?_ ?_) | (simp -dsimp -implicitDefEqProofs only [go_sem]))
    refine callK_by (z5 _ (nx + 88) (by omega)) ?_
    repeat' (first | omega | assumption | (show AL.ahead _ _ _ = true; rfl) | (first | apply brF | apply brT | apply brVF | apply brVT) <;> intro _ | (with_reducible refine And.intro ?_ ?_) | (refine callK_by (z6 _) ?_) | (simp -dsimp -implicitDefEqProofs only [go_sem, proofA]))
    all_goals rfl
   ·have e2 : optP (if doneS h.2 = 0 then (if R.2 = 0 then (⟨R.1, s.1, l.1, h.1⟩, 0) else (proofZ, R.2)) else (proofZ, doneS h.2)) = proofZA := by rw [if_pos hd, if_neg hr]; unfold optP; rw [if_neg hr]
    rw [e2, if_pos hd, if_neg hr]
    refine FnSpec.of_code (cx := cx) (an := {}) (rs := [.cell 2 275, .tmp 3]) mo Tryz.func166 rfl rfl (by kernel_rfl) (by kernel_rfl) (by show 1 ≤ _; decide) (.inr ⟨_, rfl, by simp [AV.good, proofA, proofZA]⟩) (by simp [allWr, keys, Res.wr]) ?_
    repeat' (first | omega | assumption | (show AL.ahead _ _ _ = true; rfl) | (first | apply brF | apply brT | apply brVF | apply brVT) <;> intro _ | (with_reducible refine And.intro ?_ ?_) | (refine callK_by (look_spec _ b) ?_) | (simp -dsimp -implicitDefEqProofs only [go_sem, gt_iff_lt, hgt]))
    refine callK_by (z1 _ (nx + 88) (by omega)) ?_
    repeat' (first | omega | assumption | (show AL.ahead _ _ _ = true; rfl) | (first | apply brF | apply brT | apply brVF | apply brVT) <;> intro _ | (with_reducible refine And.intro ?_ ?_) | (simp -dsimp -implicitDefEqProofs only [go_sem]))
    refine callK_by (z2 _ (nx + 88) (by omega)) ?_
    repeat' (first | omega | assumption | (show AL.ahead _ _ _ = true; rfl) | (first | apply brF | apply brT | apply brVF | apply brVT) <;> intro _ | (with_reducible refine And.intro ?_ ?_) | (simp -dsimp -implicitDefEqProofs only [go_sem]))
    refine callK_by (z3 _ (nx + 88) (by omega)) ?_
    repeat' (first | omega | assumption | (show AL.ahead _ _ _ = true; rfl) | (first | apply brF | apply brT | apply brVF | apply brVT) <;> intro _ | (with_reducible refine And.intro ?_ ?_) | (simp -dsimp -implicitDefEqProofs only [go_sem]))
    refine callK_by (z4 _ (nx + 88) (by omega)) ?_
    repeat' (first | omega | assumption | (show AL.ahead _ _ _ = true; rfl) | (first | apply brF | apply brT | apply brVF | apply brVT) <;> intro _ | (with_reducible refine And.intro ?_ ?_) | (simp -dsimp -implicitDefEqProofs only [go_sem]))
    refine callK_by (z5 _ (nx + 88) (by omega)) ?_
    repeat' (first | omega | assumption | (show AL.ahead _ _ _ = true; rfl) | (first | apply brF | apply brT | apply brVF | apply brVT) <;> intro _ | (with_reducible refine And.intro ?_ ?_) | (refine callK_by (z6 _) ?_) | (simp -dsimp -implicitDefEqProofs only [go_sem, proofZA, hr]))
    all_goals rfl
  ·have e2 : optP (if doneS h.2 = 0 then (if R.2 = 0 then (⟨R.1, s.1, l.1, h.1⟩, 0) else (proofZ, R.2)) else (proofZ, doneS h.2)) = proofZA := by rw [if_neg hd]; unfold optP; rw [if_neg hd]
   rw [e2, if_neg hd]
   refine FnSpec.of_code (cx := cx) (an := {}) (rs := [.cell 2 275, .tmp 3]) mo Tryz.func166 rfl rfl (by kernel_rfl) (by kernel_rfl) (by show 1 ≤ _; decide) (.inr ⟨_, rfl, by simp [AV.good, proofA, proofZA]⟩) (by simp [allWr, keys, Res.wr]) ?_
   repeat' (first | omega | assumption | (show AL.ahead _ _ _ = true; rfl) | (first | apply brF | apply brT | apply brVF | apply brVT) <;> intro _ | (with_reducible refine And.intro ?_ ?_) | (refine callK_by (look_spec _ b) ?_) | (simp -dsimp -implicitDefEqProofs only [go_sem, gt_iff_lt, hgt]))
   refine callK_by (z1 _ (nx + 88) (by omega)) ?_
   repeat' (first | omega | assumption | (show AL.ahead _ _ _ = true; rfl) | (first | apply brF | apply brT | apply brVF | apply brVT) <;> intro _ | (with_reducible refine And.intro ?_ ?_) | (simp -dsimp -implicitDefEqProofs only [go_sem]))
   refine callK_by (z2 _ (nx + 88) (by omega)) ?_
   repeat' (first | omega | assumption | (show AL.ahead _ _ _ = true; rfl) | (first | apply brF | apply brT | apply brVF | apply brVT) <;> intro _ | (with_reducible refine And.intro ?_ ?_) | (simp -dsimp -implicitDefEqProofs only [go_sem]))
   refine callK_by (z3 _ (nx + 88) (by omega)) ?_
   repeat' (first | omega | assumption | (show AL.ahead _ _ _ = true; rfl) | (first | apply brF | apply brT | apply brVF | apply brVT) <;> intro _ | (with_reducible refine And.intro ?_ ?_) | (simp -dsimp -implicitDefEqProofs only [go_sem]))
   refine callK_by (z4 _ (nx + 88) (by omega)) ?_
   repeat' (first | omega | assumption | (show AL.ahead _ _ _ = true; rfl) | (first | apply brF | apply brT | apply brVF | apply brVT) <;> intro _ | (with_reducible refine And.intro ?_ ?_) | (simp -dsimp -implicitDefEqProofs only [go_sem]))
   refine callK_by (z5 _ (nx + 88) (by omega)) ?_
   repeat' (first | omega | assumption | (show AL.ahead _ _ _ = true; rfl) | (first | apply brF | apply brT | apply brVF | apply brVT) <;> intro _ | (with_reducible refine And.intro ?_ ?_) | (simp -dsimp -implicitDefEqProofs only [go_sem, proofZA, hd]))
   all_goals rfl
end Go.Proofs.YthfoeaokfhbdaaaGreat

namespace Go.Proofs.YthfoeaokfhbdaaaGreat
open Go Go.AL Go.Proofs.YthfoeaokfhbdaaaGreat.T
noncomputable def hintS (c : Sum) : Sum := joinS 71 [c.b]
noncomputable def akeyS (c : Sum) : Sum := joinS 72 [c.b]
noncomputable def amarkS (b : List UInt8) : Sum := joinS 73 [b]
attribute [local go_sem] nb_u8s u8s_length nb_sum List.length_replicate zero_sum sum_h u8s_nil sumA u8_wrap take32 List.drop_zero
theorem hint_spec (nx : Nat) (s : Sum) : FnSpec Tryz.prog 194 nx [sumA s] [] (sumA (hintS s)) [] 0 := by
 have hl := s.h
 refine FnSpec.of_code (cx := cx) (an := {}) (rs := [.cell 2 23]) mo Tryz.func194 rfl rfl (by kernel_rfl) (by kernel_rfl) (by show 1 ≤ _; decide) (.inl rfl) (by simp [allWr, keys, Res.wr]) ?_
 repeat' (first | omega | assumption | (show AL.ahead _ _ _ = true; rfl) | (first | apply brF | apply brT | apply brVF | apply brVT) <;> intro _ | (with_reducible refine And.intro ?_ ?_) | (refine callK_by (join1_spec _ 1 1 71 s.b (by omega) (by omega) (by omega)) ?_) | (simp -dsimp -implicitDefEqProofs only [go_sem, hintS]))
 all_goals rfl
theorem akey_spec (nx : Nat) (s : Sum) : FnSpec Tryz.prog 218 nx [sumA s] [] (sumA (akeyS s)) [] 0 := by
 have hl := s.h
 refine FnSpec.of_code (cx := cx) (an := {}) (rs := [.cell 2 23]) mo Tryz.func218 rfl rfl (by kernel_rfl) (by kernel_rfl) (by show 1 ≤ _; decide) (.inl rfl) (by simp [allWr, keys, Res.wr]) ?_
 repeat' (first | omega | assumption | (show AL.ahead _ _ _ = true; rfl) | (first | apply brF | apply brT | apply brVF | apply brVT) <;> intro _ | (with_reducible refine And.intro ?_ ?_) | (refine callK_by (join1_spec _ 1 1 72 s.b (by omega) (by omega) (by omega)) ?_) | (simp -dsimp -implicitDefEqProofs only [go_sem, akeyS]))
 all_goals rfl
theorem amark_spec (nx : Nat) (b : List UInt8) (hb : b.length < 2 ^ 38) : FnSpec Tryz.prog 195 nx [.sl 1 (u8s b) 0] [] (sumA (amarkS b)) [] 0 := by
 refine FnSpec.of_code (cx := cx) (an := {}) (rs := [.cell 2 23]) mo Tryz.func195 rfl rfl (by kernel_rfl) (by kernel_rfl) (by show 1 ≤ _; decide) (.inl rfl) (by simp [allWr, keys, Res.wr]) ?_
 repeat' (first | omega | assumption | (show AL.ahead _ _ _ = true; rfl) | (first | apply brF | apply brT | apply brVF | apply brVT) <;> intro _ | (with_reducible refine And.intro ?_ ?_) | (refine callK_by (join1_spec _ 1 0 73 b (by omega) (by omega) (by omega)) ?_) | (simp -dsimp -implicitDefEqProofs only [go_sem, amarkS]))
 all_goals rfl
end Go.Proofs.YthfoeaokfhbdaaaGreat

namespace Go.Proofs.YthfoeaokfhbdaaaGreat
open Go Go.AL Go.Proofs.YthfoeaokfhbdaaaGreat.T
def setRB (l : List UInt8) (i : Nat) (m : List UInt8) : List UInt8 := l.take i ++ m ++ l.drop (i + m.length)
theorem setRange_u8s (l : List UInt8) (i : Nat) (m : List UInt8) : setRange (u8s l) i (u8s m) = u8s (setRB l i m) := by
 simp [setRange, setRB, u8s]
theorem setRB_len (l : List UInt8) (i : Nat) (m : List UInt8) (h : i + m.length ≤ l.length) : (setRB l i m).length = l.length := by
 simp only [setRB, List.length_append, List.length_take, List.length_drop]; omega
theorem u8s_take' (l : List UInt8) (k : Nat) : (u8s l).take k = u8s (l.take k) := by simp [u8s]
theorem u8s_drop' (l : List UInt8) (k : Nat) : (u8s l).drop k = u8s (l.drop k) := by simp [u8s]
theorem u8s_set1 (l : List UInt8) (k : Nat) (b : UInt8) : (u8s l).set k (u8 b) = u8s (l.set k b) := by simp [u8s, List.map_set]
theorem u8s_rep0 (n : Nat) : List.replicate n (AV.val (.int .u8 0)) = u8s (List.replicate n 0) := by simp [u8s, u8]
abbrev xor8 (a b : UInt8) : UInt8 := b8 ((BitVec.ofInt IntKind.u8.bits (a.toNat : Int) ^^^ BitVec.ofInt IntKind.u8.bits (b.toNat : Int)).toNat : Int)
noncomputable def covK (key : Sum) (i : Nat) : Sum := joinS 51 [key.b, [b8 (shrs i 21), b8 (shrs i 13), b8 (shrs i 5)]]
noncomputable def covStep (key : Sum) (b l : List UInt8) (i : Nat) : List UInt8 :=
 if (i : Int).tmod 32 = 0 then (setRB l i ((covK key i).b.take (l.length - i))).set i (xor8 ((setRB l i ((covK key i).b.take (l.length - i))).getD i 0) (b.getD i 0))
 else l.set i (xor8 (l.getD i 0) (b.getD i 0))
noncomputable def covL (key : Sum) (b : List UInt8) : Nat → List UInt8
 | 0 => List.replicate b.length 0
 | i + 1 => covStep key b (covL key b i) i
theorem covL_len (key : Sum) (b : List UInt8) : ∀ i, i ≤ b.length → (covL key b i).length = b.length
 | 0, _ => by simp [covL]
 | i + 1, h => by
  have hk := covL_len key b i (by omega)
  rw [covL, covStep]
  split
  ·rw [List.length_set, setRB_len]
   ·exact hk
   ·rw [List.length_take, hk]; omega
  ·rw [List.length_set, hk]
noncomputable def covA (key : Sum) (b : List UInt8) : List UInt8 := covL key b b.length
theorem covA_len (key : Sum) (b : List UInt8) : (covA key b).length = b.length := covL_len key b _ (Nat.le_refl _)
theorem min64 : min 21 64 = 21 ∧ min 13 64 = 13 ∧ min 5 64 = 5 := by decide
theorem take_all (b : List UInt8) : (u8s b).take b.length = u8s b := List.take_of_length_le (by rw [u8s_length]; omega)
theorem bstr_eq2 (a b : List UInt8) : (bstr a = bstr b) = (a = b) := by
 simp only [eq_iff_iff]
 refine ⟨fun h => ?_, fun h => by rw [h]⟩
 simpa [bstr] using h
theorem isB_u8s (bs : List UInt8) : (∀ a, a ∈ u8s bs → isByte a) = True := by simp only [eq_iff_iff, iff_true]; exact isByte_u8s bs
theorem u8s_lit3 (a b c : UInt8) : u8s [a, b, c] = [u8 a, u8 b, u8 c] := rfl
attribute [local go_sem] nb_u8s u8s_length nb_sum List.length_replicate zero_sum sum_h u8s_nil sumA u8_wrap take32 List.drop_zero u8s_rep0 nb_vals vals_len
theorem cover_spec (nx : Nat) (key : Sum) (b : List UInt8) (hb : b.length < 2 ^ 38) : FnSpec Tryz.prog 234 nx [sumA key, .sl 1 (u8s b) 0] [] (.aref (nx + 32) 0 [] 1 0 b.length) [(nx + 32, some (.obj (.vec 1 (u8s (covA key b)))))] 900 := by
 have hk := key.h
 refine FnSpec.of_code (cx := cx) (an := {mt := [10, 36]}) (rs := [.tmp 4]) mo Tryz.func234 rfl rfl (by kernel_rfl) (by kernel_rfl) (by show 2 ≤ _; decide) (.inl rfl) (by simp [allWr, keys, Res.wr]) ?_
 repeat' (first | omega | assumption | (show AL.ahead _ _ _ = true; rfl) | (first | apply brF | apply brT | apply brVF | apply brVT) <;> intro _ | (with_reducible refine And.intro ?_ ?_) | (simp -dsimp -implicitDefEqProofs only [go_sem]))
 apply loop_keep [1, 2, 5, 12] (fun i : { i : Nat // i ≤ b.length } => [(13, n64 i.1)]) (fun i => [(nx + 32, some (.obj (.vec 1 (u8s (covL key b i.1)))))]) (fun i => b.length - i.1) ⟨0, Nat.zero_le _⟩
 ·simp -dsimp -implicitDefEqProofs only [go_sem]; try rfl
 ·simp -dsimp -implicitDefEqProofs only [go_sem]; try rfl
 ·simp -dsimp -implicitDefEqProofs only [go_sem]; try rfl
 ·intro s
  simp -dsimp -implicitDefEqProofs only [go_sem]
  try omega
 ·rintro ⟨i, hi⟩
  have hi : i ≤ b.length := hi
  have hle := covL_len key b i hi
  simp -dsimp -implicitDefEqProofs only [go_sem]
  refine brT (fun h => ?_) (fun h => ?_)
  ·have hi2 : i < b.length := by omega
   have w1 : IntKind.i64.wrap ((i : Int) + 1) = ((i + 1 : Nat) : Int) := wrapE (by omega) (by omega)
   have hg := u8s_get hi2
   simp -dsimp -implicitDefEqProofs only [go_sem, w1, hle]
   refine brT (fun h => ?_) (fun h => ?_)
   ·obtain ⟨S, hS⟩ : ∃ S, S = covK key i := ⟨_, rfl⟩
    have hS2 : sumA S = sumA (joinS 51 [key.b, [b8 (shrs i 21), b8 (shrs i 13), b8 (shrs i 5)]]) := by rw [hS]; rfl
    obtain ⟨M, hM⟩ : ∃ M, M = setRB (covL key b i) i (S.b.take (b.length - i)) := ⟨_, rfl⟩
    have hML : M.length = b.length := by rw [hM, setRB_len, hle]; rw [hle, List.length_take]; omega
    have hst : covL key b (i + 1) = M.set i (xor8 (M.getD i 0) (b.getD i 0)) := by rw [covL, covStep, if_pos h, ← hS, hle, ← hM]
    have hgM := u8s_get (show i < M.length by omega)
    have hsr : setRange (u8s (covL key b i)) i (List.take (b.length - i) (u8s S.b)) = u8s M := by rw [u8s_take', setRange_u8s, ← hM]
    have hj := fun nc => join2_spec nc 1 1 1 51 key.b [b8 (shrs i 21), b8 (shrs i 13), b8 (shrs i 5)] (by rw [hk]; simp) (by omega) (by omega) (by omega)
    rw [← hS2] at hj
    simp only [sumA, u8s_lit3] at hj
    repeat' (first | omega | assumption | (show AL.ahead _ _ _ = true; rfl) | (first | apply brF | apply brT | apply brVF | apply brVT) <;> intro _ | (with_reducible refine And.intro ?_ ?_) | (refine callK_by (hj _) ?_) | (simp -dsimp -implicitDefEqProofs only [go_sem, w1, hle, hsr, hML, hg, hgM, u8_gd1, u8_cs1, min64, u8s_set1]))
    all_goals exact ⟨⟨i + 1, hi2⟩, by show b.length - (i + 1) < b.length - i; omega, rfl, by rw [hst]⟩
   ·have hst : covL key b (i + 1) = (covL key b i).set i (xor8 ((covL key b i).getD i 0) (b.getD i 0)) := by rw [covL, covStep, if_neg h]
    have hgM := u8s_get (show i < (covL key b i).length by omega)
    repeat' (first | omega | assumption | (show AL.ahead _ _ _ = true; rfl) | (first | apply brF | apply brT | apply brVF | apply brVT) <;> intro _ | (with_reducible refine And.intro ?_ ?_) | (simp -dsimp -implicitDefEqProofs only [go_sem, w1, hle, hg, hgM, u8s_set1, u8_gd1, u8_cs1]))
    all_goals exact ⟨⟨i + 1, hi2⟩, by show b.length - (i + 1) < b.length - i; omega, rfl, by rw [hst]⟩
  ·have e : i = b.length := by omega
   subst e
   repeat' (first | omega | assumption | (show AL.ahead _ _ _ = true; rfl) | (first | apply brF | apply brT | apply brVF | apply brVT) <;> intro _ | (with_reducible refine And.intro ?_ ?_) | (simp -dsimp -implicitDefEqProofs only [go_sem]))
   all_goals rfl
theorem coverI_spec (nx : Nat) (key : Sum) (b : List UInt8) (hb : b.length < 2 ^ 38) : FnSpec Tryz.prog 234 nx [sumA key, .sl 1 (u8s b) 0] [] (.sl 1 (u8s (covA key b)) 0) [] 0 := by
 have e : (u8s (covA key b)).length = b.length := by rw [u8s_length, covA_len]
 refine FnSpec.stay (n := nx + 32) (sz := 1) (L := u8s (covA key b)) (cover_spec nx key b hb) (by simp [Heap.get]) (by simp [keys]) (.inr ⟨0, b.length, rfl, ?_, by rw [e]; omega⟩) (by simp [AV.nb, nb_u8s])
 rw [List.drop_zero, List.take_of_length_le (by omega)]
noncomputable def markL (key : Sum) (t : List UInt8) : List UInt8 := (joinS 52 [key.b, t]).b.take 16
theorem markL_len (key : Sum) (t : List UInt8) : (markL key t).length = 16 := by rw [markL, List.length_take, sum_h]; rfl
theorem mark_spec (nx : Nat) (key : Sum) (t : List UInt8) (ht : t.length < 2 ^ 38) : FnSpec Tryz.prog 235 nx [sumA key, .sl 1 (u8s t) 0] [] (.sl 1 (u8s (markL key t)) 0) [] 0 := by
 have hk := key.h
 have hj := fun nc => join2_spec nc 1 1 0 52 key.b t (by rw [hk]; omega) (by omega) (by omega) (by omega)
 obtain ⟨S, hS⟩ : ∃ S, S = joinS 52 [key.b, t] := ⟨_, rfl⟩
 have hm : markL key t = S.b.take 16 := by rw [hS]; rfl
 rw [← hS] at hj
 have key' : FnSpec Tryz.prog 235 nx [sumA key, .sl 1 (u8s t) 0] [] (.aref (nx + 48) 0 [] 1 0 16) [(nx + 48, some (.obj (.vec 1 (u8s S.b))))] 900 := by
  refine FnSpec.of_code (cx := cx) (an := {}) (rs := [.tmp 4]) mo Tryz.func235 rfl rfl (by kernel_rfl) (by kernel_rfl) (by show 2 ≤ _; decide) (.inl rfl) (by simp [allWr, keys, Res.wr]) ?_
  repeat' (first | omega | assumption | (show AL.ahead _ _ _ = true; rfl) | (first | apply brF | apply brT | apply brVF | apply brVT) <;> intro _ | (with_reducible refine And.intro ?_ ?_) | (refine callK_by (hj _) ?_) | (simp -dsimp -implicitDefEqProofs only [go_sem]))
 refine FnSpec.stay (n := nx + 48) (sz := 1) (L := u8s S.b) key' (by simp [Heap.get]) (by simp [keys]) (.inr ⟨0, 16, rfl, ?_, by rw [u8s_length, S.h]; omega⟩) (by simp [AV.nb, nb_u8s])
 rw [List.drop_zero, u8s_take', hm]
noncomputable def openL (key : Sum) (b : List UInt8) : List UInt8 × Int :=
 if b.length < 16 then ([], 2) else if 65552 < b.length then ([], 3)
 else if markL key (covA key (b.drop 16)) = b.take 16 then (covA key (b.drop 16), 0) else ([], 4)
def openA (r : List UInt8 × Int) : AV := if r.2 = 0 then .sl 1 (u8s r.1) 0 else .sl 0 [] 1
theorem open_spec (nx : Nat) (key : Sum) (b : List UInt8) (hb : b.length < 2 ^ 37) : FnSpec Tryz.prog 217 nx [sumA key, .sl 1 (u8s b) 0] [] (.tup [openA (openL key b), n64 (openL key b).2]) [] 0 := by
 have hk := key.h
 obtain ⟨O, hO⟩ : ∃ O, O = openL key b := ⟨_, rfl⟩
 rw [← hO]
 unfold openL at hO
 by_cases c1 : b.length < 16
 ·have c1' : (b.length : Int) < 16 := by omega
  rw [if_pos c1] at hO
  subst hO
  refine FnSpec.of_code (cx := cx) (an := {}) (rs := [.tmp 4, .tmp 5]) mo Tryz.func217 rfl rfl (by kernel_rfl) (by kernel_rfl) (by show 2 ≤ _; decide) (.inr ⟨_, rfl, by simp [AV.good, openA]⟩) (by simp [allWr, keys, Res.wr]) ?_
  repeat' (first | omega | assumption | (show AL.ahead _ _ _ = true; rfl) | (first | apply brF | apply brT | apply brVF | apply brVT) <;> intro _ | (with_reducible refine And.intro ?_ ?_) | (simp -dsimp -implicitDefEqProofs only [go_sem, c1', openA]))
 ·have c1' : ¬ (b.length : Int) < 16 := by omega
  rw [if_neg c1] at hO
  by_cases c2 : 65552 < b.length
  ·have c2' : (65552 : Int) < b.length := by omega
   rw [if_pos c2] at hO
   subst hO
   refine FnSpec.of_code (cx := cx) (an := {}) (rs := [.tmp 4, .tmp 5]) mo Tryz.func217 rfl rfl (by kernel_rfl) (by kernel_rfl) (by show 2 ≤ _; decide) (.inr ⟨_, rfl, by simp [AV.good, openA]⟩) (by simp [allWr, keys, Res.wr]) ?_
   repeat' (first | omega | assumption | (show AL.ahead _ _ _ = true; rfl) | (first | apply brF | apply brT | apply brVF | apply brVT) <;> intro _ | (with_reducible refine And.intro ?_ ?_) | (simp -dsimp -implicitDefEqProofs only [go_sem, gt_iff_lt, c1', c2', openA]))
  ·have c2' : ¬ (65552 : Int) < b.length := by omega
   rw [if_neg c2] at hO
   have hd : (b.drop 16).length < 2 ^ 38 := by rw [List.length_drop]; omega
   have hco := fun nc => coverI_spec nc key (b.drop 16) hd
   have hma := fun nc => mark_spec nc key (covA key (b.drop 16)) (by rw [covA_len]; exact hd)
   generalize hC : covA key (b.drop 16) = C at *
   have hml := markL_len key C
   generalize markL key C = M at *
   rw [← u8s_drop'] at hco
   by_cases c3 : M = b.take 16
   ·rw [if_pos c3] at hO
    subst hO
    refine FnSpec.of_code (cx := cx) (an := {}) (rs := [.tmp 4, .tmp 5]) mo Tryz.func217 rfl rfl (by kernel_rfl) (by kernel_rfl) (by show 2 ≤ _; decide) (.inr ⟨_, rfl, by simp [AV.good, openA]⟩) (by simp [allWr, keys, Res.wr]) ?_
    repeat' (first | omega | assumption | (show AL.ahead _ _ _ = true; rfl) | (first | apply brF | apply brT | apply brVF | apply brVT) <;> intro _ | (with_reducible refine And.intro ?_ ?_) | (refine callK_by (hco _) ?_) | (refine callK_by (hma _) ?_) | (simp -dsimp -implicitDefEqProofs only [go_sem, gt_iff_lt, c1', c2', openA, take_all, isB_u8s, Go.AL.bytesOf_u8s, bstr_eq2, u8s_take' b 16, c3]))
   ·rw [if_neg c3] at hO
    subst hO
    refine FnSpec.of_code (cx := cx) (an := {}) (rs := [.tmp 4, .tmp 5]) mo Tryz.func217 rfl rfl (by kernel_rfl) (by kernel_rfl) (by show 2 ≤ _; decide) (.inr ⟨_, rfl, by simp [AV.good, openA]⟩) (by simp [allWr, keys, Res.wr]) ?_
    repeat' (first | omega | assumption | (show AL.ahead _ _ _ = true; rfl) | (first | apply brF | apply brT | apply brVF | apply brVT) <;> intro _ | (with_reducible refine And.intro ?_ ?_) | (refine callK_by (hco _) ?_) | (refine callK_by (hma _) ?_) | (simp -dsimp -implicitDefEqProofs only [go_sem, gt_iff_lt, c1', c2', openA, take_all, isB_u8s, Go.AL.bytesOf_u8s, bstr_eq2, u8s_take' b 16, c3]))
end Go.Proofs.YthfoeaokfhbdaaaGreat

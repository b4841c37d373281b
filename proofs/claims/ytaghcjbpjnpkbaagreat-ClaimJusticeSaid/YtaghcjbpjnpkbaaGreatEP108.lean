/-
 A channel is read.
-/
import Derived.Test.YtaghcjbpjnpkbaaGreatEP71
import Derived.Test.YtaghcjbpjnpkbaaGreatEP65
import Derived.Test.YtaghcjbpjnpkbaaGreatEP20
import Derived.Test.YtaghcjbpjnpkbaaGreatEP94
import Derived.Test.YtaghcjbpjnpkbaaGreatEP70
set_option linter.unusedSimpArgs false
set_option linter.unusedVariables false
set_option maxRecDepth 100000
set_option maxHeartbeats 8000000
namespace Go.Proofs.YtaghcjbpjnpkbaaGreat
open Go Go.AL Go.Proofs.YtaghcjbpjnpkbaaGreat.T
attribute [local go_sem] nb_u8s u8s_length nb_sum List.length_replicate zero_sum sum_h u8s_nil sum_csz sum_agg sumA_good nb_eye
theorem rchan_spec (nx : Nat) (b : List UInt8) (hb : b.length < 2 ^ 40) : FnSpec Tryz.prog 102 nx [.sl 1 (u8s b) 0] [] (.tup [chanA (rdC b).1, n64 (rdC b).2]) [] 0 := by
 obtain ⟨a, ha⟩ : ∃ a, a = uptoS ⟨b, 0⟩ 1048576 := ⟨_, rfl⟩
 obtain ⟨c, hc⟩ : ∃ c, c = uptoS a.2 255 := ⟨_, rfl⟩
 obtain ⟨p, hp⟩ : ∃ p, p = uptoS c.2 255 := ⟨_, rfl⟩
 obtain ⟨t, ht⟩ : ∃ t, t = esumS p.2 := ⟨_, rfl⟩
 obtain ⟨i, hi⟩ : ∃ i, i = uptoS t.2 16 := ⟨_, rfl⟩
 obtain ⟨k, hk⟩ : ∃ k, k = uptoS i.2 1125899906842624 := ⟨_, rfl⟩
 obtain ⟨w, hw⟩ : ∃ w, w = uptoS k.2 1073741824 := ⟨_, rfl⟩
 obtain ⟨v, hv⟩ : ∃ v, v = uptoS w.2 1073741824 := ⟨_, rfl⟩
 have hr : readC b = (⟨a.1, c.1, p.1, ⟨t.1, i.1⟩, k.1, w.1, v.1⟩, doneS v.2) := by rw [hv, hw, hk, hi, ht, hp, hc, ha]; rfl
 have l1 := uptoS_len ⟨b, 0⟩ 1048576
 have l2 := uptoS_len a.2 255
 have l3 := uptoS_len c.2 255
 have l4 := esumS_len p.2
 have l5 := uptoS_len t.2 16
 have l6 := uptoS_len i.2 1125899906842624
 have l7 := uptoS_len k.2 1073741824
 rw [← ha] at l1
 rw [← hc] at l2
 rw [← hp] at l3
 rw [← ht] at l4
 rw [← hi] at l5
 rw [← hk] at l6
 rw [← hw] at l7
 simp only at l1
 have hrr : rdC b = if doneS v.2 = 0 then (@ite _ (chanR ⟨a.1, c.1, p.1, ⟨t.1, i.1⟩, k.1, w.1, v.1⟩) (Classical.propDecidable _) (⟨a.1, c.1, p.1, ⟨t.1, i.1⟩, k.1, w.1, v.1⟩, 0) (chanZ0, 4)) else (chanZ0, doneS v.2) := by unfold rdC; rw [hr]
 have hch := fun nc => chanR_spec nc ⟨a.1, c.1, p.1, ⟨t.1, i.1⟩, k.1, w.1, v.1⟩
 have z1 := fun nc m (q : m < nc) => upto_spec nc m ⟨b, 0⟩ 1048576 q hb
 have z2 := fun nc m (q : m < nc) => upto_spec nc m a.2 255 q (by omega)
 have z3 := fun nc m (q : m < nc) => upto_spec nc m c.2 255 q (by omega)
 have z4 := fun nc m (q : m < nc) => esum_spec nc m p.2 q (by omega)
 have z5 := fun nc m (q : m < nc) => upto_spec nc m t.2 16 q (by omega)
 have z6 := fun nc m (q : m < nc) => upto_spec nc m i.2 1125899906842624 q (by omega)
 have z7 := fun nc m (q : m < nc) => upto_spec nc m k.2 1073741824 q (by omega)
 have z8 := fun nc m (q : m < nc) => upto_spec nc m w.2 1073741824 q (by omega)
 have z9 := fun nc m (q : m < nc) => done_spec nc m v.2 q
 rw [← ha] at z1
 rw [← hc] at z2
 rw [← hp] at z3
 rw [← ht] at z4
 rw [← hi] at z5
 rw [← hk] at z6
 rw [← hw] at z7
 rw [← hv] at z8
 clear ha hc hp ht hi hk hw hv hr
 simp only [chanA, refA] at hch
 rw [hrr]
 by_cases hd : doneS v.2 = 0
 ·rw [hd] at z9
  rw [if_pos hd]
  by_cases hR : chanR ⟨a.1, c.1, p.1, ⟨t.1, i.1⟩, k.1, w.1, v.1⟩
  ·rw [if_pos hR]
   rw [decide_eq_true hR] at hch
   refine FnSpec.of_code (cx := cx) (an := {}) (rs := [.cell 2 47, .tmp 3]) mo Tryz.func102 rfl rfl (by kernel_rfl) (by kernel_rfl) (by show 1 ≤ _; decide) (.inr ⟨_, rfl, by simp [AV.good, chanA]⟩) (by simp [allWr, keys, Res.wr]) ?_
   repeat' (first | omega | assumption | (show AL.ahead _ _ _ = true; rfl) | (first | apply brF | apply brT | apply brVF | apply brVT) <;> intro _ | (with_reducible refine And.intro ?_ ?_) | (refine callK_by (look_spec _ b) ?_) | (simp -dsimp -implicitDefEqProofs only [go_sem]))
   refine callK_by (z1 _ (nx + 64) (by omega)) ?_
   repeat' (first | omega | assumption | (show AL.ahead _ _ _ = true; rfl) | (first | apply brF | apply brT | apply brVF | apply brVT) <;> intro _ | (with_reducible refine And.intro ?_ ?_) | (simp -dsimp -implicitDefEqProofs only [go_sem]))
   refine callK_by (z2 _ (nx + 64) (by omega)) ?_
   repeat' (first | omega | assumption | (show AL.ahead _ _ _ = true; rfl) | (first | apply brF | apply brT | apply brVF | apply brVT) <;> intro _ | (with_reducible refine And.intro ?_ ?_) | (simp -dsimp -implicitDefEqProofs only [go_sem]))
   refine callK_by (z3 _ (nx + 64) (by omega)) ?_
   repeat' (first | omega | assumption | (show AL.ahead _ _ _ = true; rfl) | (first | apply brF | apply brT | apply brVF | apply brVT) <;> intro _ | (with_reducible refine And.intro ?_ ?_) | (simp -dsimp -implicitDefEqProofs only [go_sem]))
   refine callK_by (z4 _ (nx + 64) (by omega)) ?_
   repeat' (first | omega | assumption | (show AL.ahead _ _ _ = true; rfl) | (first | apply brF | apply brT | apply brVF | apply brVT) <;> intro _ | (with_reducible refine And.intro ?_ ?_) | (simp -dsimp -implicitDefEqProofs only [go_sem]))
   refine callK_by (z5 _ (nx + 64) (by omega)) ?_
   repeat' (first | omega | assumption | (show AL.ahead _ _ _ = true; rfl) | (first | apply brF | apply brT | apply brVF | apply brVT) <;> intro _ | (with_reducible refine And.intro ?_ ?_) | (simp -dsimp -implicitDefEqProofs only [go_sem]))
   refine callK_by (z6 _ (nx + 64) (by omega)) ?_
   repeat' (first | omega | assumption | (show AL.ahead _ _ _ = true; rfl) | (first | apply brF | apply brT | apply brVF | apply brVT) <;> intro _ | (with_reducible refine And.intro ?_ ?_) | (simp -dsimp -implicitDefEqProofs only [go_sem]))
   refine callK_by (z7 _ (nx + 64) (by omega)) ?_
   repeat' (first | omega | assumption | (show AL.ahead _ _ _ = true; rfl) | (first | apply brF | apply brT | apply brVF | apply brVT) <;> intro _ | (with_reducible refine And.intro ?_ ?_) | (simp -dsimp -implicitDefEqProofs only [go_sem]))
   refine callK_by (z8 _ (nx + 64) (by omega)) ?_
   repeat' (first | omega | assumption | (show AL.ahead _ _ _ = true; rfl) | (first | apply brF | apply brT | apply brVF | apply brVT) <;> intro _ | (with_reducible refine And.intro ?_ ?_) | (simp -dsimp -implicitDefEqProofs only [go_sem]))
   refine callK_by (z9 _ (nx + 64) (by omega)) ?_
   repeat' (first | omega | assumption | (show AL.ahead _ _ _ = true; rfl) | (first | apply brF | apply brT | apply brVF | apply brVT) <;> intro _ | (with_reducible refine And.intro ?_ ?_) | (refine callK_by (hch _) ?_) | (simp -dsimp -implicitDefEqProofs only [go_sem, chanA, refA]))
   all_goals rfl
  ·rw [if_neg hR]
   rw [decide_eq_false hR] at hch
   refine FnSpec.of_code (cx := cx) (an := {}) (rs := [.cell 2 47, .tmp 3]) mo Tryz.func102 rfl rfl (by kernel_rfl) (by kernel_rfl) (by show 1 ≤ _; decide) (.inr ⟨_, rfl, by simp [AV.good, chanA]⟩) (by simp [allWr, keys, Res.wr]) ?_
   repeat' (first | omega | assumption | (show AL.ahead _ _ _ = true; rfl) | (first | apply brF | apply brT | apply brVF | apply brVT) <;> intro _ | (with_reducible refine And.intro ?_ ?_) | (refine callK_by (look_spec _ b) ?_) | (simp -dsimp -implicitDefEqProofs only [go_sem]))
   refine callK_by (z1 _ (nx + 64) (by omega)) ?_
   repeat' (first | omega | assumption | (show AL.ahead _ _ _ = true; rfl) | (first | apply brF | apply brT | apply brVF | apply brVT) <;> intro _ | (with_reducible refine And.intro ?_ ?_) | (simp -dsimp -implicitDefEqProofs only [go_sem]))
   refine callK_by (z2 _ (nx + 64) (by omega)) ?_
   repeat' (first | omega | assumption | (show AL.ahead _ _ _ = true; rfl) | (first | apply brF | apply brT | apply brVF | apply brVT) <;> intro _ | (with_reducible refine And.intro ?_ ?_) | (simp -dsimp -implicitDefEqProofs only [go_sem]))
   refine callK_by (z3 _ (nx + 64) (by omega)) ?_
   repeat' (first | omega | assumption | (show AL.ahead _ _ _ = true; rfl) | (first | apply brF | apply brT | apply brVF | apply brVT) <;> intro _ | (with_reducible refine And.intro ?_ ?_) | (simp -dsimp -implicitDefEqProofs only [go_sem]))
   refine callK_by (z4 _ (nx + 64) (by omega)) ?_
   repeat' (first | omega | assumption | (show AL.ahead _ _ _ = true; rfl) | (first | apply brF | apply brT | apply brVF | apply brVT) <;> intro _ | (with_reducible refine And.intro ?_ ?_) | (simp -dsimp -implicitDefEqProofs only [go_sem]))
   refine callK_by (z5 _ (nx + 64) (by omega)) ?_
   repeat' (first | omega | assumption | (show AL.ahead _ _ _ = true; rfl) | (first | apply brF | apply brT | apply brVF | apply brVT) <;> intro _ | (with_reducible refine And.intro ?_ ?_) | (simp -dsimp -implicitDefEqProofs only [go_sem]))
   refine callK_by (z6 _ (nx + 64) (by omega)) ?_
   repeat' (first | omega | assumption | (show AL.ahead _ _ _ = true; rfl) | (first | apply brF | apply brT | apply brVF | apply brVT) <;> intro _ | (with_reducible refine And.intro ?_ ?_) | (simp -dsimp -implicitDefEqProofs only [go_sem]))
   refine callK_by (z7 _ (nx + 64) (by omega)) ?_
   repeat' (first | omega | assumption | (show AL.ahead _ _ _ = true; rfl) | (first | apply brF | apply brT | apply brVF | apply brVT) <;> intro _ | (with_reducible refine And.intro ?_ ?_) | (simp -dsimp -implicitDefEqProofs only [go_sem]))
   refine callK_by (z8 _ (nx + 64) (by omega)) ?_
   repeat' (first | omega | assumption | (show AL.ahead _ _ _ = true; rfl) | (first | apply brF | apply brT | apply brVF | apply brVT) <;> intro _ | (with_reducible refine And.intro ?_ ?_) | (simp -dsimp -implicitDefEqProofs only [go_sem]))
   refine callK_by (z9 _ (nx + 64) (by omega)) ?_
   repeat' (first | omega | assumption | (show AL.ahead _ _ _ = true; rfl) | (first | apply brF | apply brT | apply brVF | apply brVT) <;> intro _ | (with_reducible refine And.intro ?_ ?_) | (refine callK_by (hch _) ?_) | (simp -dsimp -implicitDefEqProofs only [go_sem, chanA, refA, chanZ0]))
   all_goals rfl
 ·rw [if_neg hd]
  refine FnSpec.of_code (cx := cx) (an := {}) (rs := [.cell 2 47, .tmp 3]) mo Tryz.func102 rfl rfl (by kernel_rfl) (by kernel_rfl) (by show 1 ≤ _; decide) (.inr ⟨_, rfl, by simp [AV.good, chanA]⟩) (by simp [allWr, keys, Res.wr]) ?_
  repeat' (first | omega | assumption | (show AL.ahead _ _ _ = true; rfl) | (first | apply brF | apply brT | apply brVF | apply brVT) <;> intro _ | (with_reducible refine And.intro ?_ ?_) | (refine callK_by (look_spec _ b) ?_) | (simp -dsimp -implicitDefEqProofs only [go_sem]))
  refine callK_by (z1 _ (nx + 64) (by omega)) ?_
  repeat' (first | omega | assumption | (show AL.ahead _ _ _ = true; rfl) | (first | apply brF | apply brT | apply brVF | apply brVT) <;> intro _ | (with_reducible refine And.intro ?_ ?_) | (simp -dsimp -implicitDefEqProofs only [go_sem]))
  refine callK_by (z2 _ (nx + 64) (by omega)) ?_
  repeat' (first | omega | assumption | (show AL.ahead _ _ _ = true; rfl) | (first | apply brF | apply brT | apply brVF | apply brVT) <;> intro _ | (with_reducible refine And.intro ?_ ?_) | (simp -dsimp -implicitDefEqProofs only [go_sem]))
  refine callK_by (z3 _ (nx + 64) (by omega)) ?_
  repeat' (first | omega | assumption | (show AL.ahead _ _ _ = true; rfl) | (first | apply brF | apply brT | apply brVF | apply brVT) <;> intro _ | (with_reducible refine And.intro ?_ ?_) | (simp -dsimp -implicitDefEqProofs only [go_sem]))
  refine callK_by (z4 _ (nx + 64) (by omega)) ?_
  repeat' (first | omega | assumption | (show AL.ahead _ _ _ = true; rfl) | (first | apply brF | apply brT | apply brVF | apply brVT) <;> intro _ | (with_reducible refine And.intro ?_ ?_) | (simp -dsimp -implicitDefEqProofs only [go_sem]))
  refine callK_by (z5 _ (nx + 64) (by omega)) ?_
  repeat' (first | omega | assumption | (show AL.ahead _ _ _ = true; rfl) | (first | apply brF | apply brT | apply brVF | apply brVT) <;> intro _ | (with_reducible refine And.intro ?_ ?_) | (simp -dsimp -implicitDefEqProofs only [go_sem]))
  refine callK_by (z6 _ (nx + 64) (by omega)) ?_
  repeat' (first | omega | assumption | (show AL.ahead _ _ _ = true; rfl) | (first | apply brF | apply brT | apply brVF | apply brVT) <;> intro _ | (with_reducible refine And.intro ?_ ?_) | (simp -dsimp -implicitDefEqProofs only [go_sem]))
  refine callK_by (z7 _ (nx + 64) (by omega)) ?_
  repeat' (first | omega | assumption | (show AL.ahead _ _ _ = true; rfl) | (first | apply brF | apply brT | apply brVF | apply brVT) <;> intro _ | (with_reducible refine And.intro ?_ ?_) | (simp -dsimp -implicitDefEqProofs only [go_sem]))
  refine callK_by (z8 _ (nx + 64) (by omega)) ?_
  repeat' (first | omega | assumption | (show AL.ahead _ _ _ = true; rfl) | (first | apply brF | apply brT | apply brVF | apply brVT) <;> intro _ | (with_reducible refine And.intro ?_ ?_) | (simp -dsimp -implicitDefEqProofs only [go_sem]))
  refine callK_by (z9 _ (nx + 64) (by omega)) ?_
  repeat' (first | omega | assumption | (show AL.ahead _ _ _ = true; rfl) | (first | apply brF | apply brT | apply brVF | apply brVT) <;> intro _ | (with_reducible refine And.intro ?_ ?_) | (refine callK_by (hch _) ?_) | (simp -dsimp -implicitDefEqProofs only [go_sem, chanA, refA, chanZ0, hd]))
  all_goals rfl
end Go.Proofs.YtaghcjbpjnpkbaaGreat

namespace Go.Proofs.YtaghcjbpjnpkbaaGreat
open Go Go.AL Go.Proofs.YtaghcjbpjnpkbaaGreat.T
def recZ : Rec_ := ⟨0, 0, 0, zeroS, zeroS⟩
def proofZ : Proof_ := ⟨recZ, [], [], zeroS⟩
def rdR (b : List UInt8) : Rec_ × Int :=
 let a := uptoS ⟨b, 0⟩ 15
 let c := uptoS a.2 1048576
 let s := uptoS c.2 1048576
 let h := esumS s.2
 let m := esumS h.2
 if doneS m.2 = 0 then (⟨a.1, c.1, s.1, h.1, m.1⟩, 0) else (recZ, doneS m.2)
def rdP (b : List UInt8) : Proof_ × Int :=
 if 65536 < b.length then (proofZ, 3) else
 let x := textS ⟨b, 0⟩ 65536
 let s := textS x.2 65536
 let l := textS s.2 65536
 let h := esumS l.2
 if doneS h.2 = 0 then (if (rdR x.1).2 = 0 then (⟨(rdR x.1).1, s.1, l.1, h.1⟩, 0) else (proofZ, (rdR x.1).2)) else (proofZ, doneS h.2)
theorem recA_good (r : Rec_) : (recA r).good = true := rfl
theorem recA_agg (r : Rec_) : (recA r).isAgg = true := rfl
theorem recA_csz (r : Rec_) : (recA r).csize = 67 := rfl
theorem nb_rec1 {m : Nat} (r : Rec_) : AV.nb m (recA r) = True := by simp [recA, AV.nb, AV.nbs, nb_sum]
attribute [local go_sem] nb_u8s u8s_length nb_sum List.length_replicate zero_sum sum_h u8s_nil sum_csz sum_agg sumA_good nb_eye recA_good recA_agg recA_csz nb_rec1
theorem rread_spec (nx : Nat) (b : List UInt8) (hb : b.length < 2 ^ 40) : FnSpec Tryz.prog 163 nx [.sl 1 (u8s b) 0] [] (.tup [recA (rdR b).1, n64 (rdR b).2]) [] 0 := by
 obtain ⟨a, ha⟩ : ∃ a, a = uptoS ⟨b, 0⟩ 15 := ⟨_, rfl⟩
 obtain ⟨c, hc⟩ : ∃ c, c = uptoS a.2 1048576 := ⟨_, rfl⟩
 obtain ⟨s, hs⟩ : ∃ s, s = uptoS c.2 1048576 := ⟨_, rfl⟩
 obtain ⟨h, hh⟩ : ∃ h, h = esumS s.2 := ⟨_, rfl⟩
 obtain ⟨m, hm⟩ : ∃ m, m = esumS h.2 := ⟨_, rfl⟩
 have hrr : rdR b = if doneS m.2 = 0 then (⟨a.1, c.1, s.1, h.1, m.1⟩, 0) else (recZ, doneS m.2) := by rw [hm, hh, hs, hc, ha]; rfl
 have l1 := uptoS_len ⟨b, 0⟩ 15
 have l2 := uptoS_len a.2 1048576
 have l3 := uptoS_len c.2 1048576
 have l4 := esumS_len s.2
 rw [← ha] at l1
 rw [← hc] at l2
 rw [← hs] at l3
 rw [← hh] at l4
 simp only at l1
 have z1 := fun nc m (q : m < nc) => upto_spec nc m ⟨b, 0⟩ 15 q hb
 have z2 := fun nc m (q : m < nc) => upto_spec nc m a.2 1048576 q (by omega)
 have z3 := fun nc m (q : m < nc) => upto_spec nc m c.2 1048576 q (by omega)
 have z4 := fun nc m (q : m < nc) => esum_spec nc m s.2 q (by omega)
 have z5 := fun nc m (q : m < nc) => esum_spec nc m h.2 q (by omega)
 have z6 := fun nc k (q : k < nc) => done_spec nc k m.2 q
 rw [← ha] at z1
 rw [← hc] at z2
 rw [← hs] at z3
 rw [← hh] at z4
 rw [← hm] at z5
 clear ha hc hs hh hm
 rw [hrr]
 by_cases hd : doneS m.2 = 0
 ·rw [hd] at z6
  rw [if_pos hd]
  refine FnSpec.of_code (cx := cx) (an := {}) (rs := [.cell 2 72, .tmp 3]) mo Tryz.func163 rfl rfl (by kernel_rfl) (by kernel_rfl) (by show 1 ≤ _; decide) (.inr ⟨_, rfl, by simp [AV.good, recA]⟩) (by simp [allWr, keys, Res.wr]) ?_
  repeat' (first | omega | assumption | (show AL.ahead _ _ _ = true; rfl) | (first | apply brF | apply brT | apply brVF | apply brVT) <;> intro _ | (with_reducible refine And.intro ?_ ?_) | (refine callK_by (look_spec _ b) ?_) | (simp -dsimp -implicitDefEqProofs only [go_sem]))
  refine callK_by (z1 _ (nx + 64) (by omega)) ?_
  repeat' (first | omega | assumption | (show AL.ahead _ _ _ = true; rfl) | (first | apply brF | apply brT | apply brVF | apply brVT) <;> intro _ | (with_reducible refine And.intro ?_ ?_) | (simp -dsimp -implicitDefEqProofs only [go_sem]))
  refine callK_by (z2 _ (nx + 64) (by omega)) ?_
  repeat' (first | omega | assumption | (show AL.ahead _ _ _ = true; rfl) | (first | apply brF | apply brT | apply brVF | apply brVT) <;> intro _ | (with_reducible refine And.intro ?_ ?_) | (simp -dsimp -implicitDefEqProofs only [go_sem]))
  refine callK_by (z3 _ (nx + 64) (by omega)) ?_
  repeat' (first | omega | assumption | (show AL.ahead _ _ _ = true; rfl) | (first | apply brF | apply brT | apply brVF | apply brVT) <;> intro _ | (with_reducible refine And.intro ?_ ?_) | (simp -dsimp -implicitDefEqProofs only [go_sem]))
  refine callK_by (z4 _ (nx + 64) (by omega)) ?_
  repeat' (first | omega | assumption | (show AL.ahead _ _ _ = true; rfl) | (first | apply brF | apply brT | apply brVF | apply brVT) <;> intro _ | (with_reducible refine And.intro ?_ ?_) | (simp -dsimp -implicitDefEqProofs only [go_sem]))
  refine callK_by (z5 _ (nx + 64) (by omega)) ?_
  repeat' (first | omega | assumption | (show AL.ahead _ _ _ = true; rfl) | (first | apply brF | apply brT | apply brVF | apply brVT) <;> intro _ | (with_reducible refine And.intro ?_ ?_) | (simp -dsimp -implicitDefEqProofs only [go_sem]))
  refine callK_by (z6 _ (nx + 64) (by omega)) ?_
  repeat' (first | omega | assumption | (show AL.ahead _ _ _ = true; rfl) | (first | apply brF | apply brT | apply brVF | apply brVT) <;> intro _ | (with_reducible refine And.intro ?_ ?_) | (simp -dsimp -implicitDefEqProofs only [go_sem, recA]))
  all_goals rfl
 ·rw [if_neg hd]
  refine FnSpec.of_code (cx := cx) (an := {}) (rs := [.cell 2 72, .tmp 3]) mo Tryz.func163 rfl rfl (by kernel_rfl) (by kernel_rfl) (by show 1 ≤ _; decide) (.inr ⟨_, rfl, by simp [AV.good, recA]⟩) (by simp [allWr, keys, Res.wr]) ?_
  repeat' (first | omega | assumption | (show AL.ahead _ _ _ = true; rfl) | (first | apply brF | apply brT | apply brVF | apply brVT) <;> intro _ | (with_reducible refine And.intro ?_ ?_) | (refine callK_by (look_spec _ b) ?_) | (simp -dsimp -implicitDefEqProofs only [go_sem]))
  refine callK_by (z1 _ (nx + 64) (by omega)) ?_
  repeat' (first | omega | assumption | (show AL.ahead _ _ _ = true; rfl) | (first | apply brF | apply brT | apply brVF | apply brVT) <;> intro _ | (with_reducible refine And.intro ?_ ?_) | (simp -dsimp -implicitDefEqProofs only [go_sem]))
  refine callK_by (z2 _ (nx + 64) (by omega)) ?_
  repeat' (first | omega | assumption | (show AL.ahead _ _ _ = true; rfl) | (first | apply brF | apply brT | apply brVF | apply brVT) <;> intro _ | (with_reducible refine And.intro ?_ ?_) | (simp -dsimp -implicitDefEqProofs only [go_sem]))
  refine callK_by (z3 _ (nx + 64) (by omega)) ?_
  repeat' (first | omega | assumption | (show AL.ahead _ _ _ = true; rfl) | (first | apply brF | apply brT | apply brVF | apply brVT) <;> intro _ | (with_reducible refine And.intro ?_ ?_) | (simp -dsimp -implicitDefEqProofs only [go_sem]))
  refine callK_by (z4 _ (nx + 64) (by omega)) ?_
  repeat' (first | omega | assumption | (show AL.ahead _ _ _ = true; rfl) | (first | apply brF | apply brT | apply brVF | apply brVT) <;> intro _ | (with_reducible refine And.intro ?_ ?_) | (simp -dsimp -implicitDefEqProofs only [go_sem]))
  refine callK_by (z5 _ (nx + 64) (by omega)) ?_
  repeat' (first | omega | assumption | (show AL.ahead _ _ _ = true; rfl) | (first | apply brF | apply brT | apply brVF | apply brVT) <;> intro _ | (with_reducible refine And.intro ?_ ?_) | (simp -dsimp -implicitDefEqProofs only [go_sem]))
  refine callK_by (z6 _ (nx + 64) (by omega)) ?_
  repeat' (first | omega | assumption | (show AL.ahead _ _ _ = true; rfl) | (first | apply brF | apply brT | apply brVF | apply brVT) <;> intro _ | (with_reducible refine And.intro ?_ ?_) | (simp -dsimp -implicitDefEqProofs only [go_sem, recA, recZ, hd]))
  all_goals rfl
def proofZA : AV := .agg 101 [.agg 67 [n64 0, n64 0, n64 0, sumA zeroS, sumA zeroS], .sl 1 [] 1, .sl 1 [] 1, sumA zeroS]
def optP (r : Proof_ × Int) : AV := if r.2 = 0 then proofA r.1 else proofZA
theorem textS_fst (s : ES) (n : Int) (hn : 0 ≤ n) : (textS s n).1.length ≤ s.b.length := by
 have h1 := uptoS_len s n
 simp only [textS, rawS]
 split
 ·split
  ·simp
  ·simp only [List.length_take]; omega
 ·simp
theorem pget_spec (nx : Nat) (b : List UInt8) (hb : b.length < 2 ^ 40) : FnSpec Tryz.prog 140 nx [.sl 1 (u8s b) 0] [] (.tup [optP (rdP b), n64 (rdP b).2]) [] 0 := by
 by_cases hlen : 65536 < b.length
 ·have e : rdP b = (proofZ, 3) := by unfold rdP; rw [if_pos hlen]
  rw [e]
  have hgt : (65536 : Int) < (b.length : Int) := by omega
  have e2 : optP (proofZ, 3) = proofZA := by unfold optP; rw [if_neg (by decide)]
  rw [e2]
  refine FnSpec.of_code (cx := cx) (an := {}) (rs := [.cell 2 245, .tmp 3]) mo Tryz.func140 rfl rfl (by kernel_rfl) (by kernel_rfl) (by show 1 ≤ _; decide) (.inr ⟨_, rfl, by simp [AV.good, proofZA]⟩) (by simp [allWr, keys, Res.wr]) ?_
  repeat' (first | omega | assumption | (show AL.ahead _ _ _ = true; rfl) | (first | apply brF | apply brT | apply brVF | apply brVT) <;> intro _ | (with_reducible refine And.intro ?_ ?_) | (simp -dsimp -implicitDefEqProofs only [go_sem, gt_iff_lt, hgt, proofZA]))
  all_goals rfl
 ·have hgt : ¬ ((65536 : Int) < (b.length : Int)) := by omega
  obtain ⟨x, hx⟩ : ∃ x, x = textS ⟨b, 0⟩ 65536 := ⟨_, rfl⟩
  obtain ⟨s, hs⟩ : ∃ s, s = textS x.2 65536 := ⟨_, rfl⟩
  obtain ⟨l, hl⟩ : ∃ l, l = textS s.2 65536 := ⟨_, rfl⟩
  obtain ⟨h, hh⟩ : ∃ h, h = esumS l.2 := ⟨_, rfl⟩
  obtain ⟨R, hR⟩ : ∃ R, R = rdR x.1 := ⟨_, rfl⟩
  have hrr : rdP b = if doneS h.2 = 0 then (if R.2 = 0 then (⟨R.1, s.1, l.1, h.1⟩, 0) else (proofZ, R.2)) else (proofZ, doneS h.2) := by
   rw [hR, hh, hl, hs, hx]; unfold rdP; rw [if_neg hlen]
  have l1 := textS_len ⟨b, 0⟩ 65536
  have l2 := textS_len x.2 65536
  have l3 := textS_len s.2 65536
  have f1 := textS_fst ⟨b, 0⟩ 65536 (by decide)
  rw [← hx] at l1 f1
  rw [← hs] at l2
  rw [← hl] at l3
  simp only at l1 f1
  have z1 := fun nc m (q : m < nc) => etext_spec nc m ⟨b, 0⟩ 65536 q hb
  have z2 := fun nc m (q : m < nc) => etext_spec nc m x.2 65536 q (by omega)
  have z3 := fun nc m (q : m < nc) => etext_spec nc m s.2 65536 q (by omega)
  have z4 := fun nc m (q : m < nc) => esum_spec nc m l.2 q (by omega)
  have z5 := fun nc k (q : k < nc) => done_spec nc k h.2 q
  have z6 := fun nc => rread_spec nc x.1 (by omega)
  rw [← hx] at z1
  rw [← hs] at z2
  rw [← hl] at z3
  rw [← hh] at z4
  rw [← hR] at z6
  clear hx hs hl hh hR
  rw [hrr]
  by_cases hd : doneS h.2 = 0
  ·rw [hd] at z5
   by_cases hr : R.2 = 0
   ·have e2 : optP (if doneS h.2 = 0 then (if R.2 = 0 then (⟨R.1, s.1, l.1, h.1⟩, 0) else (proofZ, R.2)) else (proofZ, doneS h.2)) = proofA ⟨R.1, s.1, l.1, h.1⟩ := by rw [if_pos hd, if_pos hr]; rfl
    rw [e2, if_pos hd, if_pos hr]
    rw [hr] at z6
    refine FnSpec.of_code (cx := cx) (an := {}) (rs := [.cell 2 245, .tmp 3]) mo Tryz.func140 rfl rfl (by kernel_rfl) (by kernel_rfl) (by show 1 ≤ _; decide) (.inr ⟨_, rfl, by simp [AV.good, proofA, proofZA]⟩) (by simp [allWr, keys, Res.wr]) ?_
    repeat' (first | omega | assumption | (show AL.ahead _ _ _ = true; rfl) | (first | apply brF | apply brT | apply brVF | apply brVT) <;> intro _ | (with_reducible refine And.intro ?_ ?_) | (refine callK_by (look_spec _ b) ?_) | (simp -dsimp -implicitDefEqProofs only [go_sem, gt_iff_lt, hgt]))
    refine callK_by (z1 _ (nx + 88) (by omega)) ?_
    repeat' (first | omega | assumption | (show AL.ahead _ _ _ = true; rfl) | (first | apply brF | apply brT | apply brVF | apply brVT) <;> intro _ | (with_reducible refine And.intro ?_ ?_) | (simp -dsimp -implicitDefEqProofs only [go_sem]))
    refine callK_by (z2 _ (nx + 88) (by omega)) ?_
    repeat' (first | omega | assumption | (show AL.ahead _ _ _ = true; rfl) | (first | apply brF | apply brT | apply brVF | apply brVT) <;> intro _ | (with_reducible refine And.intro ?_ ?_) | (simp -dsimp -implicitDefEqProofs only [go_sem]))
    refine callK_by (z3 _ (nx + 88) (by omega)) ?_
    repeat' (first | omega | assumption | (show AL.ahead _ _ _ = true; rfl) | (first | apply brF | apply brT | apply brVF | apply brVT) <;> intro _ | (with_reducible refine And.intro ?_ ?_) | (simp -dsimp -implicitDefEqProofs only [go_sem]))
    refine callK_by (z4 _ (nx + 88) (by omega)) ?_
    repeat' (first | omega | assumption | (show AL.ahead _ _ _ = true; rfl) | (first | apply brF | apply brT | apply brVF | apply brVT) <;> intro _ | (with_reducible refine And.intro ?_ ?_) | (simp -dsimp -implicitDefEqProofs only [go_sem]))
    refine callK_by (z5 _ (nx + 88) (by omega)) ?_
    repeat' (first | omega | assumption | (show AL.ahead _ _ _ = true; rfl) | (first | apply brF | apply brT | apply brVF | apply brVT) <;> intro _ | (with_reducible refine And.intro ?_ ?_) | (refine callK_by (z6 _) ?_) | (simp -dsimp -implicitDefEqProofs only [go_sem, proofA]))
    all_goals rfl
   ·have e2 : optP (if doneS h.2 = 0 then (if R.2 = 0 then (⟨R.1, s.1, l.1, h.1⟩, 0) else (proofZ, R.2)) else (proofZ, doneS h.2)) = proofZA := by rw [if_pos hd, if_neg hr]; unfold optP; rw [if_neg hr]
    rw [e2, if_pos hd, if_neg hr]
    refine FnSpec.of_code (cx := cx) (an := {}) (rs := [.cell 2 245, .tmp 3]) mo Tryz.func140 rfl rfl (by kernel_rfl) (by kernel_rfl) (by show 1 ≤ _; decide) (.inr ⟨_, rfl, by simp [AV.good, proofA, proofZA]⟩) (by simp [allWr, keys, Res.wr]) ?_
    repeat' (first | omega | assumption | (show AL.ahead _ _ _ = true; rfl) | (first | apply brF | apply brT | apply brVF | apply brVT) <;> intro _ | (with_reducible refine And.intro ?_ ?_) | (refine callK_by (look_spec _ b) ?_) | (simp -dsimp -implicitDefEqProofs only [go_sem, gt_iff_lt, hgt]))
    refine callK_by (z1 _ (nx + 88) (by omega)) ?_
    repeat' (first | omega | assumption | (show AL.ahead _ _ _ = true; rfl) | (first | apply brF | apply brT | apply brVF | apply brVT) <;> intro _ | (with_reducible refine And.intro ?_ ?_) | (simp -dsimp -implicitDefEqProofs only [go_sem]))
    refine callK_by (z2 _ (nx + 88) (by omega)) ?_
    repeat' (first | omega | assumption | (show AL.ahead _ _ _ = true; rfl) | (first | apply brF | apply brT | apply brVF | apply brVT) <;> intro _ | (with_reducible refine And.intro ?_ ?_) | (simp -dsimp -implicitDefEqProofs only [go_sem]))
    refine callK_by (z3 _ (nx + 88) (by omega)) ?_
    repeat' (first | omega | assumption | (show AL.ahead _ _ _ = true; rfl) | (first | apply brF | apply brT | apply brVF | apply brVT) <;> intro _ | (with_reducible refine And.intro ?_ ?_) | (simp -dsimp -implicitDefEqProofs only [go_sem]))
    refine callK_by (z4 _ (nx + 88) (by omega)) ?_
    repeat' (first | omega | assumption | (show AL.ahead _ _ _ = true; rfl) | (first | apply brF | apply brT | apply brVF | apply brVT) <;> intro _ | (with_reducible refine And.intro ?_ ?_) | (simp -dsimp -implicitDefEqProofs only [go_sem]))
    refine callK_by (z5 _ (nx + 88) (by omega)) ?_
    repeat' (first | omega | assumption | (show AL.ahead _ _ _ = true; rfl) | (first | apply brF | apply brT | apply brVF | apply brVT) <;> intro _ | (with_reducible refine And.intro ?_ ?_) | (refine callK_by (z6 _) ?_) | (simp -dsimp -implicitDefEqProofs only [go_sem, proofZA, hr]))
    all_goals rfl
  ·have e2 : optP (if doneS h.2 = 0 then (if R.2 = 0 then (⟨R.1, s.1, l.1, h.1⟩, 0) else (proofZ, R.2)) else (proofZ, doneS h.2)) = proofZA := by rw [if_neg hd]; unfold optP; rw [if_neg hd]
   rw [e2, if_neg hd]
   refine FnSpec.of_code (cx := cx) (an := {}) (rs := [.cell 2 245, .tmp 3]) mo Tryz.func140 rfl rfl (by kernel_rfl) (by kernel_rfl) (by show 1 ≤ _; decide) (.inr ⟨_, rfl, by simp [AV.good, proofA, proofZA]⟩) (by simp [allWr, keys, Res.wr]) ?_
   repeat' (first | omega | assumption | (show AL.ahead _ _ _ = true; rfl) | (first | apply brF | apply brT | apply brVF | apply brVT) <;> intro _ | (with_reducible refine And.intro ?_ ?_) | (refine callK_by (look_spec _ b) ?_) | (simp -dsimp -implicitDefEqProofs only [go_sem, gt_iff_lt, hgt]))
   refine callK_by (z1 _ (nx + 88) (by omega)) ?_
   repeat' (first | omega | assumption | (show AL.ahead _ _ _ = true; rfl) | (first | apply brF | apply brT | apply brVF | apply brVT) <;> intro _ | (with_reducible refine And.intro ?_ ?_) | (simp -dsimp -implicitDefEqProofs only [go_sem]))
   refine callK_by (z2 _ (nx + 88) (by omega)) ?_
   repeat' (first | omega | assumption | (show AL.ahead _ _ _ = true; rfl) | (first | apply brF | apply brT | apply brVF | apply brVT) <;> intro _ | (with_reducible refine And.intro ?_ ?_) | (simp -dsimp -implicitDefEqProofs only [go_sem]))
   refine callK_by (z3 _ (nx + 88) (by omega)) ?_
   repeat' (first | omega | assumption | (show AL.ahead _ _ _ = true; rfl) | (first | apply brF | apply brT | apply brVF | apply brVT) <;> intro _ | (with_reducible refine And.intro ?_ ?_) | (simp -dsimp -implicitDefEqProofs only [go_sem]))
   refine callK_by (z4 _ (nx + 88) (by omega)) ?_
   repeat' (first | omega | assumption | (show AL.ahead _ _ _ = true; rfl) | (first | apply brF | apply brT | apply brVF | apply brVT) <;> intro _ | (with_reducible refine And.intro ?_ ?_) | (simp -dsimp -implicitDefEqProofs only [go_sem]))
   refine callK_by (z5 _ (nx + 88) (by omega)) ?_
   repeat' (first | omega | assumption | (show AL.ahead _ _ _ = true; rfl) | (first | apply brF | apply brT | apply brVF | apply brVT) <;> intro _ | (with_reducible refine And.intro ?_ ?_) | (simp -dsimp -implicitDefEqProofs only [go_sem, proofZA, hd]))
   all_goals rfl
end Go.Proofs.YtaghcjbpjnpkbaaGreat

namespace Go.Proofs.YtaghcjbpjnpkbaaGreat
open Go Go.AL Go.Proofs.YtaghcjbpjnpkbaaGreat.T
noncomputable def hintS (c : Sum) : Sum := joinS 71 [c.b]
noncomputable def akeyS (c : Sum) : Sum := joinS 72 [c.b]
noncomputable def amarkS (b : List UInt8) : Sum := joinS 73 [b]
attribute [local go_sem] nb_u8s u8s_length nb_sum List.length_replicate zero_sum sum_h u8s_nil sumA u8_wrap take32 List.drop_zero
theorem hint_spec (nx : Nat) (s : Sum) : FnSpec Tryz.prog 164 nx [sumA s] [] (sumA (hintS s)) [] 0 := by
 have hl := s.h
 refine FnSpec.of_code (cx := cx) (an := {}) (rs := [.cell 2 26]) mo Tryz.func164 rfl rfl (by kernel_rfl) (by kernel_rfl) (by show 1 ≤ _; decide) (.inl rfl) (by simp [allWr, keys, Res.wr]) ?_
 repeat' (first | omega | assumption | (show AL.ahead _ _ _ = true; rfl) | (first | apply brF | apply brT | apply brVF | apply brVT) <;> intro _ | (with_reducible refine And.intro ?_ ?_) | (refine callK_by (join1_spec _ 1 1 71 s.b (by omega) (by omega) (by omega)) ?_) | (simp -dsimp -implicitDefEqProofs only [go_sem, hintS]))
 all_goals rfl
theorem akey_spec (nx : Nat) (s : Sum) : FnSpec Tryz.prog 179 nx [sumA s] [] (sumA (akeyS s)) [] 0 := by
 have hl := s.h
 refine FnSpec.of_code (cx := cx) (an := {}) (rs := [.cell 2 26]) mo Tryz.func179 rfl rfl (by kernel_rfl) (by kernel_rfl) (by show 1 ≤ _; decide) (.inl rfl) (by simp [allWr, keys, Res.wr]) ?_
 repeat' (first | omega | assumption | (show AL.ahead _ _ _ = true; rfl) | (first | apply brF | apply brT | apply brVF | apply brVT) <;> intro _ | (with_reducible refine And.intro ?_ ?_) | (refine callK_by (join1_spec _ 1 1 72 s.b (by omega) (by omega) (by omega)) ?_) | (simp -dsimp -implicitDefEqProofs only [go_sem, akeyS]))
 all_goals rfl
theorem amark_spec (nx : Nat) (b : List UInt8) (hb : b.length < 2 ^ 38) : FnSpec Tryz.prog 165 nx [.sl 1 (u8s b) 0] [] (sumA (amarkS b)) [] 0 := by
 refine FnSpec.of_code (cx := cx) (an := {}) (rs := [.cell 2 26]) mo Tryz.func165 rfl rfl (by kernel_rfl) (by kernel_rfl) (by show 1 ≤ _; decide) (.inl rfl) (by simp [allWr, keys, Res.wr]) ?_
 repeat' (first | omega | assumption | (show AL.ahead _ _ _ = true; rfl) | (first | apply brF | apply brT | apply brVF | apply brVT) <;> intro _ | (with_reducible refine And.intro ?_ ?_) | (refine callK_by (join1_spec _ 1 0 73 b (by omega) (by omega) (by omega)) ?_) | (simp -dsimp -implicitDefEqProofs only [go_sem, amarkS]))
 all_goals rfl
end Go.Proofs.YtaghcjbpjnpkbaaGreat

namespace Go.Proofs.YtaghcjbpjnpkbaaGreat
open Go Go.AL Go.Proofs.YtaghcjbpjnpkbaaGreat.T
structure Fac_ where
 tx : Tx_
 at_ : Int
 taken : Bool
 when_ : Int
def facA (f : Fac_) : AV := .agg 43 [txA f.tx, n64 f.at_, bA f.taken, n64 f.when_]
noncomputable def facT (x : LS) (id : Sum) : Bool × Int := match lookM (⟨id, 0⟩ : Ref_) x.spent with
 | some s => if s.way = 1 then (true, s.height) else (false, 0)
 | none => (false, 0)
theorem facA_good (f : Fac_) : (facA f).good = true := rfl
theorem facA_agg (f : Fac_) : (facA f).isAgg = true := rfl
theorem facA_csz (f : Fac_) : (facA f).csize = 43 := rfl
theorem nb_fac {m : Nat} (f : Fac_) : AV.nb m (facA f) = True := by simp [facA, AV.nb, AV.nbs, nb_tx]
attribute [local go_sem] nb_u8s u8s_length nb_sum List.length_replicate zero_sum sum_h u8s_nil txA_good txA_csz txA_agg nb_tx sum_csz sum_agg sumA_good nb_ref refA_good refA_agg refA_csz facA_good facA_agg facA_csz nb_fac
theorem lfacts_none (nx : Nat) (n : LN) (x : LS) (id : Sum) (hn : n.ok nx) (hd : lookM id x.done = none) : FnSpec Tryz.prog 141 nx [.ref n.l 0 [], sumA id] [(n.l, some (.robj (ledA n x))), (n.d, some (.rmp (donesE x.done))), (n.s, some (.rmp (spentE x.spent)))] (.tup [facZ, bA false]) [] 0 := by
 have xf := hn.xf
 have yf := hn.nf
 have hdn := fun nc (q : nx ≤ nc) => ldone_spec nc n x id (hn.up q)
 rw [hd] at hdn
 simp only [optD, Option.isSome_none] at hdn
 refine FnSpec.of_code (cx := cx) (an := {}) (rs := [.cell 4 249, .tmp 5]) mo Tryz.func141 rfl rfl (by kernel_rfl) (by kernel_rfl) (by show 2 ≤ _; decide) (.inr ⟨_, rfl, by simp [AV.good, facZ]⟩) (by simp [allWr, keys, Res.wr]) ?_
 repeat' (first | omega | assumption | (show AL.ahead _ _ _ = true; rfl) | (first | apply brF | apply brT | apply brVF | apply brVT) <;> intro _ | (with_reducible refine And.intro ?_ ?_) | (refine callK_by (hdn _ (by omega)) ?_) | (simp -dsimp -implicitDefEqProofs only [go_sem, xf, yf, facZ]))
 all_goals rfl
theorem lfacts_some (nx : Nat) (n : LN) (x : LS) (id : Sum) (hn : n.ok nx) (d : Done_) (hd : lookM id x.done = some d) : FnSpec Tryz.prog 141 nx [.ref n.l 0 [], sumA id] [(n.l, some (.robj (ledA n x))), (n.d, some (.rmp (donesE x.done))), (n.s, some (.rmp (spentE x.spent)))]
  (.tup [facA ⟨d.tx, d.height, (facT x id).1, (facT x id).2⟩, bA true]) [] 0 := by
 have xf := hn.xf
 have yf := hn.nf
 have hdn := fun nc (q : nx ≤ nc) => ldone_spec nc n x id (hn.up q)
 have hsp := fun nc (q : nx ≤ nc) => lspent_spec nc n x ⟨id, 0⟩ (hn.up q)
 rw [hd] at hdn
 simp only [optD, doneA, Option.isSome_some] at hdn
 cases hs : lookM (⟨id, 0⟩ : Ref_) x.spent with
 | none =>
  have e : facT x id = (false, 0) := by unfold facT; rw [hs]
  rw [e]
  rw [hs] at hsp
  simp only [optS, spendA, refA, Option.isSome_none] at hsp
  refine FnSpec.of_code (cx := cx) (an := {}) (rs := [.cell 4 249, .tmp 5]) mo Tryz.func141 rfl rfl (by kernel_rfl) (by kernel_rfl) (by show 2 ≤ _; decide) (.inr ⟨_, rfl, by simp [AV.good, facA]⟩) (by simp [allWr, keys, Res.wr]) ?_
  repeat' (first | omega | assumption | (show AL.ahead _ _ _ = true; rfl) | (first | apply brF | apply brT | apply brVF | apply brVT) <;> intro _ | (with_reducible refine And.intro ?_ ?_) | (refine callK_by (hdn _ (by omega)) ?_) | (refine callK_by (hsp _ (by omega)) ?_) | (simp -dsimp -implicitDefEqProofs only [go_sem, xf, yf, facA]))
  all_goals rfl
 | some s =>
  rw [hs] at hsp
  simp only [optS, spendA, refA, Option.isSome_some] at hsp
  by_cases hw : s.way = 1
  ·have e : facT x id = (true, s.height) := by unfold facT; rw [hs]; simp only; rw [if_pos hw]
   rw [e]
   refine FnSpec.of_code (cx := cx) (an := {}) (rs := [.cell 4 249, .tmp 5]) mo Tryz.func141 rfl rfl (by kernel_rfl) (by kernel_rfl) (by show 2 ≤ _; decide) (.inr ⟨_, rfl, by simp [AV.good, facA]⟩) (by simp [allWr, keys, Res.wr]) ?_
   repeat' (first | omega | assumption | (show AL.ahead _ _ _ = true; rfl) | (first | apply brF | apply brT | apply brVF | apply brVT) <;> intro _ | (with_reducible refine And.intro ?_ ?_) | (refine callK_by (hdn _ (by omega)) ?_) | (refine callK_by (hsp _ (by omega)) ?_) | (simp -dsimp -implicitDefEqProofs only [go_sem, xf, yf, facA, hw]))
   all_goals rfl
  ·have e : facT x id = (false, 0) := by unfold facT; rw [hs]; simp only; rw [if_neg hw]
   rw [e]
   refine FnSpec.of_code (cx := cx) (an := {}) (rs := [.cell 4 249, .tmp 5]) mo Tryz.func141 rfl rfl (by kernel_rfl) (by kernel_rfl) (by show 2 ≤ _; decide) (.inr ⟨_, rfl, by simp [AV.good, facA]⟩) (by simp [allWr, keys, Res.wr]) ?_
   repeat' (first | omega | assumption | (show AL.ahead _ _ _ = true; rfl) | (first | apply brF | apply brT | apply brVF | apply brVT) <;> intro _ | (with_reducible refine And.intro ?_ ?_) | (refine callK_by (hdn _ (by omega)) ?_) | (refine callK_by (hsp _ (by omega)) ?_) | (simp -dsimp -implicitDefEqProofs only [go_sem, xf, yf, facA, hw]))
   all_goals rfl
end Go.Proofs.YtaghcjbpjnpkbaaGreat

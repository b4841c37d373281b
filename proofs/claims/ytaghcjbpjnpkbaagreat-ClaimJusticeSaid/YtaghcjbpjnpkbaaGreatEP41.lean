/-
 The transaction that takes a commitment's part, for the victim alone.
-/
import Derived.Test.YtaghcjbpjnpkbaaGreatEP111
import Derived.Test.YtaghcjbpjnpkbaaGreatEP20
import Derived.Test.YtaghcjbpjnpkbaaGreatEP71
set_option linter.unusedSimpArgs false
set_option linter.unusedVariables false
set_option maxRecDepth 100000
set_option maxHeartbeats 8000000
namespace Go.Proofs.YtaghcjbpjnpkbaaGreat
open Go Go.AL Go.Proofs.YtaghcjbpjnpkbaaGreat.T
theorem own2_key {c : Chan} {own take : Way_} {o1 : Out_} (h : ¬ own2 c own take o1 < 0) : ∃ k, take.keys = [k] := by
 unfold own2 at h
 split at h
 ·rename_i q
  have := @of_decide_eq_true _ (Classical.propDecidable _) q
  exact ⟨_, this.2.2.2.2.1⟩
 ·split at h
  ·rename_i q
   have := @of_decide_eq_true _ (Classical.propDecidable _) q
   exact ⟨_, this.2.2.2.2.1⟩
  ·exact absurd (by decide) h
theorem ownF_key {c : Chan} {t : Tx_} (h : ¬ ownF c t < 0) : ∃ x am own k th ta tw o1 op sg, t = ⟨[x], [⟨am, [own, ⟨[k], th, ta, tw⟩]⟩, o1], op, sg⟩ := by
 obtain ⟨x, am, own, take, o1, op, sg, rfl⟩ := ownF_shape h
 obtain ⟨tk, th, ta, tw⟩ := take
 have h2 : ¬ own2 c own ⟨tk, th, ta, tw⟩ o1 < 0 := by
  unfold ownF at h
  simp only at h
  split at h
  ·exact h
  ·exact absurd (by decide) h
 obtain ⟨k, hk⟩ := own2_key h2
 simp only at hk
 subst hk
 exact ⟨x, am, own, k, th, ta, tw, o1, op, sg, rfl⟩
abbrev amR (n : Int) : Prop := 0 ≤ n ∧ n ≤ 1125899906842624
def shrV (n fee : Int) : Int := n - min fee n
def jT (id : Sum) (pre : List UInt8) (k a : Int) : Tx_ := ⟨[⟨⟨id, 0⟩, 1, pre⟩], [toO k a], op0, []⟩
noncomputable def jbE (c : Chan) (t : Tx_) (pre : Sum) (fee : Int) : Int :=
 if ownF c t < 0 then 1
 else @ite _ (joinS 31 [pre.b] = ((t.outs.getD 0 outZ).ways.getD 1 wayZ).hash) (Classical.propDecidable _) (if amR (t.outs.getD 0 outZ).amount ∧ amR fee then 0 else 1) 16
noncomputable def jbT (t : Tx_) (pre : Sum) (fee : Int) : Tx_ :=
 signedT (jT (txS t) pre.b (((t.outs.getD 0 outZ).ways.getD 1 wayZ).keys.getD 0 0) (shrV (t.outs.getD 0 outZ).amount fee)) (((t.outs.getD 0 outZ).ways.getD 1 wayZ).keys.getD 0 0)
noncomputable def jbA (c : Chan) (t : Tx_) (pre : Sum) (fee : Int) : AV := if jbE c t pre fee = 0 then txA (jbT t pre fee) else txZA
theorem jT_len (id : Sum) (pre : List UInt8) (hp : pre.length ≤ 32) (k a : Int) : (bodyL true (jT id pre k a)).length < 2 ^ 30 := by
 have h1 := numI_len ((1 : Nat) : Int)
 have h2 := inL_le ⟨⟨id, 0⟩, 1, pre⟩
 have h3 := outL_to k a
 have h4 := opL_le op0
 simp only [op0, List.length_nil] at h4 h2
 simp only [bodyL, jT, op0, List.flatMap_cons, List.flatMap_nil, List.append_nil, List.length_append, List.length_cons, List.length_nil, Nat.zero_add]
 omega
theorem jSign (nx tok : Nat) (id : Sum) (pre : List UInt8) (hp : pre.length ≤ 32) (k a : Int) :
  FnSpec Tryz.prog 32 nx [.agg 40 [.sl 35 [.agg 35 [.agg 33 [sumA id, n64 0], n64 1, .sl 1 (u8s pre) tok]] 1, .sl 2 [outA (toO k a)] 1, .agg 37 [n64 0, n64 0, n64 0, n64 0, sumA zeroS, .sl 1 [] 1], .sl 33 [] 1], .sl 1 [n64 k] 1] [] (txA (signedT (jT id pre k a) k)) [] 0 := by
 refine (signed_spec nx 1 (jT id pre k a) k rfl (Nat.lt_trans (jT_len id pre hp k a) (by decide)) (toO_keys k a _ rfl) (.inl (by decide))).le ?_
 refine ⟨_, _, rfl, ⟨_, rfl, _, _, rfl, ⟨_, _, rfl, ?_, .inr (.inl rfl)⟩, _, _, rfl, ⟨_, _, rfl, AV.les_refl _, .inr (.inl rfl)⟩, _, _, rfl, ⟨_, rfl, ?_⟩, AV.les_refl _⟩, AV.les_refl _⟩
 ·exact ⟨_, _, rfl, ⟨_, rfl, _, _, rfl, AV.le_refl _, _, _, rfl, AV.le_refl _, _, _, rfl, ⟨_, _, rfl, AV.les_refl _, .inr (.inl rfl)⟩, rfl⟩, rfl⟩
 ·exact ⟨_, _, rfl, AV.le_refl _, _, _, rfl, AV.le_refl _, _, _, rfl, AV.le_refl _, _, _, rfl, AV.le_refl _, _, _, rfl, AV.le_refl _, _, _, rfl, ⟨_, _, rfl, AV.les_refl _, .inr (.inl rfl)⟩, rfl⟩
attribute [local go_sem] take32 nb_u8s u8s_length nb_sum List.length_replicate zero_sum sum_h u8s_nil txA_good txA_csz txA_agg nb_tx nb_vals vals_len ways_len nb_ways outA_good outA_agg outA_csz nb_out1 ins_len outs_len nb_ins nb_outs nb_signs tA_len tA_p1 tA_off1 iA_p0 iA_off0 oA_p2 oA_off2 wayA_good wayA_agg wayA_csz nb_way1 nbo nbw
theorem part0_spec (nx : Nat) (n : Int) : FnSpec Tryz.prog 64 nx [n64 n, n64 0] [] (n64 0) [] 0 := by
 have hr := fun nc => coinRight_spec nc n
 by_cases h : 0 ≤ n ∧ n ≤ 1125899906842624
 ·rw [decide_eq_true h] at hr
  have w0 : IntKind.i64.wrap 0 = 0 := by decide
  have w3 : min (0 : Int) 1000 = 0 := by decide
  refine FnSpec.of_code (cx := cx) (an := {}) (rs := [.tmp 4]) mo Tryz.func64 rfl rfl (by kernel_rfl) (by kernel_rfl) (by show 2 ≤ _; decide) (.inl rfl) (by simp [allWr, keys, Res.wr]) ?_
  repeat' (first | omega | assumption | (show AL.ahead _ _ _ = true; rfl) | (first | apply brF | apply brT | apply brVF | apply brVT) <;> intro _ | (with_reducible refine And.intro ?_ ?_) | (refine callK_by (hr _) ?_) | (simp -dsimp -implicitDefEqProofs only [go_sem, w0, w3, Int.mul_zero, Int.zero_tdiv]))
  all_goals rfl
 ·rw [decide_eq_false h] at hr
  refine FnSpec.of_code (cx := cx) (an := {}) (rs := [.tmp 4]) mo Tryz.func64 rfl rfl (by kernel_rfl) (by kernel_rfl) (by show 2 ≤ _; decide) (.inl rfl) (by simp [allWr, keys, Res.wr]) ?_
  repeat' (first | omega | assumption | (show AL.ahead _ _ _ = true; rfl) | (first | apply brF | apply brT | apply brVF | apply brVT) <;> intro _ | (with_reducible refine And.intro ?_ ?_) | (refine callK_by (hr _) ?_) | (simp -dsimp -implicitDefEqProofs only [go_sem]))
  all_goals rfl
theorem sharesBad_spec (nx : Nat) (n fee : Int) (h : ¬ (amR n ∧ amR fee)) : FnSpec Tryz.prog 28 nx [n64 n, .agg 2 [n64 0, n64 fee]] [] (.tup [n64 0, n64 0, n64 0, n64 1]) [] 0 := by
 have hr := fun nc => coinRight_spec nc n
 have hr2 := fun nc => coinRight_spec nc fee
 by_cases h1 : 0 ≤ n ∧ n ≤ 1125899906842624
 ·have h2 : ¬ (0 ≤ fee ∧ fee ≤ 1125899906842624) := fun q => h ⟨h1, q⟩
  rw [decide_eq_true h1] at hr
  rw [decide_eq_false h2] at hr2
  refine FnSpec.of_code (cx := cx) (an := {}) (rs := [.tmp 4, .tmp 5, .tmp 6, .tmp 7]) mo Tryz.func28 rfl rfl (by kernel_rfl) (by kernel_rfl) (by show 2 ≤ _; decide) (.inr ⟨_, rfl, by simp [AV.good]⟩) (by simp [allWr, keys, Res.wr]) ?_
  repeat' (first | omega | assumption | (show AL.ahead _ _ _ = true; rfl) | (first | apply brF | apply brT | apply brVF | apply brVT) <;> intro _ | (with_reducible refine And.intro ?_ ?_) | (refine callK_by (hr _) ?_) | (refine callK_by (hr2 _) ?_) | (simp -dsimp -implicitDefEqProofs only [go_sem]))
  all_goals rfl
 ·rw [decide_eq_false h1] at hr
  refine FnSpec.of_code (cx := cx) (an := {}) (rs := [.tmp 4, .tmp 5, .tmp 6, .tmp 7]) mo Tryz.func28 rfl rfl (by kernel_rfl) (by kernel_rfl) (by show 2 ≤ _; decide) (.inr ⟨_, rfl, by simp [AV.good]⟩) (by simp [allWr, keys, Res.wr]) ?_
  repeat' (first | omega | assumption | (show AL.ahead _ _ _ = true; rfl) | (first | apply brF | apply brT | apply brVF | apply brVT) <;> intro _ | (with_reducible refine And.intro ?_ ?_) | (refine callK_by (hr _) ?_) | (refine callK_by (hr2 _) ?_) | (simp -dsimp -implicitDefEqProofs only [go_sem]))
  all_goals rfl
theorem sharesOk_spec (nx : Nat) (n fee : Int) (h1 : amR n) (h2 : amR fee) : FnSpec Tryz.prog 28 nx [n64 n, .agg 2 [n64 0, n64 fee]] [] (.tup [n64 (shrV n fee), n64 0, n64 (min fee n), n64 0]) [] 0 := by
 have hr := fun nc => coinRight_spec nc n
 have hr2 := fun nc => coinRight_spec nc fee
 rw [decide_eq_true h1] at hr
 rw [decide_eq_true h2] at hr2
 obtain ⟨a1, a2⟩ := h1
 obtain ⟨b1, b2⟩ := h2
 have w1 : IntKind.i64.wrap (n - min fee n) = shrV n fee := by rw [IntKind.wrap_i64]; unfold shrV; omega
 have w2 : IntKind.i64.wrap (shrV n fee - 0) = shrV n fee := by rw [IntKind.wrap_i64]; unfold shrV; omega
 have hp := fun nc => part0_spec nc (shrV n fee)
 refine FnSpec.of_code (cx := cx) (an := {}) (rs := [.tmp 4, .tmp 5, .tmp 6, .tmp 7]) mo Tryz.func28 rfl rfl (by kernel_rfl) (by kernel_rfl) (by show 2 ≤ _; decide) (.inr ⟨_, rfl, by simp [AV.good]⟩) (by simp [allWr, keys, Res.wr]) ?_
 repeat' (first | omega | assumption | (show AL.ahead _ _ _ = true; rfl) | (first | apply brF | apply brT | apply brVF | apply brVT) <;> intro _ | (with_reducible refine And.intro ?_ ?_) | (refine callK_by (hr _) ?_) | (refine callK_by (hr2 _) ?_) | (refine callK_by (hp _) ?_) | (simp -dsimp -implicitDefEqProofs only [go_sem, w1, w2]))
 all_goals rfl
section
variable (nx : Nat) (c : Chan) (t : Tx_) (pre : Sum) (fee : Int) (ht : TxOk t)
include ht
theorem jb_spec : FnSpec Tryz.prog 11 nx [chanA c, txA t, sumA pre, n64 (-1), .agg 2 [n64 0, n64 fee]] [] (.tup [jbA c t pre fee, n64 (jbE c t pre fee)]) [] 0 := by
 have ho := fun nc => owner_spec nc c t ht.l.2.2.1 ht.l.2.2.2.1 ht.l.2.2.2.2.2
 simp only [chanA, refA, sumA] at ho
 by_cases c1 : ownF c t < 0
 ·have e : jbE c t pre fee = 1 := by unfold jbE; rw [if_pos c1]
  have e2 : jbA c t pre fee = txZA := by unfold jbA; rw [e]; rfl
  rw [e, e2]
  refine FnSpec.of_code (cx := cx) (an := {mt := [9]}) (rs := [.cell 10 40, .tmp 11]) mo Tryz.func11 rfl rfl (by kernel_rfl) (by kernel_rfl) (by show 5 ≤ _; decide) (.inr ⟨_, rfl, by simp [AV.good, txZA]⟩) (by simp [allWr, keys, Res.wr]) ?_
  repeat' (first | omega | assumption | (show AL.ahead _ _ _ = true; rfl) | (first | apply brF | apply brT | apply brVF | apply brVT) <;> intro _ | (with_reducible refine And.intro ?_ ?_) | (refine callK_by (ho _) ?_) | (simp -dsimp -implicitDefEqProofs only [go_sem, chanA, refA, c1, txZA, sumA]))
  all_goals rfl
 ·obtain ⟨x, am, own, k, th, ta, tw, o1, op, sg, rfl⟩ := ownF_key c1
  have hrf := fun nc => cref_spec nc ⟨[x], [⟨am, [own, ⟨[k], th, ta, tw⟩]⟩, o1], op, sg⟩ ht.b ht.k
  have hlh := fun nc tk (h : tk < 2 ∨ tk - 2 < nc) => lhash_spec nc tk pre.b (by rw [pre.h]; decide) h
  simp only [refA, sumA] at hrf hlh
  have hto := fun nc => to_spec nc k (shrV am fee)
  have hsg := fun nc tk => jSign nc tk (txS ⟨[x], [⟨am, [own, ⟨[k], th, ta, tw⟩]⟩, o1], op, sg⟩) pre.b (by rw [pre.h]; decide) k (shrV am fee)
  by_cases c2 : joinS 31 [pre.b] = th
  ·have e1 : eqB (AV.vec 1 (u8s (joinS 31 [pre.b]).b)) (AV.vec 1 (u8s th.b)) = true := by rw [c2]; exact eqB_yes rfl
   by_cases c3 : amR am ∧ amR fee
   ·have e : jbE c ⟨[x], [⟨am, [own, ⟨[k], th, ta, tw⟩]⟩, o1], op, sg⟩ pre fee = 0 := by
     unfold jbE; rw [if_neg c1]; exact Eq.trans (if_pos c2) (if_pos c3)
    have e2 : jbA c ⟨[x], [⟨am, [own, ⟨[k], th, ta, tw⟩]⟩, o1], op, sg⟩ pre fee = txA (signedT (jT (txS ⟨[x], [⟨am, [own, ⟨[k], th, ta, tw⟩]⟩, o1], op, sg⟩) pre.b k (shrV am fee)) k) := by unfold jbA; rw [if_pos e]; rfl
    rw [e, e2]
    have hsh := fun nc => sharesOk_spec nc am fee c3.1 c3.2
    generalize txS ⟨[x], [⟨am, [own, ⟨[k], th, ta, tw⟩]⟩, o1], op, sg⟩ = id at *
    generalize signedT (jT id pre.b k (shrV am fee)) k = S at *
    generalize joinS 31 [pre.b] = J at *
    refine FnSpec.of_code (cx := cx) (an := {mt := [9]}) (rs := [.cell 10 40, .tmp 11]) mo Tryz.func11 rfl rfl (by kernel_rfl) (by kernel_rfl) (by show 5 ≤ _; decide) (.inr ⟨_, rfl, by simp [AV.good, txA]⟩) (by simp [allWr, keys, Res.wr]) ?_
    repeat' (first | omega | assumption | (show AL.ahead _ _ _ = true; rfl) | (first | apply brF | apply brT | apply brVF | apply brVT) <;> intro _ | (with_reducible refine And.intro ?_ ?_) | (refine callK_by (ho _) ?_) | (refine callK_by (hlh _ _ (by omega)) ?_) | (refine callK_by (hsh _) ?_) | (refine callK_by (hrf _) ?_) | (refine callK_by (hto _) ?_) | (refine callK_by (hsg _ _) ?_) | (simp -dsimp -implicitDefEqProofs only [go_sem, chanA, refA, sumA, c1, e1, txA, insA, outsA, outA, waysA, wayA, vals, List.map_cons, List.map_nil, List.getD_cons_zero, List.getD_cons_succ, List.length_cons, List.length_nil, ↓cmp_sum, isSumT]))
    all_goals first | rfl | exact of_eq_true (nb_ins S.ins) | exact of_eq_true (nb_outs S.outs) | exact of_eq_true (nb_signs S.signs) | (simp [opT, AV.nb, AV.nbs, nb_sum, nb_u8s]; done)
   ·have e : jbE c ⟨[x], [⟨am, [own, ⟨[k], th, ta, tw⟩]⟩, o1], op, sg⟩ pre fee = 1 := by
     unfold jbE; rw [if_neg c1]; exact Eq.trans (if_pos c2) (if_neg c3)
    have e2 : jbA c ⟨[x], [⟨am, [own, ⟨[k], th, ta, tw⟩]⟩, o1], op, sg⟩ pre fee = txZA := by unfold jbA; rw [e]; rfl
    rw [e, e2]
    have hsh := fun nc => sharesBad_spec nc am fee c3
    generalize joinS 31 [pre.b] = J at *
    refine FnSpec.of_code (cx := cx) (an := {mt := [9]}) (rs := [.cell 10 40, .tmp 11]) mo Tryz.func11 rfl rfl (by kernel_rfl) (by kernel_rfl) (by show 5 ≤ _; decide) (.inr ⟨_, rfl, by simp [AV.good, txZA]⟩) (by simp [allWr, keys, Res.wr]) ?_
    repeat' (first | omega | assumption | (show AL.ahead _ _ _ = true; rfl) | (first | apply brF | apply brT | apply brVF | apply brVT) <;> intro _ | (with_reducible refine And.intro ?_ ?_) | (refine callK_by (ho _) ?_) | (refine callK_by (hlh _ _ (by omega)) ?_) | (refine callK_by (hsh _) ?_) | (simp -dsimp -implicitDefEqProofs only [go_sem, chanA, refA, sumA, c1, e1, txZA, txA, insA, outsA, outA, waysA, wayA, vals, List.map_cons, List.map_nil, List.getD_cons_zero, List.getD_cons_succ, List.length_cons, List.length_nil, ↓cmp_sum, isSumT]))
    all_goals rfl
  ·have e1 : eqB (AV.vec 1 (u8s (joinS 31 [pre.b]).b)) (AV.vec 1 (u8s th.b)) = false := eqB_no (fun q => c2 (sumA_inj _ _ q))
   have e : jbE c ⟨[x], [⟨am, [own, ⟨[k], th, ta, tw⟩]⟩, o1], op, sg⟩ pre fee = 16 := by
    unfold jbE; rw [if_neg c1]; exact if_neg c2
   have e2 : jbA c ⟨[x], [⟨am, [own, ⟨[k], th, ta, tw⟩]⟩, o1], op, sg⟩ pre fee = txZA := by unfold jbA; rw [e]; rfl
   rw [e, e2]
   generalize joinS 31 [pre.b] = J at *
   refine FnSpec.of_code (cx := cx) (an := {mt := [9]}) (rs := [.cell 10 40, .tmp 11]) mo Tryz.func11 rfl rfl (by kernel_rfl) (by kernel_rfl) (by show 5 ≤ _; decide) (.inr ⟨_, rfl, by simp [AV.good, txZA]⟩) (by simp [allWr, keys, Res.wr]) ?_
   repeat' (first | omega | assumption | (show AL.ahead _ _ _ = true; rfl) | (first | apply brF | apply brT | apply brVF | apply brVT) <;> intro _ | (with_reducible refine And.intro ?_ ?_) | (refine callK_by (ho _) ?_) | (refine callK_by (hlh _ _ (by omega)) ?_) | (simp -dsimp -implicitDefEqProofs only [go_sem, chanA, refA, sumA, c1, e1, txZA, txA, insA, outsA, outA, waysA, wayA, vals, List.map_cons, List.map_nil, List.getD_cons_zero, List.getD_cons_succ, List.length_cons, List.length_nil, ↓cmp_sum, isSumT]))
   all_goals rfl
end
theorem jbT_sm {t : Tx_} (pre : Sum) (fee : Int) : TxOk (jbT t pre fee) := by
 have hp := pre.h
 unfold jbT
 generalize ((t.outs.getD 0 outZ).ways.getD 1 wayZ).keys.getD 0 0 = k
 generalize shrV (t.outs.getD 0 outZ).amount fee = a
 have hl := jT_len (txS t) pre.b (by omega) k a
 refine ⟨⟨fun x hx => ?_, by simp [signedT, jT, op0], by simp [signedT, jT], by simp [signedT, jT], by simp [signedT, jT], fun o ho => ?_⟩, Nat.lt_trans hl (by decide), fun o ho w hw => toO_keys k a _ rfl o ho w hw, fun y hy => ?_⟩
 ·simp [signedT, jT] at hx; subst hx; simp only; omega
 ·simp [signedT, jT] at ho; subst ho; exact ⟨by simp [toO], fun w hw => by simp [toO] at hw; subst hw; simp⟩
 ·simp [signedT, jT] at hy; subst hy; simp only; omega
theorem jbT_byt {t : Tx_} (pre : Sum) (fee : Int) : (bytL (jbT t pre fee)).length < 2 ^ 38 := by
 have hp := pre.h
 unfold jbT
 generalize ((t.outs.getD 0 outZ).ways.getD 1 wayZ).keys.getD 0 0 = k
 generalize shrV (t.outs.getD 0 outZ).amount fee = a
 have hl := jT_len (txS t) pre.b (by omega) k a
 have e : bodyL true (signedT (jT (txS t) pre.b k a) k) = bodyL true (jT (txS t) pre.b k a) := rfl
 have h1 := numI_len ((1 : Nat) : Int)
 have h2 := numI_len k
 have h3 := (txS (jT (txS t) pre.b k a)).h
 rw [bytL, e]
 simp only [signedT, signL, List.length_append, List.length_cons, List.length_nil, List.flatMap_cons, List.flatMap_nil, Nat.zero_add, h3]
 omega
end Go.Proofs.YtaghcjbpjnpkbaaGreat

namespace Go.Proofs.YtaghcjbpjnpkbaaGreat
open Go Go.AL Go.Proofs.YtaghcjbpjnpkbaaGreat.T
section
open Classical
end
end Go.Proofs.YtaghcjbpjnpkbaaGreat

namespace Go.Proofs.YtaghcjbpjnpkbaaGreat
open Go Go.AL Go.Proofs.YtaghcjbpjnpkbaaGreat.T
attribute [local go_sem] nb_u8s u8s_length nb_sum sumA List.length_replicate u8_wrap take32 List.drop_zero zero_sum sum_h u8s_nil sums_len nb_sums u8s_app
theorem digest_spec (nx t : Nat) (a : List UInt8) (ha : a.length < 2 ^ 39) (ht : t < 2 ∨ t - 2 < nx) : FnSpec Tryz.prog 182 nx [.sl 1 (u8s a) t] [] (sumA (joinS 14 [a])) [] 0 := by
 have hj := fun nc (h : nx ≤ nc) => join1_spec nc 1 t 14 a ha (by omega) (by omega)
 refine FnSpec.of_code (cx := cx) (an := {}) (rs := [.cell 2 26]) mo Tryz.func182 rfl rfl (by kernel_rfl) (by kernel_rfl) (by show 1 ≤ _; decide) (.inl rfl) (by simp [allWr, keys, Res.wr]) ?_
 repeat' (first | omega | assumption | (show AL.ahead _ _ _ = true; rfl) | (first | apply brF | apply brT | apply brVF | apply brVT) <;> intro _ | (with_reducible refine And.intro ?_ ?_) | (refine callK_by (hj _ (by omega)) ?_) | (simp -dsimp -implicitDefEqProofs only [go_sem]))
def bitI (s : Sum) (i : Nat) : Int := IntKind.i64.wrap ((BitVec.ofInt IntKind.i64.bits (IntKind.i64.wrap (((s.b.getD (i / 8) 0).toNat : Int).fdiv (2 ^ min (7 - i % 8) 8))) &&& BitVec.ofInt IntKind.i64.bits 1).toNat : Int)
theorem bit_spec (nx : Nat) (s : Sum) (i : Nat) (hi : i < 64) : FnSpec Tryz.prog 184 nx [sumA s, n64 i] [] (n64 (bitI s i)) [] 0 := by
 have hl := s.h
 have w1 : IntKind.i64.wrap ((i : Int).tdiv 8) = ((i / 8 : Nat) : Int) := by rw [IntKind.wrap_i64, Int.tdiv_eq_ediv_of_nonneg (by omega)]; omega
 have w2 : IntKind.i64.wrap (7 - (i : Int).tmod 8) = ((7 - i % 8 : Nat) : Int) := by rw [IntKind.wrap_i64, Int.tmod_eq_emod_of_nonneg (by omega)]; omega
 have q1 := u8s_get (l := s.b) (i := i / 8) (by omega)
 refine FnSpec.of_code (cx := cx) (an := {}) (rs := [.tmp 4]) mo Tryz.func184 rfl rfl (by kernel_rfl) (by kernel_rfl) (by show 2 ≤ _; decide) (.inl rfl) (by simp [allWr, keys, Res.wr]) ?_
 repeat' (first | omega | assumption | (show AL.ahead _ _ _ = true; rfl) | (first | apply brF | apply brT | apply brVF | apply brVT) <;> intro _ | (with_reducible refine And.intro ?_ ?_) | (simp -dsimp -implicitDefEqProofs only [go_sem, w1, w2, q1]))
 all_goals rfl
def halfS (sig : List UInt8) (i : Nat) : Sum := sumOf ((sig.drop (64 * i)).take 32)
def othL (sig : List UInt8) (i : Nat) : List UInt8 := (sig.take (64 * i + 64)).drop (64 * i + 32)
noncomputable def backL (d : Sum) (sig : List UInt8) : Nat → List UInt8
 | 0 => []
 | i + 1 => backL d sig i ++ (if bitI d i = 0 then (shownS (halfS sig i)).b ++ othL sig i else othL sig i ++ (shownS (halfS sig i)).b)
theorem othL_len {sig : List UInt8} {i : Nat} (h : sig.length = 4096) (hi : i < 64) : (othL sig i).length = 32 := by
 unfold othL; rw [List.length_drop, List.length_take]; omega
theorem backL_len (d : Sum) {sig : List UInt8} (h : sig.length = 4096) : ∀ i, i ≤ 64 → (backL d sig i).length = 64 * i
 | 0, _ => rfl
 | i + 1, hi => by
  have h1 := othL_len (i := i) h (by omega)
  rw [backL, List.length_append, backL_len d h i (by omega)]
  split <;> rw [List.length_append, sum_h, h1] <;> omega
noncomputable def backS (text sig : List UInt8) : Sum := joinS 13 [backL (joinS 14 [text]) sig 64]
theorem sum_take (s : Sum) : s.b.take 32 = s.b := List.take_of_length_le (by rw [s.h]; omega)
theorem u8s_takeP (l : List UInt8) (n : Nat) : (u8s l).take n = u8s (l.take n) := by simp [u8s, List.map_take]
theorem u8s_dropP (l : List UInt8) (n : Nat) : (u8s l).drop n = u8s (l.drop n) := by simp [u8s, List.map_drop]
theorem backBad_spec (nx t t2 : Nat) (text sig : List UInt8) (hs : sig.length ≠ 4096) (ht : t < 2 ∨ t - 2 < nx) (ht2 : t2 < 2 ∨ t2 - 2 < nx) : FnSpec Tryz.prog 176 nx [.sl 1 (u8s text) t, .sl 1 (u8s sig) t2] [] (.tup [sumA zeroS, n64 11]) [] 0 := by
 refine FnSpec.of_code (cx := cx) (an := {}) (rs := [.cell 4 26, .tmp 5]) mo Tryz.func176 rfl rfl (by kernel_rfl) (by kernel_rfl) (by show 2 ≤ _; decide) (.inr ⟨_, rfl, by simp [AV.good, sumA]⟩) (by simp [allWr, keys, Res.wr]) ?_
 repeat' (first | omega | assumption | (show AL.ahead _ _ _ = true; rfl) | (first | apply brF | apply brT | apply brVF | apply brVT) <;> intro _ | (with_reducible refine And.intro ?_ ?_) | (simp -dsimp -implicitDefEqProofs only [go_sem]))
theorem backT_spec (nx t t2 : Nat) (text sig : List UInt8) (hx : text.length < 2 ^ 39) (hs : sig.length = 4096) (ht : t < 2 ∨ t - 2 < nx) (ht2 : t2 < 2 ∨ t2 - 2 < nx) : FnSpec Tryz.prog 176 nx [.sl 1 (u8s text) t, .sl 1 (u8s sig) t2] [] (.tup [sumA (backS text sig), n64 0]) [] 0 := by
 have hdg := fun nc (h : nx ≤ nc) => digest_spec nc t text hx (by omega)
 obtain ⟨d, hd⟩ : ∃ d, d = joinS 14 [text] := ⟨_, rfl⟩
 rw [← hd] at hdg
 obtain ⟨R, hR⟩ : ∃ R, R = backS text sig := ⟨_, rfl⟩
 rw [← hR]
 refine FnSpec.of_code (cx := cx) (an := {mt := [27]}) (rs := [.cell 4 26, .tmp 5]) mo Tryz.func176 rfl rfl (by kernel_rfl) (by kernel_rfl) (by show 2 ≤ _; decide) (.inr ⟨_, rfl, by simp [AV.good, sumA]⟩) (by simp [allWr, keys, Res.wr]) ?_
 repeat' (first | omega | assumption | (show AL.ahead _ _ _ = true; rfl) | (first | apply brF | apply brT | apply brVF | apply brVT) <;> intro _ | (with_reducible refine And.intro ?_ ?_) | (refine callK_by (hdg _ (by omega)) ?_) | (simp -dsimp -implicitDefEqProofs only [go_sem]))
 apply loop_keep [1, 4, 6] (fun i : { i : Nat // i ≤ 64 } => [(7, .sl 1 (u8s (backL d sig i.1)) (nx + 74)), (19, n64 i.1)]) (fun i => [(nx + 72, some (.tail (backL d sig i.1).length)), (nx + 56, some (.obj (sumA d))), (nx, some (.obj (sumA zeroS)))]) (fun i => 64 - i.1) ⟨0, Nat.zero_le _⟩
 ·simp -dsimp -implicitDefEqProofs only [go_sem]; try rfl
 ·simp -dsimp -implicitDefEqProofs only [go_sem, backL, u8s_nil]; try rfl
 ·simp -dsimp -implicitDefEqProofs only [go_sem, backL]; try rfl
 ·intro s
  simp -dsimp -implicitDefEqProofs only [go_sem]
  try omega
 ·rintro ⟨i, hi⟩
  have hi : i ≤ 64 := hi
  have hbl := backL_len d hs i hi
  simp -dsimp -implicitDefEqProofs only [go_sem]
  refine brT (fun h => ?_) (fun h => ?_)
  ·have hi2 : i < 64 := by omega
   have w1 : IntKind.i64.wrap ((i : Int) + 1) = ((i + 1 : Nat) : Int) := wrapE (by omega) (by omega)
   have w2 : IntKind.i64.wrap (64 * (i : Int)) = ((64 * i : Nat) : Int) := wrapE (by omega) (by omega)
   have w3 : IntKind.i64.wrap (((64 * i : Nat) : Int) + 32) = ((64 * i + 32 : Nat) : Int) := wrapE (by omega) (by omega)
   have w4 : IntKind.i64.wrap (((64 * i : Nat) : Int) + 64) = ((64 * i + 64 : Nat) : Int) := wrapE (by omega) (by omega)
   have hq := range_full ((sig.drop (64 * i)).take 32) (by rw [List.length_take, List.length_drop]; omega)
   have hq2 : sumOf ((sig.drop (64 * i)).take 32) = halfS sig i := rfl
   rw [hq2] at hq
   have hdl : 32 ≤ (List.drop (64 * i) sig).length := by rw [List.length_drop]; omega
   have ho := othL_len (i := i) hs hi2
   have ho2 : (sig.take (64 * i + 64)).drop (64 * i + 32) = othL sig i := rfl
   repeat' (first | omega | assumption | (show AL.ahead _ _ _ = true; rfl) | (first | apply brF | apply brT | apply brVF | apply brVT) <;> intro _ | (with_reducible refine And.intro ?_ ?_) | (refine callK_by (shown_spec _ (halfS sig i)) ?_) | (refine callK_by (bit_spec _ d i hi2) ?_) | (simp -dsimp -implicitDefEqProofs only [go_sem, w1, w2, w3, w4, hq, ho2, ho, u8s_takeP, u8s_dropP, List.take_length, sum_take, u8s_app]))
   all_goals
    rename_i hx
    have hb2 := backL_len d hs (i + 1) (by omega)
    have hb3 : backL d sig (i + 1) = backL d sig i ++ (if bitI d i = 0 then (shownS (halfS sig i)).b ++ othL sig i else othL sig i ++ (shownS (halfS sig i)).b) := rfl
   ·rw [if_pos hx] at hb3
    refine ⟨⟨i + 1, by omega⟩, by show 64 - (i + 1) < 64 - i; omega, ⟨?_, rfl⟩, ?_⟩
    ·simp only [hb3, List.append_assoc]
    ·simp only [hb2, hbl]; congr 2
   ·rw [if_neg hx] at hb3
    refine ⟨⟨i + 1, by omega⟩, by show 64 - (i + 1) < 64 - i; omega, ⟨?_, rfl⟩, ?_⟩
    ·simp only [hb3, List.append_assoc]
    ·simp only [hb2, hbl]; congr 2
  ·have e : i = 64 := by omega
   have hR2 : R = joinS 13 [backL d sig i] := by rw [hR, hd, e]; rfl
   rw [hR2]
   clear hR hR2
   generalize backL d sig i = L at *
   repeat' (first | omega | assumption | (show AL.ahead _ _ _ = true; rfl) | (first | apply brF | apply brT | apply brVF | apply brVT) <;> intro _ | (with_reducible refine And.intro ?_ ?_) | (refine callK_by (join1_spec _ 1 (nx + 74) 13 L (by omega) (by omega) (by omega)) ?_) | (simp -dsimp -implicitDefEqProofs only [go_sem]))
end Go.Proofs.YtaghcjbpjnpkbaaGreat

namespace Go.Proofs.YtaghcjbpjnpkbaaGreat
open Go Go.AL Go.Proofs.YtaghcjbpjnpkbaaGreat.T
attribute [local go_sem] nb_u8s u8s_length nb_sum sumA List.length_replicate u8_wrap take32 List.drop_zero zero_sum sum_h u8s_nil sums_len nb_sums
structure CS where
 at_ : Nat
 many : Nat
 now : Sum
 path : List Sum
noncomputable def stepC (s : CS) : Option CS :=
 if s.at_ ^^^ 1 < s.many then
  match s.path with
  | [] => none
  | a :: r => some ⟨s.at_ / 2, (s.many + 1) / 2, if s.at_ % 2 = 0 then pairS 2 s.now a else pairS 2 a s.now, r⟩
 else some ⟨s.at_ / 2, (s.many + 1) / 2, s.now, s.path⟩
theorem stepC_many {s s' : CS} (h : stepC s = some s') : s'.many = (s.many + 1) / 2 ∧ s'.at_ = s.at_ / 2 := by
 unfold stepC at h
 split at h
 ·split at h
  ·cases h
  ·injection h with h; subst h; exact ⟨rfl, rfl⟩
 ·injection h with h; subst h; exact ⟨rfl, rfl⟩
noncomputable def checkC (root : Sum) (s : CS) : Bool :=
 if h : 1 < s.many then
  match hs : stepC s with
  | none => false
  | some s' => checkC root s'
 else decide (s.path.length = 0) && eqB (sumA s.now) (sumA root)
termination_by s.many
decreasing_by
 have := (stepC_many hs).1
 omega
theorem checkC_end (root : Sum) (s : CS) (h : ¬ 1 < s.many) : checkC root s = (decide (s.path.length = 0) && eqB (sumA s.now) (sumA root)) := by
 rw [checkC, dif_neg h]
theorem checkC_none (root : Sum) (s : CS) (h : 1 < s.many) (hs : stepC s = none) : checkC root s = false := by
 rw [checkC, dif_pos h]
 split
 ·rfl
 ·rename_i h2; rw [hs] at h2; cases h2
theorem checkC_some (root : Sum) {s s' : CS} (h : 1 < s.many) (hs : stepC s = some s') : checkC root s = checkC root s' := by
 rw [checkC, dif_pos h]
 split
 ·rename_i h2; rw [hs] at h2; cases h2
 ·rename_i h2; rw [hs] at h2; injection h2 with h2; rw [h2]
theorem xor1 {a : Nat} (h : a < 2 ^ 62) : IntKind.i64.wrap ((BitVec.ofInt IntKind.i64.bits (a : Int) ^^^ BitVec.ofInt IntKind.i64.bits 1).toNat : Int) = ((a ^^^ 1 : Nat) : Int) := by
 have h1 : a ^^^ 1 < 2 ^ 62 := Nat.xor_lt_two_pow h (by decide)
 have e : (BitVec.ofInt IntKind.i64.bits (a : Int) ^^^ BitVec.ofInt IntKind.i64.bits 1).toNat = a ^^^ 1 := by
  rw [BitVec.toNat_xor]
  have e1 : (BitVec.ofInt IntKind.i64.bits (a : Int)).toNat = a := by
   rw [BitVec.toNat_ofInt]
   show (((a : Int) % ((2 ^ 64 : Nat) : Int)).toNat) = a
   omega
  have e2 : (BitVec.ofInt IntKind.i64.bits 1).toNat = 1 := by decide
  rw [e1, e2]
 rw [e]
 exact wrapE (by omega) (by omega)
theorem checkBad_spec (nx t : Nat) (root k : Sum) (a m : Int) (l : List Sum) (h : a < 0 ∨ m ≤ a ∨ 4096 < m) (ht : t < 2 ∨ t - 2 < nx) :
  FnSpec Tryz.prog 177 nx [sumA root, sumA k, n64 a, n64 m, .sl 32 (sumsA l) t] [] (bA false) [] 0 := by
 refine FnSpec.of_code (cx := cx) (an := {}) (rs := [.tmp 10]) mo Tryz.func177 rfl rfl (by kernel_rfl) (by kernel_rfl) (by show 5 ≤ _; decide) (.inl rfl) (by simp [allWr, keys, Res.wr]) ?_
 repeat' (first | omega | assumption | (show AL.ahead _ _ _ = true; rfl) | (first | apply brF | apply brT | apply brVF | apply brVT) <;> intro _ | (with_reducible refine And.intro ?_ ?_) | (simp -dsimp -implicitDefEqProofs only [go_sem]))
theorem check_spec (nx : Nat) (root k : Sum) (a m : Nat) (l : List Sum) (h1 : a < m) (h2 : m ≤ 4096) :
  FnSpec Tryz.prog 177 nx [sumA root, sumA k, n64 a, n64 m, .sl 32 (sumsA l) 0] [] (bA (checkC root ⟨a, m, leafS k, l⟩)) [] 0 := by
 obtain ⟨B, hB⟩ : ∃ B, B = checkC root ⟨a, m, leafS k, l⟩ := ⟨_, rfl⟩
 rw [← hB]
 refine FnSpec.of_code (cx := cx) (an := {}) (rs := [.tmp 10]) mo Tryz.func177 rfl rfl (by kernel_rfl) (by kernel_rfl) (by show 5 ≤ _; decide) (.inl rfl) (by simp [allWr, keys, Res.wr]) ?_
 repeat' (first | omega | assumption | (show AL.ahead _ _ _ = true; rfl) | (first | apply brF | apply brT | apply brVF | apply brVT) <;> intro _ | (with_reducible refine And.intro ?_ ?_) | (refine callK_by (leaf_spec _ k) ?_) | (simp -dsimp -implicitDefEqProofs only [go_sem]))
 apply loop_keep [5, 11] (fun s : { s : CS // s.at_ < s.many ∧ s.many ≤ 4096 ∧ checkC root s = B } => [(2, n64 s.1.at_), (3, n64 s.1.many), (4, .sl 32 (sumsA s.1.path) 0)]) (fun s => [(nx + 128, some (.obj (sumA s.1.now)))]) (fun s => s.1.many) ⟨⟨a, m, leafS k, l⟩, h1, h2, hB.symm⟩
 ·simp -dsimp -implicitDefEqProofs only [go_sem]; try rfl
 ·simp -dsimp -implicitDefEqProofs only [go_sem]; try rfl
 ·simp -dsimp -implicitDefEqProofs only [go_sem]; try rfl
 ·intro s
  simp -dsimp -implicitDefEqProofs only [go_sem]
  try omega
 ·rintro ⟨⟨x, c, now, p⟩, g1, g2, g3⟩
  simp only at g1 g2
  have q1 := xor1 (a := x) (by omega)
  have q2 : IntKind.i64.wrap ((x : Int).tdiv 2) = ((x / 2 : Nat) : Int) := by rw [IntKind.wrap_i64, Int.tdiv_eq_ediv_of_nonneg (by omega)]; omega
  have q3 : (x : Int).tmod 2 = ((x % 2 : Nat) : Int) := by rw [Int.tmod_eq_emod_of_nonneg (by omega)]; omega
  have q4 : IntKind.i64.wrap ((c : Int) + 1) = ((c + 1 : Nat) : Int) := wrapE (by omega) (by omega)
  have q5 : IntKind.i64.wrap (((c + 1 : Nat) : Int).tdiv 2) = (((c + 1) / 2 : Nat) : Int) := by rw [IntKind.wrap_i64, Int.tdiv_eq_ediv_of_nonneg (by omega)]; omega
  by_cases hc : 1 < c
  ·cases p with
   | nil =>
    repeat' (first | omega | assumption | (show AL.ahead _ _ _ = true; rfl) | (first | apply brF | apply brT | apply brVF | apply brVT) <;> intro _ | (with_reducible refine And.intro ?_ ?_) | (simp -dsimp -implicitDefEqProofs only [go_sem, q1, q2, q3, q4, q5, sumsA, List.map_nil]))
    all_goals rename_i hx
    ·rw [← g3, checkC_none root _ hc (by simp only [stepC]; rw [if_pos hx])]
    ·refine ⟨⟨⟨x / 2, (c + 1) / 2, now, []⟩, by show x / 2 < (c + 1) / 2; omega, by show (c + 1) / 2 ≤ 4096; omega, ?_⟩, by show (c + 1) / 2 < c; omega, ⟨rfl, rfl, rfl⟩, rfl⟩
     rw [← g3]
     exact (checkC_some root hc (by simp only [stepC]; rw [if_neg hx])).symm
   | cons y r =>
    repeat' (first | omega | assumption | (show AL.ahead _ _ _ = true; rfl) | (first | apply brF | apply brT | apply brVF | apply brVT) <;> intro _ | (with_reducible refine And.intro ?_ ?_) | (refine callK_by (pair_spec _ 2 _ _) ?_) | (simp -dsimp -implicitDefEqProofs only [go_sem, q1, q2, q3, q4, q5, sumsA, List.map_cons, List.drop_one, List.tail_cons, List.take_length]))
    ·rename_i hx _ hy
     refine ⟨⟨⟨x / 2, (c + 1) / 2, pairS 2 now y, r⟩, by show x / 2 < (c + 1) / 2; omega, by show (c + 1) / 2 ≤ 4096; omega, ?_⟩, by show (c + 1) / 2 < c; omega, ⟨rfl, rfl, rfl⟩, rfl⟩
     rw [← g3]
     exact (checkC_some root hc (by simp only [stepC]; rw [if_pos hx, if_pos (by omega)])).symm
    ·rename_i hx _ hy
     refine ⟨⟨⟨x / 2, (c + 1) / 2, pairS 2 y now, r⟩, by show x / 2 < (c + 1) / 2; omega, by show (c + 1) / 2 ≤ 4096; omega, ?_⟩, by show (c + 1) / 2 < c; omega, ⟨rfl, rfl, rfl⟩, rfl⟩
     rw [← g3]
     exact (checkC_some root hc (by simp only [stepC]; rw [if_pos hx, if_neg (by omega)])).symm
    ·rename_i hx
     refine ⟨⟨⟨x / 2, (c + 1) / 2, now, y :: r⟩, by show x / 2 < (c + 1) / 2; omega, by show (c + 1) / 2 ≤ 4096; omega, ?_⟩, by show (c + 1) / 2 < c; omega, ⟨rfl, rfl, rfl⟩, rfl⟩
     rw [← g3]
     exact (checkC_some root hc (by simp only [stepC]; rw [if_neg hx])).symm
  ·have hend := checkC_end root ⟨x, c, now, p⟩ hc
   rw [g3] at hend
   simp only at hend
   simp -dsimp -implicitDefEqProofs only [go_sem]
   refine brT (fun h => absurd h (by omega)) (fun h => ?_)
   repeat' (first | omega | assumption | (show AL.ahead _ _ _ = true; rfl) | (first | apply brF | apply brT | apply brVF | apply brVT) <;> intro _ | (with_reducible refine And.intro ?_ ?_) | (simp -dsimp -implicitDefEqProofs only [go_sem, ↓cmp_sum, isSumT, decide_eq_true_eq, Bool.and_self]))
   all_goals rw [hend]
   ·rename_i hx
    rw [decide_eq_true (by omega : p.length = 0), Bool.true_and]; rfl
   ·rename_i hx
    rw [decide_eq_false (by omega : ¬ p.length = 0), Bool.false_and]
end Go.Proofs.YtaghcjbpjnpkbaaGreat

namespace Go.Proofs.YtaghcjbpjnpkbaaGreat
open Go Go.AL Go.Proofs.YtaghcjbpjnpkbaaGreat.T
attribute [local go_sem] nb_u8s u8s_length nb_sum sumA List.length_replicate u8_wrap take32 List.drop_zero zero_sum sum_h u8s_nil sums_len nb_sums
noncomputable def verB (root : Sum) (text sig : List UInt8) : Bool :=
 if (readS sig).e = 0 ∧ (readS sig).one.length = 4096 ∧ (readS sig).at_ < (readS sig).leaves then checkC root ⟨(readS sig).at_.toNat, (readS sig).leaves.toNat, leafS (backS text (readS sig).one), (readS sig).path⟩ else false
theorem readS_rng (b : List UInt8) : 0 ≤ (readS b).at_ ∧ 0 ≤ (readS b).leaves ∧ (readS b).leaves ≤ 64 := by
 have h1 := uptoS_rng ⟨b, 0⟩ 64 (by decide)
 have h2 := uptoS_rng (uptoS ⟨b, 0⟩ 64).2 64 (by decide)
 exact ⟨h1.1, h2.1, h2.2⟩
theorem mver_spec (nx t t2 : Nat) (root : Sum) (text sig : List UInt8) (hx : text.length < 2 ^ 39) (hs : sig.length < 2 ^ 40) (ht : t < 2 ∨ t - 2 < nx) (ht2 : t2 = 0) :
  FnSpec Tryz.prog 155 nx [sumA root, .sl 1 (u8s text) t, .sl 1 (u8s sig) t2] [] (bA (verB root text sig)) [] 0 := by
 subst ht2
 have hrd := fun nc => read_spec nc sig hs
 have hrg := readS_rng sig
 have hvb : ∀ b, b = verB root text sig → (bA b = bA (verB root text sig)) := fun b h => by rw [h]
 unfold verB at hvb ⊢
 generalize readS sig = R at *
 by_cases he : R.e = 0
 ·simp only [he, if_true] at hrd
  by_cases ho : R.one.length = 4096
  ·have hbk := fun nc (h : nx ≤ nc) => backT_spec nc t 0 text R.one hx ho (by omega) (by omega)
   by_cases hc : R.at_ < R.leaves
   ·have hck := fun nc => check_spec nc root (backS text R.one) R.at_.toNat R.leaves.toNat R.path (by omega) (by omega)
    rw [Int.toNat_of_nonneg hrg.1, Int.toNat_of_nonneg hrg.2.1] at hck
    rw [if_pos ⟨he, ho, hc⟩]
    refine FnSpec.of_code (cx := cx) (an := {}) (rs := [.tmp 6]) mo Tryz.func155 rfl rfl (by kernel_rfl) (by kernel_rfl) (by show 3 ≤ _; decide) (.inl rfl) (by simp [allWr, keys, Res.wr]) ?_
    repeat' (first | omega | assumption | (show AL.ahead _ _ _ = true; rfl) | (first | apply brF | apply brT | apply brVF | apply brVT) <;> intro _ | (with_reducible refine And.intro ?_ ?_) | (refine callK_by (hrd _) ?_) | (refine callK_by (hbk _ (by omega)) ?_) | (refine callK_by (hck _) ?_) | (simp -dsimp -implicitDefEqProofs only [go_sem]))
   ·have hck := fun nc => checkBad_spec nc 0 root (backS text R.one) R.at_ R.leaves R.path (by omega) (by omega)
    rw [if_neg (fun h => hc h.2.2)]
    refine FnSpec.of_code (cx := cx) (an := {}) (rs := [.tmp 6]) mo Tryz.func155 rfl rfl (by kernel_rfl) (by kernel_rfl) (by show 3 ≤ _; decide) (.inl rfl) (by simp [allWr, keys, Res.wr]) ?_
    repeat' (first | omega | assumption | (show AL.ahead _ _ _ = true; rfl) | (first | apply brF | apply brT | apply brVF | apply brVT) <;> intro _ | (with_reducible refine And.intro ?_ ?_) | (refine callK_by (hrd _) ?_) | (refine callK_by (hbk _ (by omega)) ?_) | (refine callK_by (hck _) ?_) | (simp -dsimp -implicitDefEqProofs only [go_sem]))
  ·have hbk := fun nc (h : nx ≤ nc) => backBad_spec nc t 0 text R.one ho (by omega) (by omega)
   rw [if_neg (fun h => ho h.2.1)]
   refine FnSpec.of_code (cx := cx) (an := {}) (rs := [.tmp 6]) mo Tryz.func155 rfl rfl (by kernel_rfl) (by kernel_rfl) (by show 3 ≤ _; decide) (.inl rfl) (by simp [allWr, keys, Res.wr]) ?_
   repeat' (first | omega | assumption | (show AL.ahead _ _ _ = true; rfl) | (first | apply brF | apply brT | apply brVF | apply brVT) <;> intro _ | (with_reducible refine And.intro ?_ ?_) | (refine callK_by (hrd _) ?_) | (refine callK_by (hbk _ (by omega)) ?_) | (simp -dsimp -implicitDefEqProofs only [go_sem]))
 ·simp only [he, if_false] at hrd
  rw [if_neg (fun h => he h.1)]
  refine FnSpec.of_code (cx := cx) (an := {}) (rs := [.tmp 6]) mo Tryz.func155 rfl rfl (by kernel_rfl) (by kernel_rfl) (by show 3 ≤ _; decide) (.inl rfl) (by simp [allWr, keys, Res.wr]) ?_
  repeat' (first | omega | assumption | (show AL.ahead _ _ _ = true; rfl) | (first | apply brF | apply brT | apply brVF | apply brVT) <;> intro _ | (with_reducible refine And.intro ?_ ?_) | (refine callK_by (hrd _) ?_) | (simp -dsimp -implicitDefEqProofs only [go_sem]))
structure SRec where
 rec_ : Rec_
 sig : List UInt8
def srecA (x : SRec) : AV := .agg 68 [recA x.rec_, .sl 1 (u8s x.sig) 0]
noncomputable def goodB (root : Sum) (x : SRec) : Bool := decide (recR x.rec_) && verB root (recL x.rec_) x.sig
theorem rver_spec (nx : Nat) (root : Sum) (x : SRec) (hs : x.sig.length < 2 ^ 40) : FnSpec Tryz.prog 128 nx [sumA root, recA x.rec_, .sl 1 (u8s x.sig) 0] [] (bA (goodB root x)) [] 0 := by
 have h1 := flat_numI [x.rec_.tower, x.rec_.channel, x.rec_.state]
 simp only [List.length_cons, List.length_nil] at h1
 have hl : (recL x.rec_).length < 2 ^ 39 := by simp only [recL, List.length_append, sum_h]; omega
 have h2 := fun nc => recRight_spec nc x.rec_
 have h3 := fun nc => recText_spec nc x.rec_
 have h4 := fun nc => mver_spec nc 0 0 root (recL x.rec_) x.sig hl hs (by omega) rfl
 simp only [recA] at h2 h3
 unfold goodB
 refine FnSpec.of_code (cx := cx) (an := {}) (rs := [.tmp 6]) mo Tryz.func128 rfl rfl (by kernel_rfl) (by kernel_rfl) (by show 3 ≤ _; decide) (.inl rfl) (by simp [allWr, keys, Res.wr]) ?_
 repeat' (first | omega | assumption | (show AL.ahead _ _ _ = true; rfl) | (first | apply brF | apply brT | apply brVF | apply brVT) <;> intro _ | (with_reducible refine And.intro ?_ ?_) | (refine callK_by (h2 _) ?_) | (refine callK_by (h3 _) ?_) | (refine callK_by (h4 _) ?_) | (simp -dsimp -implicitDefEqProofs only [go_sem, recA]))
 ·rename_i hx
  rw [decide_eq_true hx, Bool.true_and]
 ·rename_i hx
  rw [decide_eq_false hx, Bool.false_and]
theorem good_spec (nx : Nat) (root : Sum) (x : SRec) (hs : x.sig.length < 2 ^ 40) : FnSpec Tryz.prog 84 nx [srecA x, sumA root] [] (bA (goodB root x)) [] 0 := by
 have h1 := fun nc => rver_spec nc root x hs
 simp only [recA] at h1
 refine FnSpec.of_code (cx := cx) (an := {}) (rs := [.tmp 4]) mo Tryz.func84 rfl rfl (by kernel_rfl) (by kernel_rfl) (by show 2 ≤ _; decide) (.inl rfl) (by simp [allWr, keys, Res.wr]) ?_
 repeat' (first | omega | assumption | (show AL.ahead _ _ _ = true; rfl) | (first | apply brF | apply brT | apply brVF | apply brVT) <;> intro _ | (with_reducible refine And.intro ?_ ?_) | (refine callK_by (h1 _) ?_) | (simp -dsimp -implicitDefEqProofs only [go_sem, srecA, recA]))
end Go.Proofs.YtaghcjbpjnpkbaaGreat

/-
  Are two outs alike? What is settled.
-/
import Derived.Test.YtaghcjbpjnpkbaaGreatEP81
import Derived.Test.YtaghcjbpjnpkbaaGreatEP20
set_option linter.unusedSimpArgs false
set_option linter.unusedVariables false
set_option maxRecDepth 100000
set_option maxHeartbeats 8000000
namespace Go.Proofs.YtaghcjbpjnpkbaaGreat
open Go Go.AL Go.Proofs.YtaghcjbpjnpkbaaGreat.T
attribute [local go_sem] nb_u8s u8s_length nb_sum List.length_replicate zero_sum sum_h u8s_nil nb_vals vals_len ways_len nb_ways wayA_good wayA_agg wayA_csz nb_way1
theorem eqInt_spec (nx t1 t2 : Nat) (a b : List Int) (ha : a.length < 2 ^ 40) (hb : b.length < 2 ^ 40) (h1 : t1 < 2 ∨ t1 - 2 < nx) (h2 : t2 < 2 ∨ t2 - 2 < nx) : FnSpec Tryz.prog 171 nx [.sl 1 (vals .i64 a) t1, .sl 1 (vals .i64 b) t2] [] (bA (decide (a = b))) [] 0 := by
  by_cases hl : a.length = b.length
  · have e1 : ((a.length : Int) = (b.length : Int)) = True := eq_true (by omega)
    refine FnSpec.of_code (cx := cx) (an := {}) (rs := [.tmp 4]) mo Tryz.func171 rfl rfl (by kernel_rfl) (by kernel_rfl) (by show 2 ≤ _; decide) (.inl rfl) (by simp [allWr, keys, Res.wr]) ?_
    repeat' (first | omega | assumption | (show AL.ahead _ _ _ = true; rfl) | (first | apply brF | apply brT | apply brVF | apply brVT) <;> intro _ | (with_reducible refine And.intro ?_ ?_) | (simp -dsimp -implicitDefEqProofs only [go_sem, e1]))
    apply loop_keep [0, 1, 12] (fun p : { p : Nat // p ≤ a.length ∧ ∀ j, j < p → a.getD j 0 = b.getD j 0 } => [(13, n64 p.1)]) (fun _ => []) (fun p => a.length - p.1) ⟨0, Nat.zero_le _, fun _ h => absurd h (Nat.not_lt_zero _)⟩
    · simp -dsimp -implicitDefEqProofs only [go_sem]; try rfl
    · simp -dsimp -implicitDefEqProofs only [go_sem]; try rfl
    · simp -dsimp -implicitDefEqProofs only [go_sem]; try rfl
    · intro s
      simp -dsimp -implicitDefEqProofs only [go_sem]
      try omega
    · rintro ⟨i, hi, hall⟩
      have hi : i ≤ a.length := hi
      simp -dsimp -implicitDefEqProofs only [go_sem]
      refine brT (fun hc => ?_) (fun hc => ?_)
      · have hi2 : i < a.length := by omega
        have hi3 : i < b.length := by omega
        have q1 := vals_get (k := .i64) hi2
        have q2 := vals_get (k := .i64) hi3
        have w1 : IntKind.i64.wrap ((i : Int) + 1) = ((i + 1 : Nat) : Int) := wrapE (by omega) (by omega)
        by_cases e : a.getD i 0 = b.getD i 0
        · have e2 : (a.getD i 0 = b.getD i 0) = True := eq_true e
          repeat' (first | omega | assumption | (show AL.ahead _ _ _ = true; rfl) | (first | apply brF | apply brT | apply brVF | apply brVT) <;> intro _ | (with_reducible refine And.intro ?_ ?_) | (simp -dsimp -implicitDefEqProofs only [go_sem, q1, q2, w1, e2]))
          all_goals first
            | exact ⟨⟨i + 1, hi2, fun j hj => by
                  by_cases e3 : j = i
                  · subst e3; exact e
                  · exact hall j (by omega)⟩, by show a.length - (i + 1) < a.length - i; omega, rfl⟩
           
        · have e2 : (a.getD i 0 = b.getD i 0) = False := eq_false e
          have e4 : decide (a = b) = false := decide_eq_false (fun q => e (by rw [q]))
          rw [e4]
          repeat' (first | omega | assumption | (show AL.ahead _ _ _ = true; rfl) | (first | apply brF | apply brT | apply brVF | apply brVT) <;> intro _ | (with_reducible refine And.intro ?_ ?_) | (simp -dsimp -implicitDefEqProofs only [go_sem, q1, q2, w1, e2]))
          all_goals rfl
      · have e : i = a.length := by omega
        have e4 : decide (a = b) = true := decide_eq_true (List.ext_getElem hl fun j hj hk => by
          have := hall j (by omega)
          rwa [List.getD_eq_getElem?_getD, List.getD_eq_getElem?_getD, List.getElem?_eq_getElem hj, List.getElem?_eq_getElem hk] at this)
        rw [e4]
        repeat' (first | omega | assumption | (show AL.ahead _ _ _ = true; rfl) | (first | apply brF | apply brT | apply brVF | apply brVT) <;> intro _ | (with_reducible refine And.intro ?_ ?_) | (simp -dsimp -implicitDefEqProofs only [go_sem]))
        all_goals rfl
  · have e1 : ((a.length : Int) = (b.length : Int)) = False := eq_false (by omega)
    have e4 : decide (a = b) = false := decide_eq_false (fun q => hl (by rw [q]))
    rw [e4]
    refine FnSpec.of_code (cx := cx) (an := {}) (rs := [.tmp 4]) mo Tryz.func171 rfl rfl (by kernel_rfl) (by kernel_rfl) (by show 2 ≤ _; decide) (.inl rfl) (by simp [allWr, keys, Res.wr]) ?_
    repeat' (first | omega | assumption | (show AL.ahead _ _ _ = true; rfl) | (first | apply brF | apply brT | apply brVF | apply brVT) <;> intro _ | (with_reducible refine And.intro ?_ ?_) | (simp -dsimp -implicitDefEqProofs only [go_sem, e1]))
    all_goals rfl
noncomputable def eqT {α : Type} (a b : α) : Bool := @decide (a = b) (Classical.propDecidable _)
theorem eqT_t {α : Type} {a b : α} (h : a = b) : eqT a b = true := @decide_eq_true _ (Classical.propDecidable _) h
theorem eqT_f {α : Type} {a b : α} (h : a ≠ b) : eqT a b = false := @decide_eq_false _ (Classical.propDecidable _) h
theorem sameWay_spec (nx : Nat) (w v : Way_) (h1 : w.keys.length < 2 ^ 40) (h2 : v.keys.length < 2 ^ 40) : FnSpec Tryz.prog 170 nx [wayA w, wayA v] [] (bA (eqT w v)) [] 0 := by
  obtain ⟨wk, wh, wa, ww⟩ := w
  obtain ⟨vk, vh, va, vw⟩ := v
  simp only at h1 h2
  have he := fun nc => eqInt_spec nc 0 0 wk vk h1 h2 (.inl (by omega)) (.inl (by omega))
  by_cases c1 : wk = vk
  · rw [decide_eq_true c1] at he
    by_cases c2 : wh = vh
    · have e2 : eqB (AV.vec 1 (u8s wh.b)) (AV.vec 1 (u8s vh.b)) = true := by rw [c2]; exact eqB_yes rfl
      by_cases c3 : wa = va
      · by_cases c4 : ww = vw
        · rw [eqT_t (by rw [c1, c2, c3, c4])]
          refine FnSpec.of_code (cx := cx) (an := {}) (rs := [.tmp 4]) mo Tryz.func170 rfl rfl (by kernel_rfl) (by kernel_rfl) (by show 2 ≤ _; decide) (.inl rfl) (by simp [allWr, keys, Res.wr]) ?_
          repeat' (first | omega | assumption | (show AL.ahead _ _ _ = true; rfl) | (first | apply brF | apply brT | apply brVF | apply brVT) <;> intro _ | (with_reducible refine And.intro ?_ ?_) | (refine callK_by (he _) ?_) | (simp -dsimp -implicitDefEqProofs only [go_sem, wayA, sumA, e2, c3, c4, ↓cmp_sum, isSumT]))
          all_goals rfl
        · rw [eqT_f (fun q => c4 (by injection q))]
          refine FnSpec.of_code (cx := cx) (an := {}) (rs := [.tmp 4]) mo Tryz.func170 rfl rfl (by kernel_rfl) (by kernel_rfl) (by show 2 ≤ _; decide) (.inl rfl) (by simp [allWr, keys, Res.wr]) ?_
          repeat' (first | omega | assumption | (show AL.ahead _ _ _ = true; rfl) | (first | apply brF | apply brT | apply brVF | apply brVT) <;> intro _ | (with_reducible refine And.intro ?_ ?_) | (refine callK_by (he _) ?_) | (simp -dsimp -implicitDefEqProofs only [go_sem, wayA, sumA, e2, c3, c4, ↓cmp_sum, isSumT]))
          all_goals rfl
      · rw [eqT_f (fun q => c3 (by injection q))]
        refine FnSpec.of_code (cx := cx) (an := {}) (rs := [.tmp 4]) mo Tryz.func170 rfl rfl (by kernel_rfl) (by kernel_rfl) (by show 2 ≤ _; decide) (.inl rfl) (by simp [allWr, keys, Res.wr]) ?_
        repeat' (first | omega | assumption | (show AL.ahead _ _ _ = true; rfl) | (first | apply brF | apply brT | apply brVF | apply brVT) <;> intro _ | (with_reducible refine And.intro ?_ ?_) | (refine callK_by (he _) ?_) | (simp -dsimp -implicitDefEqProofs only [go_sem, wayA, sumA, e2, c3, ↓cmp_sum, isSumT]))
        all_goals rfl
    · have e2 : eqB (AV.vec 1 (u8s wh.b)) (AV.vec 1 (u8s vh.b)) = false := eqB_no (fun q => c2 (sumA_inj _ _ q))
      rw [eqT_f (fun q => c2 (by injection q))]
      refine FnSpec.of_code (cx := cx) (an := {}) (rs := [.tmp 4]) mo Tryz.func170 rfl rfl (by kernel_rfl) (by kernel_rfl) (by show 2 ≤ _; decide) (.inl rfl) (by simp [allWr, keys, Res.wr]) ?_
      repeat' (first | omega | assumption | (show AL.ahead _ _ _ = true; rfl) | (first | apply brF | apply brT | apply brVF | apply brVT) <;> intro _ | (with_reducible refine And.intro ?_ ?_) | (refine callK_by (he _) ?_) | (simp -dsimp -implicitDefEqProofs only [go_sem, wayA, sumA, e2, ↓cmp_sum, isSumT]))
      all_goals rfl
  · rw [decide_eq_false c1] at he
    rw [eqT_f (fun q => c1 (by injection q))]
    refine FnSpec.of_code (cx := cx) (an := {}) (rs := [.tmp 4]) mo Tryz.func170 rfl rfl (by kernel_rfl) (by kernel_rfl) (by show 2 ≤ _; decide) (.inl rfl) (by simp [allWr, keys, Res.wr]) ?_
    repeat' (first | omega | assumption | (show AL.ahead _ _ _ = true; rfl) | (first | apply brF | apply brT | apply brVF | apply brVT) <;> intro _ | (with_reducible refine And.intro ?_ ?_) | (refine callK_by (he _) ?_) | (simp -dsimp -implicitDefEqProofs only [go_sem, wayA, sumA]))
    all_goals rfl
theorem eqWays_spec (nx : Nat) (a b : List Way_) (ha : a.length < 2 ^ 40) (hb : b.length < 2 ^ 40) (hk : ∀ w ∈ a, w.keys.length < 2 ^ 40) (hk2 : ∀ w ∈ b, w.keys.length < 2 ^ 40) :
    FnSpec Tryz.prog 169 nx [.sl 35 (waysA a) 0, .sl 35 (waysA b) 0, .clos 170 []] [] (bA (eqT a b)) [] 0 := by
  by_cases hl : a.length = b.length
  · have e1 : ((a.length : Int) = (b.length : Int)) = True := eq_true (by omega)
    refine FnSpec.of_code (cx := cx) (an := {}) (rs := [.tmp 6]) mo Tryz.func169 rfl rfl (by kernel_rfl) (by kernel_rfl) (by show 3 ≤ _; decide) (.inl rfl) (by simp [allWr, keys, Res.wr]) ?_
    repeat' (first | omega | assumption | (show AL.ahead _ _ _ = true; rfl) | (first | apply brF | apply brT | apply brVF | apply brVT) <;> intro _ | (with_reducible refine And.intro ?_ ?_) | (simp -dsimp -implicitDefEqProofs only [go_sem, e1]))
    apply loop_keep [1, 2, 15, 16] (fun p : { p : Nat // p ≤ a.length ∧ ∀ j, j < p → a[j]? = b[j]? } => [(17, n64 p.1)]) (fun _ => []) (fun p => a.length - p.1) ⟨0, Nat.zero_le _, fun _ h => absurd h (Nat.not_lt_zero _)⟩
    · simp -dsimp -implicitDefEqProofs only [go_sem]; try rfl
    · simp -dsimp -implicitDefEqProofs only [go_sem]; try rfl
    · simp -dsimp -implicitDefEqProofs only [go_sem]; try rfl
    · intro s
      simp -dsimp -implicitDefEqProofs only [go_sem]
      try omega
    · rintro ⟨i, hi, hall⟩
      have hi : i ≤ a.length := hi
      simp -dsimp -implicitDefEqProofs only [go_sem]
      refine brT (fun hc => ?_) (fun hc => ?_)
      · have hi2 : i < a.length := by omega
        have hi3 : i < b.length := by omega
        have q1 := ways_get hi2
        have q2 := ways_get hi3
        have k1 := hk _ (List.getElem_mem hi2)
        have k2 := hk2 _ (List.getElem_mem hi3)
        have w1 : IntKind.i64.wrap ((i : Int) + 1) = ((i + 1 : Nat) : Int) := wrapE (by omega) (by omega)
        have hw := fun nc => sameWay_spec nc a[i] b[i] k1 k2
        have g1 : a[i]? = some a[i] := List.getElem?_eq_getElem hi2
        have g2 : b[i]? = some b[i] := List.getElem?_eq_getElem hi3
        by_cases e : a[i] = b[i]
        · rw [eqT_t e] at hw
          repeat' (first | omega | assumption | (show AL.ahead _ _ _ = true; rfl) | (first | apply brF | apply brT | apply brVF | apply brVT) <;> intro _ | (with_reducible refine And.intro ?_ ?_) | (refine callK_by (hw _) ?_) | (simp -dsimp -implicitDefEqProofs only [go_sem, q1, q2, w1]))
          all_goals first
            | exact ⟨⟨i + 1, hi2, fun j hj => by
                  by_cases e3 : j = i
                  · subst e3; rw [g1, g2, e]
                  · exact hall j (by omega)⟩, by show a.length - (i + 1) < a.length - i; omega, rfl⟩
           
        · rw [eqT_f e] at hw
          have e4 : eqT a b = false := eqT_f (fun q => e (by have : a[i]? = b[i]? := by rw [q]
                                                             rw [g1, g2] at this; injection this))
          rw [e4]
          repeat' (first | omega | assumption | (show AL.ahead _ _ _ = true; rfl) | (first | apply brF | apply brT | apply brVF | apply brVT) <;> intro _ | (with_reducible refine And.intro ?_ ?_) | (refine callK_by (hw _) ?_) | (simp -dsimp -implicitDefEqProofs only [go_sem, q1, q2, w1]))
          all_goals rfl
      · have e : i = a.length := by omega
        have e4 : eqT a b = true := eqT_t (List.ext_getElem? fun j => by
          by_cases hj : j < a.length
          · exact hall j (by omega)
          · rw [List.getElem?_eq_none (by omega), List.getElem?_eq_none (by omega)])
        rw [e4]
        repeat' (first | omega | assumption | (show AL.ahead _ _ _ = true; rfl) | (first | apply brF | apply brT | apply brVF | apply brVT) <;> intro _ | (with_reducible refine And.intro ?_ ?_) | (simp -dsimp -implicitDefEqProofs only [go_sem]))
        all_goals rfl
  · have e1 : ((a.length : Int) = (b.length : Int)) = False := eq_false (by omega)
    rw [eqT_f (fun q => hl (by rw [q]))]
    refine FnSpec.of_code (cx := cx) (an := {}) (rs := [.tmp 6]) mo Tryz.func169 rfl rfl (by kernel_rfl) (by kernel_rfl) (by show 3 ≤ _; decide) (.inl rfl) (by simp [allWr, keys, Res.wr]) ?_
    repeat' (first | omega | assumption | (show AL.ahead _ _ _ = true; rfl) | (first | apply brF | apply brT | apply brVF | apply brVT) <;> intro _ | (with_reducible refine And.intro ?_ ?_) | (simp -dsimp -implicitDefEqProofs only [go_sem, e1]))
    all_goals rfl
theorem sameOut_spec (nx : Nat) (o p : Out_) (ha : o.ways.length < 2 ^ 40) (hb : p.ways.length < 2 ^ 40) (hk : ∀ w ∈ o.ways, w.keys.length < 2 ^ 40) (hk2 : ∀ w ∈ p.ways, w.keys.length < 2 ^ 40) : FnSpec Tryz.prog 145 nx [outA o, outA p] [] (bA (eqT o p)) [] 0 := by
  obtain ⟨oa, ow⟩ := o
  obtain ⟨pa, pw⟩ := p
  simp only at ha hb hk hk2
  have he := fun nc => eqWays_spec nc ow pw ha hb hk hk2
  by_cases c1 : oa = pa
  · by_cases c2 : ow = pw
    · rw [eqT_t c2] at he
      rw [eqT_t (by rw [c1, c2])]
      refine FnSpec.of_code (cx := cx) (an := {}) (rs := [.tmp 4]) mo Tryz.func145 rfl rfl (by kernel_rfl) (by kernel_rfl) (by show 2 ≤ _; decide) (.inl rfl) (by simp [allWr, keys, Res.wr]) ?_
      repeat' (first | omega | assumption | (show AL.ahead _ _ _ = true; rfl) | (first | apply brF | apply brT | apply brVF | apply brVT) <;> intro _ | (with_reducible refine And.intro ?_ ?_) | (refine callK_by (he _) ?_) | (simp -dsimp -implicitDefEqProofs only [go_sem, outA, c1]))
      all_goals rfl
    · rw [eqT_f c2] at he
      rw [eqT_f (fun q => c2 (by injection q))]
      refine FnSpec.of_code (cx := cx) (an := {}) (rs := [.tmp 4]) mo Tryz.func145 rfl rfl (by kernel_rfl) (by kernel_rfl) (by show 2 ≤ _; decide) (.inl rfl) (by simp [allWr, keys, Res.wr]) ?_
      repeat' (first | omega | assumption | (show AL.ahead _ _ _ = true; rfl) | (first | apply brF | apply brT | apply brVF | apply brVT) <;> intro _ | (with_reducible refine And.intro ?_ ?_) | (refine callK_by (he _) ?_) | (simp -dsimp -implicitDefEqProofs only [go_sem, outA, c1]))
      all_goals rfl
  · rw [eqT_f (fun q => c1 (by injection q))]
    refine FnSpec.of_code (cx := cx) (an := {}) (rs := [.tmp 4]) mo Tryz.func145 rfl rfl (by kernel_rfl) (by kernel_rfl) (by show 2 ≤ _; decide) (.inl rfl) (by simp [allWr, keys, Res.wr]) ?_
    repeat' (first | omega | assumption | (show AL.ahead _ _ _ = true; rfl) | (first | apply brF | apply brT | apply brVF | apply brVT) <;> intro _ | (with_reducible refine And.intro ?_ ?_) | (simp -dsimp -implicitDefEqProofs only [go_sem, outA, c1]))
    all_goals rfl
end Go.Proofs.YtaghcjbpjnpkbaaGreat

namespace Go.Proofs.YtaghcjbpjnpkbaaGreat
open Go Go.AL Go.Proofs.YtaghcjbpjnpkbaaGreat.T
noncomputable def setlF (t : Tx_) (h : Int) (ts : List (Int × Tw_)) (hs : List ((Int × Int) × Hold_)) : Int × Int :=
 if (settleF t.op.tower t.op.channel h ts hs).1.2 ≠ 0 then (0, (settleF t.op.tower t.op.channel h ts hs).1.2)
 else match t.outs with
  | [] => (0, 14)
  | o :: _ => if eqT o (toO (hdO t.op.tower t.op.channel hs).chan.client (settleF t.op.tower t.op.channel h ts hs).1.1) = true then ((settleF t.op.tower t.op.channel h ts hs).1.1, 0) else (0, 14)
attribute [local go_sem] nb_u8s u8s_length nb_sum List.length_replicate zero_sum sum_h u8s_nil txA_good txA_csz txA_agg nb_tx tA_len tA_p1 tA_off1 holdA_good holdA_agg holdA_csz nbK_int nbK_pair nbV_tow nbV_hold nb_tow nb_hold outA_good outA_agg outA_csz nb_out1 nb_outs outs_len
theorem setl_spec (nx l b tm hm : Nat) (ts : List (Int × Tw_)) (hs : List ((Int × Int) × Hold_)) (hl : l < nx) (hb : b < nx) (ht : tm < nx) (hh : hm < nx) (h1 : b < tm) (h2 : tm < hm) (t : Tx_) (h : Int) (ho : t.outs.length < 2 ^ 40) (hL : ∀ o ∈ t.outs, o.ways.length < 2 ^ 40 ∧ ∀ w ∈ o.ways, w.keys.length < 2 ^ 40) :
  FnSpec Tryz.prog 108 nx [.ref l 0 [], .ref b 0 [], txA t, n64 h] [(b, some (.robj (boardA tm hm))), (tm, some (.mp (towsE ts))), (hm, some (.mp (holdsE hs)))] (.tup [n64 0, n64 (setlF t h ts hs).1, n64 (setlF t h ts hs).2]) [(tm, some (.mp (towsE (settleF t.op.tower t.op.channel h ts hs).2.1))), (hm, some (.mp (holdsE (settleF t.op.tower t.op.channel h ts hs).2.2)))] 0 := by
 have x1 := ltF hb
 have x2 := ltF ht
 have x3 := ltF hh
 have y1 := neF (show b ≠ tm by omega)
 have y2 := neF (show b ≠ hm by omega)
 have y3 := neF (show tm ≠ hm by omega)
 have hd := fun nc (q1 : b < nc) (q2 : hm < nc) => bholds_spec nc b tm hm hs t.op.tower t.op.channel q1 q2 (by omega)
 simp only [optH_eq] at hd
 have hst := fun nc (q : nx ≤ nc) => bsettle_spec nc b tm hm ts hs (by omega) (by omega) (by omega) h1 h2 t.op.tower t.op.channel h
 obtain ⟨R, hR⟩ : ∃ R, R = settleF t.op.tower t.op.channel h ts hs := ⟨_, rfl⟩
 have hto := fun nc => to_spec nc (hdO t.op.tower t.op.channel hs).chan.client R.1.1
 have hF : setlF t h ts hs = if R.1.2 ≠ 0 then (0, R.1.2) else match t.outs with
  | [] => (0, 14)
  | o :: _ => if eqT o (toO (hdO t.op.tower t.op.channel hs).chan.client R.1.1) = true then (R.1.1, 0) else (0, 14) := by rw [hR]; rfl
 rw [hF, ← hR]
 rw [← hR] at hst
 clear hF
 by_cases c1 : R.1.2 = 0
 ·rw [if_neg (fun q => q c1)]
  rw [c1] at hst
  obtain ⟨ins, outs, op, sg⟩ := t
  simp only at *
  cases outs with
  | nil =>
   refine FnSpec.of_code (cx := cx) (an := {}) (rs := [.tmp 8, .tmp 9, .tmp 10]) mo Tryz.func108 rfl rfl (by kernel_rfl) (by kernel_rfl) (by show 4 ≤ _; decide) (.inr ⟨_, rfl, by simp [AV.good]⟩) (by simp [allWr, keys, Res.wr]) ?_
   repeat' (first | omega | assumption | (show AL.ahead _ _ _ = true; rfl) | (first | apply brF | apply brT | apply brVF | apply brVT) <;> intro _ | (with_reducible refine And.intro ?_ ?_) | (refine callK_by (hd _ (by omega) (by omega)) ?_) | (refine callK_by (hst _ (by omega)) ?_) | (simp -dsimp -implicitDefEqProofs only [go_sem, x1, x2, x3, y1, y2, y3, txA, outsA, List.map_nil, List.length_nil, opT, holdA, chanA, refA]))
   all_goals rfl
  | cons o r =>
   obtain ⟨a1, a2⟩ := hL o (by simp)
   have hsm := fun nc => sameOut_spec nc o (toO (hdO op.tower op.channel hs).chan.client R.1.1) a1 (by simp [toO]) a2 (fun w hw => by simp [toO] at hw; subst hw; simp)
   have e0 : ¬ (((r.length + 1 : Nat) : Int) = 0) := by omega
   rcases Bool.eq_false_or_eq_true (eqT o (toO (hdO op.tower op.channel hs).chan.client R.1.1)) with c2 | c2
   ·dsimp only
    rw [if_pos c2]
    rw [c2] at hsm
    refine FnSpec.of_code (cx := cx) (an := {}) (rs := [.tmp 8, .tmp 9, .tmp 10]) mo Tryz.func108 rfl rfl (by kernel_rfl) (by kernel_rfl) (by show 4 ≤ _; decide) (.inr ⟨_, rfl, by simp [AV.good]⟩) (by simp [allWr, keys, Res.wr]) ?_
    repeat' (first | omega | assumption | (show AL.ahead _ _ _ = true; rfl) | (first | apply brF | apply brT | apply brVF | apply brVT) <;> intro _ | (with_reducible refine And.intro ?_ ?_) | (refine callK_by (hd _ (by omega) (by omega)) ?_) | (refine callK_by (hst _ (by omega)) ?_) | (refine callK_by (hto _) ?_) | (refine callK_by (hsm _) ?_) | (simp -dsimp -implicitDefEqProofs only [go_sem, x1, x2, x3, y1, y2, y3, txA, outsA, List.map_cons, List.length_cons, List.length_map, List.getD_cons_zero, e0, opT, holdA, chanA, refA]))
    all_goals rfl
   ·dsimp only
    rw [if_neg (by rw [c2]; decide)]
    rw [c2] at hsm
    refine FnSpec.of_code (cx := cx) (an := {}) (rs := [.tmp 8, .tmp 9, .tmp 10]) mo Tryz.func108 rfl rfl (by kernel_rfl) (by kernel_rfl) (by show 4 ≤ _; decide) (.inr ⟨_, rfl, by simp [AV.good]⟩) (by simp [allWr, keys, Res.wr]) ?_
    repeat' (first | omega | assumption | (show AL.ahead _ _ _ = true; rfl) | (first | apply brF | apply brT | apply brVF | apply brVT) <;> intro _ | (with_reducible refine And.intro ?_ ?_) | (refine callK_by (hd _ (by omega) (by omega)) ?_) | (refine callK_by (hst _ (by omega)) ?_) | (refine callK_by (hto _) ?_) | (refine callK_by (hsm _) ?_) | (simp -dsimp -implicitDefEqProofs only [go_sem, x1, x2, x3, y1, y2, y3, txA, outsA, List.map_cons, List.length_cons, List.length_map, List.getD_cons_zero, e0, opT, holdA, chanA, refA]))
    all_goals rfl
 ·rw [if_pos c1]
  refine FnSpec.of_code (cx := cx) (an := {}) (rs := [.tmp 8, .tmp 9, .tmp 10]) mo Tryz.func108 rfl rfl (by kernel_rfl) (by kernel_rfl) (by show 4 ≤ _; decide) (.inr ⟨_, rfl, by simp [AV.good]⟩) (by simp [allWr, keys, Res.wr]) ?_
  repeat' (first | omega | assumption | (show AL.ahead _ _ _ = true; rfl) | (first | apply brF | apply brT | apply brVF | apply brVT) <;> intro _ | (with_reducible refine And.intro ?_ ?_) | (refine callK_by (hd _ (by omega) (by omega)) ?_) | (refine callK_by (hst _ (by omega)) ?_) | (simp -dsimp -implicitDefEqProofs only [go_sem, x1, x2, x3, y1, y2, y3, oA_p2, oA_off2, opT, holdA, chanA, refA, c1]))
  all_goals rfl
end Go.Proofs.YtaghcjbpjnpkbaaGreat

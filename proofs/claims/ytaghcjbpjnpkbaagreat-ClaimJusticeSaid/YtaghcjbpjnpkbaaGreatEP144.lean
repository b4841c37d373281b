/-
 Which transactions are small: the walk.
-/
import Derived.Test.YtaghcjbpjnpkbaaGreatEP122
import Derived.Test.YtaghcjbpjnpkbaaGreatEP56
set_option linter.unusedSimpArgs false
set_option linter.unusedVariables false
set_option maxRecDepth 100000
set_option maxHeartbeats 8000000
namespace Go.Proofs.YtaghcjbpjnpkbaaGreat
open Go Go.AL Go.Proofs.YtaghcjbpjnpkbaaGreat.T
section
open Classical
noncomputable def smE (t : Tx_) : Int := if smallT t then 0 else 1
end
theorem smE_y {t : Tx_} (h : smallT t) : smE t = 0 := if_pos h
theorem smE_n {t : Tx_} (h : ¬ smallT t) : smE t = 1 := if_neg h
attribute [local go_sem] nb_u8s u8s_length nb_sum List.length_replicate zero_sum sum_h u8s_nil sum_csz sum_agg sumA_good outs_len nb_outs nb_out1 outA_good outA_agg outA_csz txA_good txA_csz txA_agg nb_tx ins_len nb_ins signs_len nb_signs ways_len nb_ways nb_vals vals_len nb_ref refA_good refA_agg refA_csz
theorem small8_spec (nx : Nat) (t : Tx_) : FnSpec Tryz.prog 14 nx [txA t] [] (n64 (smE t)) [] 0 := by
 obtain ⟨R, hR⟩ : ∃ R, R = smE t := ⟨_, rfl⟩
 rw [← hR]
 have hy : smallT t → R = 0 := fun h => by rw [hR, smE_y h]
 have hn : ¬ smallT t → R = 1 := fun h => by rw [hR, smE_n h]
 clear hR
 by_cases h1 : t.ins.length ≤ 20
 ·have e1 : ((20 : Int) < (t.ins.length : Int)) = False := eq_false (by omega)
  by_cases h2 : t.outs.length ≤ 20
  ·have e2 : ((20 : Int) < (t.outs.length : Int)) = False := eq_false (by omega)
   by_cases h3 : t.signs.length ≤ 20
   ·have e3 : ((20 : Int) < (t.signs.length : Int)) = False := eq_false (by omega)
    by_cases h4 : t.op.data.length ≤ 6000
    ·have e4 : ((6000 : Int) < (t.op.data.length : Int)) = False := eq_false (by omega)
     refine FnSpec.of_code (cx := cx) (an := {}) (rs := [.tmp 2]) mo Tryz.func14 rfl rfl (by kernel_rfl) (by kernel_rfl) (by show 1 ≤ _; decide) (.inl rfl) (by simp [allWr, keys, Res.wr]) ?_
     repeat' (first | omega | assumption | (show AL.ahead _ _ _ = true; rfl) | (first | apply brF | apply brT | apply brVF | apply brVT) <;> intro _ | (with_reducible refine And.intro ?_ ?_) | (simp -dsimp -implicitDefEqProofs only [go_sem, txA, opT, gt_iff_lt, e1, e2, e3, e4]))
     apply loop_keep [1] (fun i : { i : Nat // i ≤ t.ins.length ∧ ∀ k (hk : k < i) (h2 : k < t.ins.length), t.ins[k].pre.length ≤ 100 } => [(3, n64 i.1)]) (fun _ => []) (fun i => t.ins.length - i.1) ⟨0, Nat.zero_le _, fun k hk => absurd hk (by omega)⟩
     ·simp -dsimp -implicitDefEqProofs only [go_sem]; try rfl
     ·simp -dsimp -implicitDefEqProofs only [go_sem]; try rfl
     ·simp -dsimp -implicitDefEqProofs only [go_sem]; try rfl
     ·intro s
      simp -dsimp -implicitDefEqProofs only [go_sem]
      try omega
     ·rintro ⟨i, hi, hall⟩
      have hi : i ≤ t.ins.length := hi
      simp -dsimp -implicitDefEqProofs only [go_sem]
      refine brT (fun hc => ?_) (fun hc => ?_)
      ·have hi2 : i < t.ins.length := by omega
       have q1 := ins_get hi2
       have w1 : IntKind.i64.wrap ((i : Int) + 1) = ((i + 1 : Nat) : Int) := wrapE (by omega) (by omega)
       by_cases h5 : t.ins[i].pre.length ≤ 100
       ·have hall2 : ∀ k (hk : k < i + 1) (h2 : k < t.ins.length), t.ins[k].pre.length ≤ 100 := fun k hk h2 => by
         by_cases e : k = i
         ·subst e; exact h5
         ·exact hall k (by omega) h2
        generalize t.ins[i] = y at *
        have e5 : ((100 : Int) < (y.pre.length : Int)) = False := eq_false (by omega)
        repeat' (first | omega | assumption | (show AL.ahead _ _ _ = true; rfl) | (first | apply brF | apply brT | apply brVF | apply brVT) <;> intro _ | (with_reducible refine And.intro ?_ ?_) | (simp -dsimp -implicitDefEqProofs only [go_sem, q1, w1, inA, gt_iff_lt, e5]))
        all_goals first | exact ⟨⟨i + 1, hi2, hall2⟩, by show t.ins.length - (i + 1) < t.ins.length - i; omega, rfl⟩
       ·have hr := hn (fun h => h5 (h.2.2.2.2.1 _ (List.getElem_mem hi2)))
        subst hr
        generalize t.ins[i] = y at *
        have e5 : ((100 : Int) < (y.pre.length : Int)) = True := eq_true (by omega)
        repeat' (first | omega | assumption | (show AL.ahead _ _ _ = true; rfl) | (first | apply brF | apply brT | apply brVF | apply brVT) <;> intro _ | (with_reducible refine And.intro ?_ ?_) | (simp -dsimp -implicitDefEqProofs only [go_sem, q1, w1, inA, gt_iff_lt, e5]))
        all_goals rfl
      ·have e : i = t.ins.length := by omega
       have hI : ∀ y ∈ t.ins, y.pre.length ≤ 100 := fun y hy => by
        obtain ⟨k, hk, rfl⟩ := List.getElem_of_mem hy
        exact hall k (by omega) hk
       repeat' (first | omega | assumption | (show AL.ahead _ _ _ = true; rfl) | (first | apply brF | apply brT | apply brVF | apply brVT) <;> intro _ | (with_reducible refine And.intro ?_ ?_) | (simp -dsimp -implicitDefEqProofs only [go_sem]))
       apply loop_keep [1] (fun i : { i : Nat // i ≤ t.outs.length ∧ ∀ k (hk : k < i) (h2 : k < t.outs.length), t.outs[k].ways.length ≤ 20 ∧ ∀ w ∈ t.outs[k].ways, w.keys.length ≤ 20 } => [(4, n64 i.1)]) (fun _ => []) (fun i => t.outs.length - i.1) ⟨0, Nat.zero_le _, fun k hk => absurd hk (by omega)⟩
       ·simp -dsimp -implicitDefEqProofs only [go_sem]; try rfl
       ·simp -dsimp -implicitDefEqProofs only [go_sem]; try rfl
       ·simp -dsimp -implicitDefEqProofs only [go_sem]; try rfl
       ·intro s
        simp -dsimp -implicitDefEqProofs only [go_sem]
        try omega
       ·rintro ⟨i2, hj, halo⟩
        have hj : i2 ≤ t.outs.length := hj
        simp -dsimp -implicitDefEqProofs only [go_sem]
        refine brT (fun hc2 => ?_) (fun hc2 => ?_)
        ·have hj2 : i2 < t.outs.length := by omega
         have q2 := outs_get hj2
         have w2 : IntKind.i64.wrap ((i2 : Int) + 1) = ((i2 + 1 : Nat) : Int) := wrapE (by omega) (by omega)
         by_cases h6 : t.outs[i2].ways.length ≤ 20
         ·have hnx : (∀ w ∈ t.outs[i2].ways, w.keys.length ≤ 20) → ∀ k (hk : k < i2 + 1) (h2 : k < t.outs.length), t.outs[k].ways.length ≤ 20 ∧ ∀ w ∈ t.outs[k].ways, w.keys.length ≤ 20 := fun hw k hk h2 => by
           by_cases e : k = i2
           ·subst e; exact ⟨h6, hw⟩
           ·exact halo k (by omega) h2
          have hno : (¬ ∀ w ∈ t.outs[i2].ways, w.keys.length ≤ 20) → R = 1 := fun h => hn (fun q => h (q.2.2.2.2.2 _ (List.getElem_mem hj2)).2)
          generalize t.outs[i2] = o at *
          have e6 : ((20 : Int) < (o.ways.length : Int)) = False := eq_false (by omega)
          repeat' (first | omega | assumption | (show AL.ahead _ _ _ = true; rfl) | (first | apply brF | apply brT | apply brVF | apply brVT) <;> intro _ | (with_reducible refine And.intro ?_ ?_) | (simp -dsimp -implicitDefEqProofs only [go_sem, q2, w2, outA, gt_iff_lt, e6]))
          apply loop_keep [1, 4] (fun i : { i : Nat // i ≤ o.ways.length ∧ ∀ k (hk : k < i) (h2 : k < o.ways.length), o.ways[k].keys.length ≤ 20 } => [(5, n64 i.1)]) (fun _ => []) (fun i => o.ways.length - i.1) ⟨0, Nat.zero_le _, fun k hk => absurd hk (by omega)⟩
          ·simp -dsimp -implicitDefEqProofs only [go_sem]; try rfl
          ·simp -dsimp -implicitDefEqProofs only [go_sem]; try rfl
          ·simp -dsimp -implicitDefEqProofs only [go_sem]; try rfl
          ·intro s
           simp -dsimp -implicitDefEqProofs only [go_sem]
           try omega
          ·rintro ⟨i3, hl, halw⟩
           have hl : i3 ≤ o.ways.length := hl
           simp -dsimp -implicitDefEqProofs only [go_sem, q2, outA]
           refine ⟨hj2, ?_⟩
           refine brT (fun hc3 => ?_) (fun hc3 => ?_)
           ·have hl2 : i3 < o.ways.length := by omega
            have q3 := ways_get hl2
            have w3 : IntKind.i64.wrap ((i3 : Int) + 1) = ((i3 + 1 : Nat) : Int) := wrapE (by omega) (by omega)
            by_cases h7 : o.ways[i3].keys.length ≤ 20
            ·have hall3 : ∀ k (hk : k < i3 + 1) (h2 : k < o.ways.length), o.ways[k].keys.length ≤ 20 := fun k hk h2 => by
              by_cases e : k = i3
              ·subst e; exact h7
              ·exact halw k (by omega) h2
             generalize o.ways[i3] = w at *
             have e7 : ((20 : Int) < (w.keys.length : Int)) = False := eq_false (by omega)
             repeat' (first | omega | assumption | (show AL.ahead _ _ _ = true; rfl) | (first | apply brF | apply brT | apply brVF | apply brVT) <;> intro _ | (with_reducible refine And.intro ?_ ?_) | (simp -dsimp -implicitDefEqProofs only [go_sem, q2, q3, w3, outA, wayA, gt_iff_lt, e7]))
             all_goals first | exact ⟨⟨i3 + 1, hl2, hall3⟩, by show o.ways.length - (i3 + 1) < o.ways.length - i3; omega, rfl⟩
            ·have hr := hno (fun h => h7 (h _ (List.getElem_mem hl2)))
             subst hr
             generalize o.ways[i3] = w at *
             have e7 : ((20 : Int) < (w.keys.length : Int)) = True := eq_true (by omega)
             repeat' (first | omega | assumption | (show AL.ahead _ _ _ = true; rfl) | (first | apply brF | apply brT | apply brVF | apply brVT) <;> intro _ | (with_reducible refine And.intro ?_ ?_) | (simp -dsimp -implicitDefEqProofs only [go_sem, q2, q3, w3, outA, wayA, gt_iff_lt, e7]))
             all_goals rfl
           ·have e : i3 = o.ways.length := by omega
            have hW : ∀ w ∈ o.ways, w.keys.length ≤ 20 := fun w hw => by
             obtain ⟨k, hk, rfl⟩ := List.getElem_of_mem hw
             exact halw k (by omega) hk
            repeat' (first | omega | assumption | (show AL.ahead _ _ _ = true; rfl) | (first | apply brF | apply brT | apply brVF | apply brVT) <;> intro _ | (with_reducible refine And.intro ?_ ?_) | (simp -dsimp -implicitDefEqProofs only [go_sem, w2]))
            all_goals first | exact ⟨⟨i2 + 1, hj2, hnx hW⟩, by show t.outs.length - (i2 + 1) < t.outs.length - i2; omega, rfl⟩
         ·have hr := hn (fun h => h6 (h.2.2.2.2.2 _ (List.getElem_mem hj2)).1)
          subst hr
          generalize t.outs[i2] = o at *
          have e6 : ((20 : Int) < (o.ways.length : Int)) = True := eq_true (by omega)
          repeat' (first | omega | assumption | (show AL.ahead _ _ _ = true; rfl) | (first | apply brF | apply brT | apply brVF | apply brVT) <;> intro _ | (with_reducible refine And.intro ?_ ?_) | (simp -dsimp -implicitDefEqProofs only [go_sem, q2, outA, gt_iff_lt, e6]))
          all_goals rfl
        ·have hO : ∀ o ∈ t.outs, o.ways.length ≤ 20 ∧ ∀ w ∈ o.ways, w.keys.length ≤ 20 := fun o ho => by
          obtain ⟨k, hk, rfl⟩ := List.getElem_of_mem ho
          exact halo k (by omega) hk
         have hr := hy ⟨h1, h2, h3, h4, hI, hO⟩
         subst hr
         repeat' (first | omega | assumption | (show AL.ahead _ _ _ = true; rfl) | (first | apply brF | apply brT | apply brVF | apply brVT) <;> intro _ | (with_reducible refine And.intro ?_ ?_) | (simp -dsimp -implicitDefEqProofs only [go_sem]))
         all_goals rfl
    ·have e4 : ((6000 : Int) < (t.op.data.length : Int)) = True := eq_true (by omega)
     have hr := hn (fun h => h4 h.2.2.2.1)
     subst hr
     refine FnSpec.of_code (cx := cx) (an := {}) (rs := [.tmp 2]) mo Tryz.func14 rfl rfl (by kernel_rfl) (by kernel_rfl) (by show 1 ≤ _; decide) (.inl rfl) (by simp [allWr, keys, Res.wr]) ?_
     repeat' (first | omega | assumption | (show AL.ahead _ _ _ = true; rfl) | (first | apply brF | apply brT | apply brVF | apply brVT) <;> intro _ | (with_reducible refine And.intro ?_ ?_) | (simp -dsimp -implicitDefEqProofs only [go_sem, txA, opT, gt_iff_lt, e1, e2, e3, e4]))
     all_goals rfl
   ·have e3 : ((20 : Int) < (t.signs.length : Int)) = True := eq_true (by omega)
    have hr := hn (fun h => h3 h.2.2.1)
    subst hr
    refine FnSpec.of_code (cx := cx) (an := {}) (rs := [.tmp 2]) mo Tryz.func14 rfl rfl (by kernel_rfl) (by kernel_rfl) (by show 1 ≤ _; decide) (.inl rfl) (by simp [allWr, keys, Res.wr]) ?_
    repeat' (first | omega | assumption | (show AL.ahead _ _ _ = true; rfl) | (first | apply brF | apply brT | apply brVF | apply brVT) <;> intro _ | (with_reducible refine And.intro ?_ ?_) | (simp -dsimp -implicitDefEqProofs only [go_sem, txA, opT, gt_iff_lt, e1, e2, e3]))
    all_goals rfl
  ·have e2 : ((20 : Int) < (t.outs.length : Int)) = True := eq_true (by omega)
   have hr := hn (fun h => h2 h.2.1)
   subst hr
   refine FnSpec.of_code (cx := cx) (an := {}) (rs := [.tmp 2]) mo Tryz.func14 rfl rfl (by kernel_rfl) (by kernel_rfl) (by show 1 ≤ _; decide) (.inl rfl) (by simp [allWr, keys, Res.wr]) ?_
   repeat' (first | omega | assumption | (show AL.ahead _ _ _ = true; rfl) | (first | apply brF | apply brT | apply brVF | apply brVT) <;> intro _ | (with_reducible refine And.intro ?_ ?_) | (simp -dsimp -implicitDefEqProofs only [go_sem, txA, opT, gt_iff_lt, e1, e2]))
   all_goals rfl
 ·have e1 : ((20 : Int) < (t.ins.length : Int)) = True := eq_true (by omega)
  have hr := hn (fun h => h1 h.1)
  subst hr
  refine FnSpec.of_code (cx := cx) (an := {}) (rs := [.tmp 2]) mo Tryz.func14 rfl rfl (by kernel_rfl) (by kernel_rfl) (by show 1 ≤ _; decide) (.inl rfl) (by simp [allWr, keys, Res.wr]) ?_
  repeat' (first | omega | assumption | (show AL.ahead _ _ _ = true; rfl) | (first | apply brF | apply brT | apply brVF | apply brVT) <;> intro _ | (with_reducible refine And.intro ?_ ?_) | (simp -dsimp -implicitDefEqProofs only [go_sem, txA, opT, gt_iff_lt, e1]))
  all_goals rfl
theorem small8o_spec (nx : Nat) (os : List Out_) : FnSpec Tryz.prog 14 nx [txOA os] [] (n64 (smE (txO os))) [] 0 :=
 (small8_spec nx (txO os)).le (args := [txOA os]) ⟨_, _, rfl, txO_le os, rfl⟩
end Go.Proofs.YtaghcjbpjnpkbaaGreat

namespace Go.Proofs.YtaghcjbpjnpkbaaGreat
open Go Go.AL Go.Proofs.YtaghcjbpjnpkbaaGreat.T
def hfS (i : Nat) : Int := 100 * (i : Int) + 1
attribute [local go_sem] nb_u8s u8s_length nb_sum sumA List.length_replicate zero_sum sum_h u8s_nil sums_len nb_sums states_len helds_len nb_states nb_helds signs_len nb_signs nb_keysT nb_valsT txs_len nb_txs outs_len nb_outs txA_good txA_csz txA_agg nb_tx brs_len nb_brs nbK_ref nbK_int nbK_pair nbK_sum nbV_coin nbV_tow nbV_hold nbV_done nbV_spend nb_sums
theorem made_yes (nx K : Nat) (hK : 200000 ≤ K) (rs : List BR) (os : List Out_) (l : List Tx_) (h1 : smallP rs) (h2 : os.length ≤ 16) (h3 : smallT (txO os)) (h4 : l.length ≤ 20) (h5 : newE 0 os = 0) (h6 : ∀ t ∈ l, smallT t) :
  FnSpec Tryz.prog 4 nx [.sl 274 (brsA rs) 0, .sl 2 (outsA os) 0, .sl 40 (txsA l) 0] [] (.tup [.ref (nx + 216) 0 [], .ref (nx + 480) 0 [], bA true]) (bookH (runB rs rs.length) (nx + 200) ++ ledH (nmL hfS (fun i => nx + 4408 + 5000 * i + 560) (newN (nx + 440)) (newS os) l l.length) (runL hfS (newS os) l l.length)) K := by
 obtain ⟨hl, hall⟩ := id h1
 have hnb := fun b' => bkA_nb (N := nx + 200) (m := nx + 240) (by omega) b'
 have e3 := smE_y h3
 have hs8 := fun nc => small8o_spec nc os
 rw [e3] at hs8
 simp only [txOA, sumA] at hs8
 have hX0 := newS_ok h3
 obtain ⟨NN, hNN, hMM⟩ : ∃ NN : Nat → Nat, (∀ i, NN i = nx + 4408 + 5000 * i) ∧ (fun i => nx + 4408 + 5000 * i + 560) = fun i => NN i + 560 := ⟨fun i => nx + 4408 + 5000 * i, fun _ => rfl, rfl⟩
 rw [hMM]
 have hN0 := hNN 0
 have hn1 := nmL_ok (hf := hfS) (M := fun i => NN i + 560) (N := NN) (n0 := newN (nx + 440)) (x0 := newS os) (l := l) (newN_ok (by rw [hN0]; omega)) (fun i => by have := hNN i; have := hNN (i + 1); omega)
 have hn2 : ∀ i, _ ∧ _ ∧ _ ∧ _ ∧ _ ∧ _ := nmL_same hfS (fun i => NN i + 560) (newN (nx + 440)) (newS os) l
 have hn3 := nmL_ge (B := nx + 544) (hf := hfS) (M := fun i => NN i + 560) (n0 := newN (nx + 440)) (x0 := newS os) (l := l) ⟨by simp only [newN]; omega, by simp only [newN]; omega, by simp only [newN]; omega⟩ (fun i => by have := hNN i; omega)
 have hz : nmL hfS (fun i => NN i + 560) (newN (nx + 440)) (newS os) l 0 = newN (nx + 440) := rfl
 have hx0 : runL hfS (newS os) l 0 = newS os := rfl
 have hyes := fun i (h : i < l.length) => nmL_yes (hf := hfS) (M := fun i => NN i + 560) (n0 := newN (nx + 440)) (x0 := newS os) h
 have hno := fun i (h : i < l.length) => nmL_no (hf := hfS) (M := fun i => NN i + 560) (n0 := newN (nx + 440)) (x0 := newS os) h
 have hrun := fun i (h : i < l.length) => runL_succ hfS (newS os) h
 have hxo := fun i (h : i ≤ l.length) => runL_ok (hf := hfS) (l := l) hX0 i h (fun k _ h2 => smallT_ok (h6 _ (List.getElem_mem h2)))
 generalize nmL hfS (fun i => NN i + 560) (newN (nx + 440)) (newS os) l = nm at *
 generalize runL hfS (newS os) l = xr at *
 have c2 : ((16 : Int) < (os.length : Int)) = False := eq_false (by omega)
 have c4 : ((20 : Int) < (l.length : Int)) = False := eq_false (by omega)
 refine FnSpec.of_code (cx := cx) (an := {}) (rs := [.tmp 6, .tmp 7, .tmp 8]) mo Tryz.func4 rfl rfl (by kernel_rfl) (by kernel_rfl) (by show 3 ≤ _; decide) (.inr ⟨_, rfl, by simp [AV.good]⟩) (by simp [allWr, keys, Res.wr]) ?_
 repeat' (first | omega | assumption | (show AL.ahead _ _ _ = true; rfl) | (first | apply brF | apply brT | apply brVF | apply brVT) <;> intro _ | (with_reducible refine And.intro ?_ ?_) | (refine callK_by (small_yes _ rs h1) ?_) | (refine callK_by (hs8 _) ?_) | (refine callK_by (newbk_spec _) ?_) | (simp -dsimp -implicitDefEqProofs only [go_sem, c2, c4, gt_iff_lt]))
 apply loop_keep [0, 1, 2, 9] (fun i : { i : Nat // i ≤ rs.length } => [(10, n64 i.1)]) (fun i => bookH (runB rs i.1) (nx + 200)) (fun i => rs.length - i.1) ⟨0, Nat.zero_le _⟩
 ·simp -dsimp -implicitDefEqProofs only [go_sem]; try rfl
 ·simp -dsimp -implicitDefEqProofs only [go_sem]; try rfl
 ·simp -dsimp -implicitDefEqProofs only [go_sem, runB_zero]; try rfl
 ·intro s
  simp -dsimp -implicitDefEqProofs only [go_sem, nb_brs, hnb]
  all_goals omega
 ·rintro ⟨i, hi⟩
  have hi : i ≤ rs.length := hi
  have hok := runB_ok rs i hi
  simp -dsimp -implicitDefEqProofs only [go_sem, brs_len]
  refine brT (fun hc => ?_) (fun hc => ?_)
  ·have hi2 : i < rs.length := by omega
   have q1 := brs_get hi2
   have w1 : IntKind.i64.wrap ((i : Int) + 1) = ((i + 1 : Nat) : Int) := wrapE (by omega) (by omega)
   have hrs := runB_succ hi2
   obtain ⟨g1, g2⟩ := hall rs[i] (List.getElem_mem hi2)
   generalize rs[i] = r at *
   have hap := fun nc (h : nx + 232 ≤ nc) => apply_spec nc (nx + 200) (runB rs i) r (by omega) (okB_bk hok (by omega)) ⟨by omega, by omega⟩
   rw [← hrs] at hap
   repeat' (first | omega | assumption | (show AL.ahead _ _ _ = true; rfl) | (first | apply brF | apply brT | apply brVF | apply brVT) <;> intro _ | (with_reducible refine And.intro ?_ ?_) | (refine callK_by (hap _ (by omega)) ?_) | (simp -dsimp -implicitDefEqProofs only [go_sem, q1, w1, brs_len, brA_good, brA_csz, brA_agg, brA_nb]))
   exact ⟨⟨i + 1, hi2⟩, by show rs.length - (i + 1) < rs.length - i; omega, rfl, rfl, rfl, rfl, rfl, rfl, rfl⟩
  ·have e : i = rs.length := by omega
   subst e
   generalize runB rs rs.length = B at *
   have hnw := newOk_spec (nx + 352) 0 os h5 h2 (fun o ho => ⟨by have := (h3.2.2.2.2.2 o ho).1; omega, fun w hw => by have := (h3.2.2.2.2.2 o ho).2 w hw; omega⟩) (smallT_ok h3).b (.inl (by decide))
   have hH : ledH (newN (nx + 352 + 88)) (newS os) = [(nx + 480, some (.obj (ledA (newN (nx + 440)) (newS os)))), (nx + 520, some (.obj (.agg 1 [.map (nx + 504)]))), (nx + 504, some (.mp (coinsE (newS os).coins))), (nx + 568, some (.obj (boardA (nx + 544) (nx + 552)))), (nx + 544, some (.mp (towsE (newS os).towers))), (nx + 552, some (.mp (holdsE (newS os).holds))), (nx + 456, some (.mp (donesE (newS os).done))), (nx + 464, some (.mp (spentE (newS os).spent))), (nx + 473, some (.tail (newS os).order.length))] := rfl
   have hl0 : (newN (nx + 352 + 88)).l = nx + 480 := rfl
   rw [hH, hl0] at hnw
   repeat' (first | omega | assumption | (show AL.ahead _ _ _ = true; rfl) | (first | apply brF | apply brT | apply brVF | apply brVT) <;> intro _ | (with_reducible refine And.intro ?_ ?_) | (refine callK_by (hnw) ?_) | (simp -dsimp -implicitDefEqProofs only [go_sem]))
   rw [← hz, ← hx0, show nx + 4408 = NN 0 by omega]
   have hn2 : ∀ i, (nm i).l = nx + 480 ∧ (nm i).v = nx + 520 ∧ (nm i).vm = nx + 504 ∧ (nm i).d = nx + 456 ∧ (nm i).s = nx + 464 ∧ (nm i).o = nx + 473 := hn2
   have k0 : (nm 0).b = nx + 568 ∧ (nm 0).tm = nx + 544 ∧ (nm 0).hm = nx + 552 := by rw [hz]; exact ⟨rfl, rfl, rfl⟩
   apply loop_grow [2, 9, 11] (fun i : { i : Nat // i ≤ l.length } => [(14, n64 i.1)]) (fun i => bookH B (nx + 200) ++ ledH (nm i.1) (xr i.1)) (fun i => l.length - i.1) (fun i => NN i.1) ⟨0, Nat.zero_le _⟩
   ·simp -dsimp -implicitDefEqProofs only [go_sem]; try rfl
   ·simp -dsimp -implicitDefEqProofs only [go_sem]; try rfl
   ·simp -dsimp -implicitDefEqProofs only [go_sem, List.cons_append, List.nil_append, hn2, k0]; try rfl
   ·intro s
    have hlt := (hn1 s.1).lt
    have hs := hNN s.1
    have hnb2 := bkA_nb (N := nx + 200) (m := NN s.1) (by omega) B
    simp -dsimp -implicitDefEqProofs only [go_sem, List.cons_append, List.nil_append, hn2, hnb2, ledA, boardA]
    all_goals (try omega)
   ·rintro ⟨i, hi⟩
    have hi : i ≤ l.length := hi
    have hn := hn1 i
    have hge := hn3 i
    have hxi := hxo i hi
    have hNi := hNN i
    have xf := hn.xf
    have yf := hn.nf
    have nl : ∀ j k, j < 600 → ((nx + j = NN i + k) = False) ∧ ((NN i + k = nx + j) = False) ∧ ((nx + j = NN i) = False) ∧ ((NN i = nx + j) = False) := fun j k h => by
     simp only [eq_iff_iff, iff_false]; omega
    have nb : ∀ j, j < 544 → (((nm i).b = nx + j) = False) ∧ ((nx + j = (nm i).b) = False) ∧ (((nm i).tm = nx + j) = False) ∧ ((nx + j = (nm i).tm) = False) ∧ (((nm i).hm = nx + j) = False) ∧ ((nx + j = (nm i).hm) = False) := fun j h => by
     simp only [eq_iff_iff, iff_false]; omega
    simp -dsimp -implicitDefEqProofs only [go_sem, List.cons_append, List.nil_append, hn2]
    refine brT (fun hc => ?_) (fun hc => ?_)
    ·have hi2 : i < l.length := by omega
     have q1 := txs_get hi2
     have w1 : IntKind.i64.wrap ((i : Int) + 1) = ((i + 1 : Nat) : Int) := wrapE (by omega) (by omega)
     have w2 : IntKind.i64.wrap (100 * (i : Int)) = 100 * (i : Int) := by rw [IntKind.wrap_i64]; omega
     have w3 : IntKind.i64.wrap (100 * (i : Int) + 1) = hfS i := by rw [IntKind.wrap_i64]; unfold hfS; omega
     have hst := h6 _ (List.getElem_mem hi2)
     have hru := hrun i hi2
     have hye := hyes i hi2
     have hnn := hno i hi2
     generalize l[i] = t at *
     have hsm := fun nc => small8_spec nc t
     rw [smE_y hst] at hsm
     have hap := step_spec (NN i + 152) (nm i) (xr i) t (hfS i) (1 + i) (hn.up (by omega)) (smallT_ok hst) hxi (by omega)
     by_cases h0 : (stepL t (hfS i) (xr i)).1 = 0
     ·have hap := hap.1 h0
      have kb : (nm (i + 1)).b = NN i + 672 ∧ (nm (i + 1)).tm = NN i + 712 ∧ (nm (i + 1)).hm = NN i + 752 := by rw [hye h0]; exact ⟨rfl, rfl, rfl⟩
      rw [← hru, show NN i + 152 + 408 = NN i + 560 by omega, ← hye h0] at hap
      simp only [ledH, ledI, hn2, kb] at hap
      repeat' (first | omega | assumption | (show AL.ahead _ _ _ = true; rfl) | (first | apply brF | apply brT | apply brVF | apply brVT) <;> intro _ | (with_reducible refine And.intro ?_ ?_) | (refine callK_by (hsm _) ?_) | (refine callK_by (hap) ?_) | (simp -dsimp -implicitDefEqProofs only [go_sem, List.cons_append, List.nil_append, hn2, q1, w1, w2, w3, nl, nb, xf, yf]))
      refine ⟨⟨i + 1, hi2⟩, by show l.length - (i + 1) < l.length - i; omega, rfl, ?_⟩
      simp -dsimp -implicitDefEqProofs only [go_sem, List.cons_append, List.nil_append, hn2, kb, nl, nb, xf, yf]
      all_goals rfl
     ·have hsx := (hap.2 h0).1
      have hap := (hap.2 h0).2
      have hx1 : xr (i + 1) = xr i := by rw [hru, hsx]
      have hm1 := hnn h0
      simp only [ledR, hn2] at hap
      repeat' (first | omega | assumption | (show AL.ahead _ _ _ = true; rfl) | (first | apply brF | apply brT | apply brVF | apply brVT) <;> intro _ | (with_reducible refine And.intro ?_ ?_) | (refine callK_by (hsm _) ?_) | (refine callK_by (hap) ?_) | (simp -dsimp -implicitDefEqProofs only [go_sem, List.cons_append, List.nil_append, hn2, q1, w1, w2, w3, nl, nb, xf, yf]))
      refine ⟨⟨i + 1, hi2⟩, by show l.length - (i + 1) < l.length - i; omega, rfl, ?_⟩
      simp -dsimp -implicitDefEqProofs only [go_sem, List.cons_append, List.nil_append, hn2, hx1, hm1, nl, nb, xf, yf]
      all_goals rfl
    ·have e : i = l.length := by omega
     subst e
     have hlt := hn.lt
     have hnb3 := bkA_nb (N := nx + 200) (m := nx + K) (by omega) B
     repeat' (first | omega | assumption | (show AL.ahead _ _ _ = true; rfl) | (first | apply brF | apply brT | apply brVF | apply brVT) <;> intro _ | (with_reducible refine And.intro ?_ ?_) | (simp -dsimp -implicitDefEqProofs only [go_sem, List.cons_append, List.nil_append, hn2, nl, nb, xf, yf, boardA, ledA, hnb3]))
     all_goals first | rfl | omega
end Go.Proofs.YtaghcjbpjnpkbaaGreat

namespace Go.Proofs.YtaghcjbpjnpkbaaGreat
open Go Go.AL Go.Proofs.YtaghcjbpjnpkbaaGreat.T
attribute [local go_sem] nb_u8s u8s_length nb_sum sumA List.length_replicate zero_sum sum_h u8s_nil sums_len nb_sums states_len helds_len nb_states nb_helds signs_len nb_signs nb_keysT nb_valsT txs_len nb_txs outs_len nb_outs txA_good txA_csz txA_agg nb_tx brs_len nb_brs nbK_ref nbK_int nbK_pair nbK_sum nbV_coin nbV_tow nbV_hold nbV_done nbV_spend nb_sums
theorem made_new (nx : Nat) (rs : List BR) (os : List Out_) (l : List Tx_) (h1 : smallP rs) (h2 : os.length ≤ 16) (h3 : smallT (txO os)) (h4 : l.length ≤ 20) (h5 : newE 0 os ≠ 0) :
  FnSpec Tryz.prog 4 nx [.sl 274 (brsA rs) 0, .sl 2 (outsA os) 0, .sl 40 (txsA l) 0] [] (.tup [nilP, nilP, bA false]) [] 0 := by

 obtain ⟨hl, hall⟩ := id h1
 have hnb := fun b' => bkA_nb (N := nx + 200) (m := nx + 240) (by omega) b'
 have e3 := smE_y h3
 have hs8 := fun nc => small8o_spec nc os
 rw [e3] at hs8
 simp only [txOA, sumA] at hs8
 have c2 : ((16 : Int) < (os.length : Int)) = False := eq_false (by omega)
 have c4 : ((20 : Int) < (l.length : Int)) = False := eq_false (by omega)
 refine FnSpec.of_code (cx := cx) (an := {}) (rs := [.tmp 6, .tmp 7, .tmp 8]) mo Tryz.func4 rfl rfl (by kernel_rfl) (by kernel_rfl) (by show 3 ≤ _; decide) (.inr ⟨_, rfl, by simp [AV.good]⟩) (by simp [allWr, keys, Res.wr]) ?_
 repeat' (first | omega | assumption | (show AL.ahead _ _ _ = true; rfl) | (first | apply brF | apply brT | apply brVF | apply brVT) <;> intro _ | (with_reducible refine And.intro ?_ ?_) | (refine callK_by (small_yes _ rs h1) ?_) | (refine callK_by (hs8 _) ?_) | (refine callK_by (newbk_spec _) ?_) | (simp -dsimp -implicitDefEqProofs only [go_sem, c2, c4, gt_iff_lt]))
 apply loop_keep [0, 1, 2, 9] (fun i : { i : Nat // i ≤ rs.length } => [(10, n64 i.1)]) (fun i => bookH (runB rs i.1) (nx + 200)) (fun i => rs.length - i.1) ⟨0, Nat.zero_le _⟩
 ·simp -dsimp -implicitDefEqProofs only [go_sem]; try rfl
 ·simp -dsimp -implicitDefEqProofs only [go_sem]; try rfl
 ·simp -dsimp -implicitDefEqProofs only [go_sem, runB_zero]; try rfl
 ·intro s
  simp -dsimp -implicitDefEqProofs only [go_sem, nb_brs, hnb]
  all_goals omega
 ·rintro ⟨i, hi⟩
  have hi : i ≤ rs.length := hi
  have hok := runB_ok rs i hi
  simp -dsimp -implicitDefEqProofs only [go_sem, brs_len]
  refine brT (fun hc => ?_) (fun hc => ?_)
  ·have hi2 : i < rs.length := by omega
   have q1 := brs_get hi2
   have w1 : IntKind.i64.wrap ((i : Int) + 1) = ((i + 1 : Nat) : Int) := wrapE (by omega) (by omega)
   have hrs := runB_succ hi2
   obtain ⟨g1, g2⟩ := hall rs[i] (List.getElem_mem hi2)
   generalize rs[i] = r at *
   have hap := fun nc (h : nx + 232 ≤ nc) => apply_spec nc (nx + 200) (runB rs i) r (by omega) (okB_bk hok (by omega)) ⟨by omega, by omega⟩
   rw [← hrs] at hap
   repeat' (first | omega | assumption | (show AL.ahead _ _ _ = true; rfl) | (first | apply brF | apply brT | apply brVF | apply brVT) <;> intro _ | (with_reducible refine And.intro ?_ ?_) | (refine callK_by (hap _ (by omega)) ?_) | (simp -dsimp -implicitDefEqProofs only [go_sem, q1, w1, brs_len, brA_good, brA_csz, brA_agg, brA_nb]))
   exact ⟨⟨i + 1, hi2⟩, by show rs.length - (i + 1) < rs.length - i; omega, rfl, rfl, rfl, rfl, rfl, rfl, rfl⟩
  ·have e : i = rs.length := by omega
   subst e
   generalize runB rs rs.length = B at *
   have hnw := fun nc => newNo_spec nc 0 os h5 h2 (fun o ho => ⟨by have := (h3.2.2.2.2.2 o ho).1; omega, fun w hw => by have := (h3.2.2.2.2.2 o ho).2 w hw; omega⟩) (.inl (by decide))
   generalize newE 0 os = E at *
   repeat' (first | omega | assumption | (show AL.ahead _ _ _ = true; rfl) | (first | apply brF | apply brT | apply brVF | apply brVT) <;> intro _ | (with_reducible refine And.intro ?_ ?_) | (refine callK_by (hnw _) ?_) | (simp -dsimp -implicitDefEqProofs only [go_sem, h5]))
   all_goals rfl
theorem made_tx (nx : Nat) (rs : List BR) (os : List Out_) (l : List Tx_) (h1 : smallP rs) (h2 : os.length ≤ 16) (h3 : smallT (txO os)) (h4 : l.length ≤ 20) (h5 : newE 0 os = 0) (h6 : ¬ ∀ t ∈ l, smallT t) :
  FnSpec Tryz.prog 4 nx [.sl 274 (brsA rs) 0, .sl 2 (outsA os) 0, .sl 40 (txsA l) 0] [] (.tup [nilP, nilP, bA false]) [] 0 := by

 obtain ⟨hl, hall⟩ := id h1
 have hnb := fun b' => bkA_nb (N := nx + 200) (m := nx + 240) (by omega) b'
 have e3 := smE_y h3
 have hs8 := fun nc => small8o_spec nc os
 rw [e3] at hs8
 simp only [txOA, sumA] at hs8
 have hX0 := newS_ok h3
 obtain ⟨NN, hNN, hMM⟩ : ∃ NN : Nat → Nat, (∀ i, NN i = nx + 4408 + 5000 * i) ∧ (fun i => nx + 4408 + 5000 * i + 560) = fun i => NN i + 560 := ⟨fun i => nx + 4408 + 5000 * i, fun _ => rfl, rfl⟩
 have hN0 := hNN 0
 have hn1 := nmL_ok (hf := hfS) (M := fun i => NN i + 560) (N := NN) (n0 := newN (nx + 440)) (x0 := newS os) (l := l) (newN_ok (by rw [hN0]; omega)) (fun i => by have := hNN i; have := hNN (i + 1); omega)
 have hn2 : ∀ i, _ ∧ _ ∧ _ ∧ _ ∧ _ ∧ _ := nmL_same hfS (fun i => NN i + 560) (newN (nx + 440)) (newS os) l
 have hn3 := nmL_ge (B := nx + 544) (hf := hfS) (M := fun i => NN i + 560) (n0 := newN (nx + 440)) (x0 := newS os) (l := l) ⟨by simp only [newN]; omega, by simp only [newN]; omega, by simp only [newN]; omega⟩ (fun i => by have := hNN i; omega)
 have hz : nmL hfS (fun i => NN i + 560) (newN (nx + 440)) (newS os) l 0 = newN (nx + 440) := rfl
 have hx0 : runL hfS (newS os) l 0 = newS os := rfl
 have hyes := fun i (h : i < l.length) => nmL_yes (hf := hfS) (M := fun i => NN i + 560) (n0 := newN (nx + 440)) (x0 := newS os) h
 have hno := fun i (h : i < l.length) => nmL_no (hf := hfS) (M := fun i => NN i + 560) (n0 := newN (nx + 440)) (x0 := newS os) h
 have hrun := fun i (h : i < l.length) => runL_succ hfS (newS os) h
 have hxo := fun i (h : i ≤ l.length) => runL_ok (hf := hfS) (l := l) hX0 i h
 generalize nmL hfS (fun i => NN i + 560) (newN (nx + 440)) (newS os) l = nm at *
 generalize runL hfS (newS os) l = xr at *
 have c2 : ((16 : Int) < (os.length : Int)) = False := eq_false (by omega)
 have c4 : ((20 : Int) < (l.length : Int)) = False := eq_false (by omega)
 refine FnSpec.of_code (cx := cx) (an := {}) (rs := [.tmp 6, .tmp 7, .tmp 8]) mo Tryz.func4 rfl rfl (by kernel_rfl) (by kernel_rfl) (by show 3 ≤ _; decide) (.inr ⟨_, rfl, by simp [AV.good]⟩) (by simp [allWr, keys, Res.wr]) ?_
 repeat' (first | omega | assumption | (show AL.ahead _ _ _ = true; rfl) | (first | apply brF | apply brT | apply brVF | apply brVT) <;> intro _ | (with_reducible refine And.intro ?_ ?_) | (refine callK_by (small_yes _ rs h1) ?_) | (refine callK_by (hs8 _) ?_) | (refine callK_by (newbk_spec _) ?_) | (simp -dsimp -implicitDefEqProofs only [go_sem, c2, c4, gt_iff_lt]))
 apply loop_keep [0, 1, 2, 9] (fun i : { i : Nat // i ≤ rs.length } => [(10, n64 i.1)]) (fun i => bookH (runB rs i.1) (nx + 200)) (fun i => rs.length - i.1) ⟨0, Nat.zero_le _⟩
 ·simp -dsimp -implicitDefEqProofs only [go_sem]; try rfl
 ·simp -dsimp -implicitDefEqProofs only [go_sem]; try rfl
 ·simp -dsimp -implicitDefEqProofs only [go_sem, runB_zero]; try rfl
 ·intro s
  simp -dsimp -implicitDefEqProofs only [go_sem, nb_brs, hnb]
  all_goals omega
 ·rintro ⟨i, hi⟩
  have hi : i ≤ rs.length := hi
  have hok := runB_ok rs i hi
  simp -dsimp -implicitDefEqProofs only [go_sem, brs_len]
  refine brT (fun hc => ?_) (fun hc => ?_)
  ·have hi2 : i < rs.length := by omega
   have q1 := brs_get hi2
   have w1 : IntKind.i64.wrap ((i : Int) + 1) = ((i + 1 : Nat) : Int) := wrapE (by omega) (by omega)
   have hrs := runB_succ hi2
   obtain ⟨g1, g2⟩ := hall rs[i] (List.getElem_mem hi2)
   generalize rs[i] = r at *
   have hap := fun nc (h : nx + 232 ≤ nc) => apply_spec nc (nx + 200) (runB rs i) r (by omega) (okB_bk hok (by omega)) ⟨by omega, by omega⟩
   rw [← hrs] at hap
   repeat' (first | omega | assumption | (show AL.ahead _ _ _ = true; rfl) | (first | apply brF | apply brT | apply brVF | apply brVT) <;> intro _ | (with_reducible refine And.intro ?_ ?_) | (refine callK_by (hap _ (by omega)) ?_) | (simp -dsimp -implicitDefEqProofs only [go_sem, q1, w1, brs_len, brA_good, brA_csz, brA_agg, brA_nb]))
   exact ⟨⟨i + 1, hi2⟩, by show rs.length - (i + 1) < rs.length - i; omega, rfl, rfl, rfl, rfl, rfl, rfl, rfl⟩
  ·have e : i = rs.length := by omega
   subst e
   generalize runB rs rs.length = B at *
   have hnw := newOk_spec (nx + 352) 0 os h5 h2 (fun o ho => ⟨by have := (h3.2.2.2.2.2 o ho).1; omega, fun w hw => by have := (h3.2.2.2.2.2 o ho).2 w hw; omega⟩) (smallT_ok h3).b (.inl (by decide))
   have hH : ledH (newN (nx + 352 + 88)) (newS os) = [(nx + 480, some (.obj (ledA (newN (nx + 440)) (newS os)))), (nx + 520, some (.obj (.agg 1 [.map (nx + 504)]))), (nx + 504, some (.mp (coinsE (newS os).coins))), (nx + 568, some (.obj (boardA (nx + 544) (nx + 552)))), (nx + 544, some (.mp (towsE (newS os).towers))), (nx + 552, some (.mp (holdsE (newS os).holds))), (nx + 456, some (.mp (donesE (newS os).done))), (nx + 464, some (.mp (spentE (newS os).spent))), (nx + 473, some (.tail (newS os).order.length))] := rfl
   have hl0 : (newN (nx + 352 + 88)).l = nx + 480 := rfl
   rw [hH, hl0] at hnw
   repeat' (first | omega | assumption | (show AL.ahead _ _ _ = true; rfl) | (first | apply brF | apply brT | apply brVF | apply brVT) <;> intro _ | (with_reducible refine And.intro ?_ ?_) | (refine callK_by (hnw) ?_) | (simp -dsimp -implicitDefEqProofs only [go_sem]))
   rw [← hz, ← hx0, show nx + 4408 = NN 0 by omega]
   have hn2 : ∀ i, (nm i).l = nx + 480 ∧ (nm i).v = nx + 520 ∧ (nm i).vm = nx + 504 ∧ (nm i).d = nx + 456 ∧ (nm i).s = nx + 464 ∧ (nm i).o = nx + 473 := hn2
   have k0 : (nm 0).b = nx + 568 ∧ (nm 0).tm = nx + 544 ∧ (nm 0).hm = nx + 552 := by rw [hz]; exact ⟨rfl, rfl, rfl⟩
   apply loop_grow [2, 9, 11] (fun i : { i : Nat // i ≤ l.length ∧ ∀ k (h : k < i) (h2 : k < l.length), smallT l[k] } => [(14, n64 i.1)]) (fun i => bookH B (nx + 200) ++ ledH (nm i.1) (xr i.1)) (fun i => l.length - i.1) (fun i => NN i.1) ⟨0, Nat.zero_le _, fun k h => absurd h (by omega)⟩
   ·simp -dsimp -implicitDefEqProofs only [go_sem]; try rfl
   ·simp -dsimp -implicitDefEqProofs only [go_sem]; try rfl
   ·simp -dsimp -implicitDefEqProofs only [go_sem, List.cons_append, List.nil_append, hn2, k0]; try rfl
   ·intro s
    have hlt := (hn1 s.1).lt
    have hs := hNN s.1
    have hnb2 := bkA_nb (N := nx + 200) (m := NN s.1) (by omega) B
    simp -dsimp -implicitDefEqProofs only [go_sem, List.cons_append, List.nil_append, hn2, hnb2, ledA, boardA]
    all_goals (try omega)
   ·rintro ⟨i, hi, hsa⟩
    have hi : i ≤ l.length := hi
    have hsa : ∀ k (h : k < i) (h2 : k < l.length), smallT l[k] := hsa
    have hn := hn1 i
    have hge := hn3 i
    have hxi := hxo i hi (fun k q q2 => smallT_ok (hsa k q q2))
    have hNi := hNN i
    have xf := hn.xf
    have yf := hn.nf
    have nl : ∀ j k, j < 600 → ((nx + j = NN i + k) = False) ∧ ((NN i + k = nx + j) = False) ∧ ((nx + j = NN i) = False) ∧ ((NN i = nx + j) = False) := fun j k h => by
     simp only [eq_iff_iff, iff_false]; omega
    have nb : ∀ j, j < 544 → (((nm i).b = nx + j) = False) ∧ ((nx + j = (nm i).b) = False) ∧ (((nm i).tm = nx + j) = False) ∧ ((nx + j = (nm i).tm) = False) ∧ (((nm i).hm = nx + j) = False) ∧ ((nx + j = (nm i).hm) = False) := fun j h => by
     simp only [eq_iff_iff, iff_false]; omega
    simp -dsimp -implicitDefEqProofs only [go_sem, List.cons_append, List.nil_append, hn2]
    refine brT (fun hc => ?_) (fun hc => ?_)
    ·have hi2 : i < l.length := by omega
     have q1 := txs_get hi2
     have w1 : IntKind.i64.wrap ((i : Int) + 1) = ((i + 1 : Nat) : Int) := wrapE (by omega) (by omega)
     have w2 : IntKind.i64.wrap (100 * (i : Int)) = 100 * (i : Int) := by rw [IntKind.wrap_i64]; omega
     have w3 : IntKind.i64.wrap (100 * (i : Int) + 1) = hfS i := by rw [IntKind.wrap_i64]; unfold hfS; omega
     have hru := hrun i hi2
     have hye := hyes i hi2
     have hnn := hno i hi2
     have hsn : smallT l[i] → ∀ k (h : k < i + 1) (h2 : k < l.length), smallT l[k] := fun hs k h h2 => by
      by_cases e : k = i
      ·subst e; exact hs
      ·exact hsa k (by omega) h2
     generalize l[i] = t at *
     by_cases hst : smallT t
     ·have hsn := hsn hst
      have hsm := fun nc => small8_spec nc t
      rw [smE_y hst] at hsm
      have hap := step_spec (NN i + 152) (nm i) (xr i) t (hfS i) (1 + i) (hn.up (by omega)) (smallT_ok hst) hxi (by omega)
      by_cases h0 : (stepL t (hfS i) (xr i)).1 = 0
      ·have hap := hap.1 h0
       have kb : (nm (i + 1)).b = NN i + 672 ∧ (nm (i + 1)).tm = NN i + 712 ∧ (nm (i + 1)).hm = NN i + 752 := by rw [hye h0]; exact ⟨rfl, rfl, rfl⟩
       rw [← hru, show NN i + 152 + 408 = NN i + 560 by omega, ← hye h0] at hap
       simp only [ledH, ledI, hn2, kb] at hap
       repeat' (first | omega | assumption | (show AL.ahead _ _ _ = true; rfl) | (first | apply brF | apply brT | apply brVF | apply brVT) <;> intro _ | (with_reducible refine And.intro ?_ ?_) | (refine callK_by (hsm _) ?_) | (refine callK_by (hap) ?_) | (simp -dsimp -implicitDefEqProofs only [go_sem, List.cons_append, List.nil_append, hn2, q1, w1, w2, w3, nl, nb, xf, yf]))
       refine ⟨⟨i + 1, hi2, hsn⟩, by show l.length - (i + 1) < l.length - i; omega, rfl, ?_⟩
       simp -dsimp -implicitDefEqProofs only [go_sem, List.cons_append, List.nil_append, hn2, kb, nl, nb, xf, yf]
       all_goals rfl
      ·have hsx := (hap.2 h0).1
       have hap := (hap.2 h0).2
       have hx1 : xr (i + 1) = xr i := by rw [hru, hsx]
       have hm1 := hnn h0
       simp only [ledR, hn2] at hap
       repeat' (first | omega | assumption | (show AL.ahead _ _ _ = true; rfl) | (first | apply brF | apply brT | apply brVF | apply brVT) <;> intro _ | (with_reducible refine And.intro ?_ ?_) | (refine callK_by (hsm _) ?_) | (refine callK_by (hap) ?_) | (simp -dsimp -implicitDefEqProofs only [go_sem, List.cons_append, List.nil_append, hn2, q1, w1, w2, w3, nl, nb, xf, yf]))
       refine ⟨⟨i + 1, hi2, hsn⟩, by show l.length - (i + 1) < l.length - i; omega, rfl, ?_⟩
       simp -dsimp -implicitDefEqProofs only [go_sem, List.cons_append, List.nil_append, hn2, hx1, hm1, nl, nb, xf, yf]
       all_goals rfl
     ·have hsm := fun nc => small8_spec nc t
      rw [smE_n hst] at hsm
      repeat' (first | omega | assumption | (show AL.ahead _ _ _ = true; rfl) | (first | apply brF | apply brT | apply brVF | apply brVT) <;> intro _ | (with_reducible refine And.intro ?_ ?_) | (refine callK_by (hsm _) ?_) | (simp -dsimp -implicitDefEqProofs only [go_sem, List.cons_append, List.nil_append, hn2, q1, w1, nl, nb, xf, yf]))
      all_goals rfl
    ·have e : i = l.length := by omega
     subst e
     exact absurd (fun t ht => by obtain ⟨k, hk, rfl⟩ := List.getElem_of_mem ht; exact hsa k hk hk) h6
def madeP (rs : List BR) (os : List Out_) (l : List Tx_) : Prop := smallP rs ∧ os.length ≤ 16 ∧ smallT (txO os) ∧ l.length ≤ 20 ∧ newE 0 os = 0 ∧ ∀ t ∈ l, smallT t
theorem made_no (nx : Nat) (rs : List BR) (os : List Out_) (l : List Tx_) (h : ¬ madeP rs os l) : FnSpec Tryz.prog 4 nx [.sl 274 (brsA rs) 0, .sl 2 (outsA os) 0, .sl 40 (txsA l) 0] [] (.tup [nilP, nilP, bA false]) [] 0 := by
 by_cases h1 : smallP rs
 ·by_cases h2 : os.length ≤ 16
  ·have c2 : ((16 : Int) < (os.length : Int)) = False := eq_false (by omega)
   by_cases h3 : smallT (txO os)
   ·have e3 := smE_y h3
    have hs8 := fun nc => small8o_spec nc os
    rw [e3] at hs8
    simp only [txOA, sumA] at hs8
    by_cases h4 : l.length ≤ 20
    ·by_cases h5 : newE 0 os = 0
     ·exact made_tx nx rs os l h1 h2 h3 h4 h5 (fun h6 => h ⟨h1, h2, h3, h4, h5, h6⟩)
     ·exact made_new nx rs os l h1 h2 h3 h4 h5
    ·have c4 : ((20 : Int) < (l.length : Int)) = True := eq_true (by omega)
     refine FnSpec.of_code (cx := cx) (an := {}) (rs := [.tmp 6, .tmp 7, .tmp 8]) mo Tryz.func4 rfl rfl (by kernel_rfl) (by kernel_rfl) (by show 3 ≤ _; decide) (.inr ⟨_, rfl, by simp [AV.good]⟩) (by simp [allWr, keys, Res.wr]) ?_
     repeat' (first | omega | assumption | (show AL.ahead _ _ _ = true; rfl) | (first | apply brF | apply brT | apply brVF | apply brVT) <;> intro _ | (with_reducible refine And.intro ?_ ?_) | (refine callK_by (small_yes _ rs h1) ?_) | (refine callK_by (hs8 _) ?_) | (simp -dsimp -implicitDefEqProofs only [go_sem, c2, c4, gt_iff_lt]))
     all_goals rfl
   ·have e3 := smE_n h3
    have hs8 := fun nc => small8o_spec nc os
    rw [e3] at hs8
    simp only [txOA, sumA] at hs8
    refine FnSpec.of_code (cx := cx) (an := {}) (rs := [.tmp 6, .tmp 7, .tmp 8]) mo Tryz.func4 rfl rfl (by kernel_rfl) (by kernel_rfl) (by show 3 ≤ _; decide) (.inr ⟨_, rfl, by simp [AV.good]⟩) (by simp [allWr, keys, Res.wr]) ?_
    repeat' (first | omega | assumption | (show AL.ahead _ _ _ = true; rfl) | (first | apply brF | apply brT | apply brVF | apply brVT) <;> intro _ | (with_reducible refine And.intro ?_ ?_) | (refine callK_by (small_yes _ rs h1) ?_) | (refine callK_by (hs8 _) ?_) | (simp -dsimp -implicitDefEqProofs only [go_sem, c2, gt_iff_lt]))
    all_goals rfl
  ·have c2 : ((16 : Int) < (os.length : Int)) = True := eq_true (by omega)
   refine FnSpec.of_code (cx := cx) (an := {}) (rs := [.tmp 6, .tmp 7, .tmp 8]) mo Tryz.func4 rfl rfl (by kernel_rfl) (by kernel_rfl) (by show 3 ≤ _; decide) (.inr ⟨_, rfl, by simp [AV.good]⟩) (by simp [allWr, keys, Res.wr]) ?_
   repeat' (first | omega | assumption | (show AL.ahead _ _ _ = true; rfl) | (first | apply brF | apply brT | apply brVF | apply brVT) <;> intro _ | (with_reducible refine And.intro ?_ ?_) | (refine callK_by (small_yes _ rs h1) ?_) | (simp -dsimp -implicitDefEqProofs only [go_sem, c2, gt_iff_lt]))
   all_goals rfl
 ·refine FnSpec.of_code (cx := cx) (an := {}) (rs := [.tmp 6, .tmp 7, .tmp 8]) mo Tryz.func4 rfl rfl (by kernel_rfl) (by kernel_rfl) (by show 3 ≤ _; decide) (.inr ⟨_, rfl, by simp [AV.good]⟩) (by simp [allWr, keys, Res.wr]) ?_
  repeat' (first | omega | assumption | (show AL.ahead _ _ _ = true; rfl) | (first | apply brF | apply brT | apply brVF | apply brVT) <;> intro _ | (with_reducible refine And.intro ?_ ?_) | (refine callK_by (small_no _ rs h1) ?_) | (simp -dsimp -implicitDefEqProofs only [go_sem]))
  all_goals rfl
end Go.Proofs.YtaghcjbpjnpkbaaGreat

/-
 A book and a ledger: what is too large, or none.
-/
import Derived.Test.YthfoeaokfhbdaaaGreatDP125
import Derived.Test.YthfoeaokfhbdaaaGreatDP112
set_option linter.unusedSimpArgs false
set_option linter.unusedVariables false
set_option maxRecDepth 100000
set_option maxHeartbeats 8000000
namespace Go.Proofs.YthfoeaokfhbdaaaGreat
open Go Go.AL Go.Proofs.YthfoeaokfhbdaaaGreat.T
attribute [local go_sem] nb_u8s u8s_length nb_sum sumA List.length_replicate zero_sum sum_h u8s_nil sums_len nb_sums states_len helds_len nb_states nb_helds signs_len nb_signs nb_keysT nb_valsT txs_len nb_txs outs_len nb_outs txA_good txA_csz txA_agg nb_tx brs_len nb_brs nbK_ref nbK_int nbK_pair nbK_sum nbV_coin nbV_tow nbV_hold nbV_done nbV_spend nb_sums
theorem made_new (nx : Nat) (rs : List BR) (os : List Out_) (l : List Tx_) (h1 : smallP rs) (h2 : os.length ≤ 16) (h3 : smallT (txO os)) (h4 : l.length ≤ 20) (h5 : newE 0 os ≠ 0) :
  FnSpec Tryz.prog 33 nx [.sl 274 (brsA rs) 0, .sl 2 (outsA os) 0, .sl 40 (txsA l) 0] [] (.tup [nilP, nilP, bA false]) [] 0 := by

 obtain ⟨hl, hall⟩ := id h1
 have hnb := fun b' => bkA_nb (N := nx + 200) (m := nx + 240) (by omega) b'
 have e3 := smE_y h3
 have hs8 := fun nc => small8o_spec nc os
 rw [e3] at hs8
 simp only [txOA, sumA] at hs8
 have c2 : ((16 : Int) < (os.length : Int)) = False := eq_false (by omega)
 have c4 : ((20 : Int) < (l.length : Int)) = False := eq_false (by omega)
 refine FnSpec.of_code (cx := cx) (an := {}) (rs := [.tmp 6, .tmp 7, .tmp 8]) mo Tryz.func33 rfl rfl (by kernel_rfl) (by kernel_rfl) (by show 3 ≤ _; decide) (.inr ⟨_, rfl, by simp [AV.good]⟩) (by simp [allWr, keys, Res.wr]) ?_
 repeat' (first | omega | assumption | (show AL.ahead _ _ _ = true; rfl) | (first | apply brF | apply brT | apply brVF | apply brVT) <;> intro _ | (with_reducible refine And.intro ?_ ?_) | (refine callK_by (small_yes _ rs h1) ?_) | (refine callK_by (hs8 _) ?_) | (refine callK_by (newbk_spec _) ?_) | (simp -dsimp -implicitDefEqProofs only [go_sem, c2, c4, gt_iff_lt]))
 apply loop_keep [0, 1, 2, 9] (fun i : { i : Nat // i ≤ rs.length } => [(10, n64 i.1)]) (fun i => bookH (runB rs i.1) (nx + 200)) (fun i => rs.length - i.1) ⟨0, Nat.zero_le _⟩
 ·simp -dsimp -implicitDefEqProofs only [go_sem]; try rfl
 ·simp -dsimp -implicitDefEqProofs only [go_sem]; try rfl
 ·simp -dsimp -implicitDefEqProofs only [go_sem, runB_zero]; try rfl
 ·intro s
  simp -dsimp -implicitDefEqProofs only [go_sem, nb_brs, hnb]
  all_goals omega
 ·rintro ⟨i, hi⟩
  have hi : i ≤ rs.length := hi
  have hok := runB_ok rs i hi
  simp -dsimp -implicitDefEqProofs only [go_sem, brs_len]
  refine brT (fun hc => ?_) (fun hc => ?_)
  ·have hi2 : i < rs.length := by omega
   have q1 := brs_get hi2
   have w1 : IntKind.i64.wrap ((i : Int) + 1) = ((i + 1 : Nat) : Int) := wrapE (by omega) (by omega)
   have hrs := runB_succ hi2
   obtain ⟨g1, g2⟩ := hall rs[i] (List.getElem_mem hi2)
   generalize rs[i] = r at *
   have hap := fun nc (h : nx + 232 ≤ nc) => apply_spec nc (nx + 200) (runB rs i) r (by omega) (okB_bk hok (by omega)) ⟨by omega, by omega⟩
   rw [← hrs] at hap
   repeat' (first | omega | assumption | (show AL.ahead _ _ _ = true; rfl) | (first | apply brF | apply brT | apply brVF | apply brVT) <;> intro _ | (with_reducible refine And.intro ?_ ?_) | (refine callK_by (hap _ (by omega)) ?_) | (simp -dsimp -implicitDefEqProofs only [go_sem, q1, w1, brs_len, brA_good, brA_csz, brA_agg, brA_nb]))
   exact ⟨⟨i + 1, hi2⟩, by show rs.length - (i + 1) < rs.length - i; omega, rfl, rfl, rfl, rfl, rfl, rfl, rfl⟩
  ·have e : i = rs.length := by omega
   subst e
   generalize runB rs rs.length = B at *
   have hnw := fun nc => newNo_spec nc 0 os h5 h2 (fun o ho => ⟨by have := (h3.2.2.2.2.2 o ho).1; omega, fun w hw => by have := (h3.2.2.2.2.2 o ho).2 w hw; omega⟩) (.inl (by decide))
   generalize newE 0 os = E at *
   repeat' (first | omega | assumption | (show AL.ahead _ _ _ = true; rfl) | (first | apply brF | apply brT | apply brVF | apply brVT) <;> intro _ | (with_reducible refine And.intro ?_ ?_) | (refine callK_by (hnw _) ?_) | (simp -dsimp -implicitDefEqProofs only [go_sem, h5]))
   all_goals rfl
theorem made_tx (nx : Nat) (rs : List BR) (os : List Out_) (l : List Tx_) (h1 : smallP rs) (h2 : os.length ≤ 16) (h3 : smallT (txO os)) (h4 : l.length ≤ 20) (h5 : newE 0 os = 0) (h6 : ¬ ∀ t ∈ l, smallT t) :
  FnSpec Tryz.prog 33 nx [.sl 274 (brsA rs) 0, .sl 2 (outsA os) 0, .sl 40 (txsA l) 0] [] (.tup [nilP, nilP, bA false]) [] 0 := by

 obtain ⟨hl, hall⟩ := id h1
 have hnb := fun b' => bkA_nb (N := nx + 200) (m := nx + 240) (by omega) b'
 have e3 := smE_y h3
 have hs8 := fun nc => small8o_spec nc os
 rw [e3] at hs8
 simp only [txOA, sumA] at hs8
 have hX0 := newS_ok h3
 obtain ⟨NN, hNN, hMM⟩ : ∃ NN : Nat → Nat, (∀ i, NN i = nx + 4408 + 5000 * i) ∧ (fun i => nx + 4408 + 5000 * i + 560) = fun i => NN i + 560 := ⟨fun i => nx + 4408 + 5000 * i, fun _ => rfl, rfl⟩
 have hN0 := hNN 0
 have hn1 := nmL_ok (hf := hfS) (M := fun i => NN i + 560) (N := NN) (n0 := newN (nx + 440)) (x0 := newS os) (l := l) (newN_ok (by rw [hN0]; omega)) (fun i => by have := hNN i; have := hNN (i + 1); omega)
 have hn2 : ∀ i, _ ∧ _ ∧ _ ∧ _ ∧ _ ∧ _ := nmL_same hfS (fun i => NN i + 560) (newN (nx + 440)) (newS os) l
 have hn3 := nmL_ge (B := nx + 544) (hf := hfS) (M := fun i => NN i + 560) (n0 := newN (nx + 440)) (x0 := newS os) (l := l) ⟨by simp only [newN]; omega, by simp only [newN]; omega, by simp only [newN]; omega⟩ (fun i => by have := hNN i; omega)
 have hz : nmL hfS (fun i => NN i + 560) (newN (nx + 440)) (newS os) l 0 = newN (nx + 440) := rfl
 have hx0 : runL hfS (newS os) l 0 = newS os := rfl
 have hyes := fun i (h : i < l.length) => nmL_yes (hf := hfS) (M := fun i => NN i + 560) (n0 := newN (nx + 440)) (x0 := newS os) h
 have hno := fun i (h : i < l.length) => nmL_no (hf := hfS) (M := fun i => NN i + 560) (n0 := newN (nx + 440)) (x0 := newS os) h
 have hrun := fun i (h : i < l.length) => runL_succ hfS (newS os) h
 have hxo := fun i (h : i ≤ l.length) => runL_ok (hf := hfS) (l := l) hX0 i h
 generalize nmL hfS (fun i => NN i + 560) (newN (nx + 440)) (newS os) l = nm at *
 generalize runL hfS (newS os) l = xr at *
 have c2 : ((16 : Int) < (os.length : Int)) = False := eq_false (by omega)
 have c4 : ((20 : Int) < (l.length : Int)) = False := eq_false (by omega)
 refine FnSpec.of_code (cx := cx) (an := {}) (rs := [.tmp 6, .tmp 7, .tmp 8]) mo Tryz.func33 rfl rfl (by kernel_rfl) (by kernel_rfl) (by show 3 ≤ _; decide) (.inr ⟨_, rfl, by simp [AV.good]⟩) (by simp [allWr, keys, Res.wr]) ?_
 repeat' (first | omega | assumption | (show AL.ahead _ _ _ = true; rfl) | (first | apply brF | apply brT | apply brVF | apply brVT) <;> intro _ | (with_reducible refine And.intro ?_ ?_) | (refine callK_by (small_yes _ rs h1) ?_) | (refine callK_by (hs8 _) ?_) | (refine callK_by (newbk_spec _) ?_) | (simp -dsimp -implicitDefEqProofs only [go_sem, c2, c4, gt_iff_lt]))
 apply loop_keep [0, 1, 2, 9] (fun i : { i : Nat // i ≤ rs.length } => [(10, n64 i.1)]) (fun i => bookH (runB rs i.1) (nx + 200)) (fun i => rs.length - i.1) ⟨0, Nat.zero_le _⟩
 ·simp -dsimp -implicitDefEqProofs only [go_sem]; try rfl
 ·simp -dsimp -implicitDefEqProofs only [go_sem]; try rfl
 ·simp -dsimp -implicitDefEqProofs only [go_sem, runB_zero]; try rfl
 ·intro s
  simp -dsimp -implicitDefEqProofs only [go_sem, nb_brs, hnb]
  all_goals omega
 ·rintro ⟨i, hi⟩
  have hi : i ≤ rs.length := hi
  have hok := runB_ok rs i hi
  simp -dsimp -implicitDefEqProofs only [go_sem, brs_len]
  refine brT (fun hc => ?_) (fun hc => ?_)
  ·have hi2 : i < rs.length := by omega
   have q1 := brs_get hi2
   have w1 : IntKind.i64.wrap ((i : Int) + 1) = ((i + 1 : Nat) : Int) := wrapE (by omega) (by omega)
   have hrs := runB_succ hi2
   obtain ⟨g1, g2⟩ := hall rs[i] (List.getElem_mem hi2)
   generalize rs[i] = r at *
   have hap := fun nc (h : nx + 232 ≤ nc) => apply_spec nc (nx + 200) (runB rs i) r (by omega) (okB_bk hok (by omega)) ⟨by omega, by omega⟩
   rw [← hrs] at hap
   repeat' (first | omega | assumption | (show AL.ahead _ _ _ = true; rfl) | (first | apply brF | apply brT | apply brVF | apply brVT) <;> intro _ | (with_reducible refine And.intro ?_ ?_) | (refine callK_by (hap _ (by omega)) ?_) | (simp -dsimp -implicitDefEqProofs only [go_sem, q1, w1, brs_len, brA_good, brA_csz, brA_agg, brA_nb]))
   exact ⟨⟨i + 1, hi2⟩, by show rs.length - (i + 1) < rs.length - i; omega, rfl, rfl, rfl, rfl, rfl, rfl, rfl⟩
  ·have e : i = rs.length := by omega
   subst e
   generalize runB rs rs.length = B at *
   have hnw := newOk_spec (nx + 352) 0 os h5 h2 (fun o ho => ⟨by have := (h3.2.2.2.2.2 o ho).1; omega, fun w hw => by have := (h3.2.2.2.2.2 o ho).2 w hw; omega⟩) (smallT_ok h3).b (.inl (by decide))
   have hH : ledH (newN (nx + 352 + 88)) (newS os) = [(nx + 480, some (.obj (ledA (newN (nx + 440)) (newS os)))), (nx + 520, some (.obj (.agg 1 [.map (nx + 504)]))), (nx + 504, some (.mp (coinsE (newS os).coins))), (nx + 568, some (.obj (boardA (nx + 544) (nx + 552)))), (nx + 544, some (.mp (towsE (newS os).towers))), (nx + 552, some (.mp (holdsE (newS os).holds))), (nx + 456, some (.mp (donesE (newS os).done))), (nx + 464, some (.mp (spentE (newS os).spent))), (nx + 473, some (.tail (newS os).order.length))] := rfl
   have hl0 : (newN (nx + 352 + 88)).l = nx + 480 := rfl
   rw [hH, hl0] at hnw
   repeat' (first | omega | assumption | (show AL.ahead _ _ _ = true; rfl) | (first | apply brF | apply brT | apply brVF | apply brVT) <;> intro _ | (with_reducible refine And.intro ?_ ?_) | (refine callK_by (hnw) ?_) | (simp -dsimp -implicitDefEqProofs only [go_sem]))
   rw [← hz, ← hx0, show nx + 4408 = NN 0 by omega]
   have hn2 : ∀ i, (nm i).l = nx + 480 ∧ (nm i).v = nx + 520 ∧ (nm i).vm = nx + 504 ∧ (nm i).d = nx + 456 ∧ (nm i).s = nx + 464 ∧ (nm i).o = nx + 473 := hn2
   have k0 : (nm 0).b = nx + 568 ∧ (nm 0).tm = nx + 544 ∧ (nm 0).hm = nx + 552 := by rw [hz]; exact ⟨rfl, rfl, rfl⟩
   apply loop_grow [2, 9, 11] (fun i : { i : Nat // i ≤ l.length ∧ ∀ k (h : k < i) (h2 : k < l.length), smallT l[k] } => [(14, n64 i.1)]) (fun i => bookH B (nx + 200) ++ ledH (nm i.1) (xr i.1)) (fun i => l.length - i.1) (fun i => NN i.1) ⟨0, Nat.zero_le _, fun k h => absurd h (by omega)⟩
   ·simp -dsimp -implicitDefEqProofs only [go_sem]; try rfl
   ·simp -dsimp -implicitDefEqProofs only [go_sem]; try rfl
   ·simp -dsimp -implicitDefEqProofs only [go_sem, List.cons_append, List.nil_append, hn2, k0]; try rfl
   ·intro s
    have hlt := (hn1 s.1).lt
    have hs := hNN s.1
    have hnb2 := bkA_nb (N := nx + 200) (m := NN s.1) (by omega) B
    simp -dsimp -implicitDefEqProofs only [go_sem, List.cons_append, List.nil_append, hn2, hnb2, ledA, boardA]
    all_goals (try omega)
   ·rintro ⟨i, hi, hsa⟩
    have hi : i ≤ l.length := hi
    have hsa : ∀ k (h : k < i) (h2 : k < l.length), smallT l[k] := hsa
    have hn := hn1 i
    have hge := hn3 i
    have hxi := hxo i hi (fun k q q2 => smallT_ok (hsa k q q2))
    have hNi := hNN i
    have xf := hn.xf
    have yf := hn.nf
    have nl : ∀ j k, j < 600 → ((nx + j = NN i + k) = False) ∧ ((NN i + k = nx + j) = False) ∧ ((nx + j = NN i) = False) ∧ ((NN i = nx + j) = False) := fun j k h => by
     simp only [eq_iff_iff, iff_false]; omega
    have nb : ∀ j, j < 544 → (((nm i).b = nx + j) = False) ∧ ((nx + j = (nm i).b) = False) ∧ (((nm i).tm = nx + j) = False) ∧ ((nx + j = (nm i).tm) = False) ∧ (((nm i).hm = nx + j) = False) ∧ ((nx + j = (nm i).hm) = False) := fun j h => by
     simp only [eq_iff_iff, iff_false]; omega
    simp -dsimp -implicitDefEqProofs only [go_sem, List.cons_append, List.nil_append, hn2]
    refine brT (fun hc => ?_) (fun hc => ?_)
    ·have hi2 : i < l.length := by omega
     have q1 := txs_get hi2
     have w1 : IntKind.i64.wrap ((i : Int) + 1) = ((i + 1 : Nat) : Int) := wrapE (by omega) (by omega)
     have w2 : IntKind.i64.wrap (100 * (i : Int)) = 100 * (i : Int) := by rw [IntKind.wrap_i64]; omega
     have w3 : IntKind.i64.wrap (100 * (i : Int) + 1) = hfS i := by rw [IntKind.wrap_i64]; unfold hfS; omega
     have hru := hrun i hi2
     have hye := hyes i hi2
     have hnn := hno i hi2
     have hsn : smallT l[i] → ∀ k (h : k < i + 1) (h2 : k < l.length), smallT l[k] := fun hs k h h2 => by
      by_cases e : k = i
      ·subst e; exact hs
      ·exact hsa k (by omega) h2
     generalize l[i] = t at *
     by_cases hst : smallT t
     ·have hsn := hsn hst
      have hsm := fun nc => small8_spec nc t
      rw [smE_y hst] at hsm
      have hap := step_spec (NN i + 152) (nm i) (xr i) t (hfS i) (1 + i) (hn.up (by omega)) (smallT_ok hst) hxi (by omega)
      by_cases h0 : (stepL t (hfS i) (xr i)).1 = 0
      ·have hap := hap.1 h0
       have kb : (nm (i + 1)).b = NN i + 672 ∧ (nm (i + 1)).tm = NN i + 712 ∧ (nm (i + 1)).hm = NN i + 752 := by rw [hye h0]; exact ⟨rfl, rfl, rfl⟩
       rw [← hru, show NN i + 152 + 408 = NN i + 560 by omega, ← hye h0] at hap
       simp only [ledH, ledI, hn2, kb] at hap
       repeat' (first | omega | assumption | (show AL.ahead _ _ _ = true; rfl) | (first | apply brF | apply brT | apply brVF | apply brVT) <;> intro _ | (with_reducible refine And.intro ?_ ?_) | (refine callK_by (hsm _) ?_) | (refine callK_by (hap) ?_) | (simp -dsimp -implicitDefEqProofs only [go_sem, List.cons_append, List.nil_append, hn2, q1, w1, w2, w3, nl, nb, xf, yf]))
       refine ⟨⟨i + 1, hi2, hsn⟩, by show l.length - (i + 1) < l.length - i; omega, rfl, ?_⟩
       simp -dsimp -implicitDefEqProofs only [go_sem, List.cons_append, List.nil_append, hn2, kb, nl, nb, xf, yf]
       all_goals rfl
      ·have hsx := (hap.2 h0).1
       have hap := (hap.2 h0).2
       have hx1 : xr (i + 1) = xr i := by rw [hru, hsx]
       have hm1 := hnn h0
       simp only [ledR, hn2] at hap
       repeat' (first | omega | assumption | (show AL.ahead _ _ _ = true; rfl) | (first | apply brF | apply brT | apply brVF | apply brVT) <;> intro _ | (with_reducible refine And.intro ?_ ?_) | (refine callK_by (hsm _) ?_) | (refine callK_by (hap) ?_) | (simp -dsimp -implicitDefEqProofs only [go_sem, List.cons_append, List.nil_append, hn2, q1, w1, w2, w3, nl, nb, xf, yf]))
       refine ⟨⟨i + 1, hi2, hsn⟩, by show l.length - (i + 1) < l.length - i; omega, rfl, ?_⟩
       simp -dsimp -implicitDefEqProofs only [go_sem, List.cons_append, List.nil_append, hn2, hx1, hm1, nl, nb, xf, yf]
       all_goals rfl
     ·have hsm := fun nc => small8_spec nc t
      rw [smE_n hst] at hsm
      repeat' (first | omega | assumption | (show AL.ahead _ _ _ = true; rfl) | (first | apply brF | apply brT | apply brVF | apply brVT) <;> intro _ | (with_reducible refine And.intro ?_ ?_) | (refine callK_by (hsm _) ?_) | (simp -dsimp -implicitDefEqProofs only [go_sem, List.cons_append, List.nil_append, hn2, q1, w1, nl, nb, xf, yf]))
      all_goals rfl
    ·have e : i = l.length := by omega
     subst e
     exact absurd (fun t ht => by obtain ⟨k, hk, rfl⟩ := List.getElem_of_mem ht; exact hsa k hk hk) h6
def madeP (rs : List BR) (os : List Out_) (l : List Tx_) : Prop := smallP rs ∧ os.length ≤ 16 ∧ smallT (txO os) ∧ l.length ≤ 20 ∧ newE 0 os = 0 ∧ ∀ t ∈ l, smallT t
theorem made_no (nx : Nat) (rs : List BR) (os : List Out_) (l : List Tx_) (h : ¬ madeP rs os l) : FnSpec Tryz.prog 33 nx [.sl 274 (brsA rs) 0, .sl 2 (outsA os) 0, .sl 40 (txsA l) 0] [] (.tup [nilP, nilP, bA false]) [] 0 := by
 by_cases h1 : smallP rs
 ·by_cases h2 : os.length ≤ 16
  ·have c2 : ((16 : Int) < (os.length : Int)) = False := eq_false (by omega)
   by_cases h3 : smallT (txO os)
   ·have e3 := smE_y h3
    have hs8 := fun nc => small8o_spec nc os
    rw [e3] at hs8
    simp only [txOA, sumA] at hs8
    by_cases h4 : l.length ≤ 20
    ·by_cases h5 : newE 0 os = 0
     ·exact made_tx nx rs os l h1 h2 h3 h4 h5 (fun h6 => h ⟨h1, h2, h3, h4, h5, h6⟩)
     ·exact made_new nx rs os l h1 h2 h3 h4 h5
    ·have c4 : ((20 : Int) < (l.length : Int)) = True := eq_true (by omega)
     refine FnSpec.of_code (cx := cx) (an := {}) (rs := [.tmp 6, .tmp 7, .tmp 8]) mo Tryz.func33 rfl rfl (by kernel_rfl) (by kernel_rfl) (by show 3 ≤ _; decide) (.inr ⟨_, rfl, by simp [AV.good]⟩) (by simp [allWr, keys, Res.wr]) ?_
     repeat' (first | omega | assumption | (show AL.ahead _ _ _ = true; rfl) | (first | apply brF | apply brT | apply brVF | apply brVT) <;> intro _ | (with_reducible refine And.intro ?_ ?_) | (refine callK_by (small_yes _ rs h1) ?_) | (refine callK_by (hs8 _) ?_) | (simp -dsimp -implicitDefEqProofs only [go_sem, c2, c4, gt_iff_lt]))
     all_goals rfl
   ·have e3 := smE_n h3
    have hs8 := fun nc => small8o_spec nc os
    rw [e3] at hs8
    simp only [txOA, sumA] at hs8
    refine FnSpec.of_code (cx := cx) (an := {}) (rs := [.tmp 6, .tmp 7, .tmp 8]) mo Tryz.func33 rfl rfl (by kernel_rfl) (by kernel_rfl) (by show 3 ≤ _; decide) (.inr ⟨_, rfl, by simp [AV.good]⟩) (by simp [allWr, keys, Res.wr]) ?_
    repeat' (first | omega | assumption | (show AL.ahead _ _ _ = true; rfl) | (first | apply brF | apply brT | apply brVF | apply brVT) <;> intro _ | (with_reducible refine And.intro ?_ ?_) | (refine callK_by (small_yes _ rs h1) ?_) | (refine callK_by (hs8 _) ?_) | (simp -dsimp -implicitDefEqProofs only [go_sem, c2, gt_iff_lt]))
    all_goals rfl
  ·have c2 : ((16 : Int) < (os.length : Int)) = True := eq_true (by omega)
   refine FnSpec.of_code (cx := cx) (an := {}) (rs := [.tmp 6, .tmp 7, .tmp 8]) mo Tryz.func33 rfl rfl (by kernel_rfl) (by kernel_rfl) (by show 3 ≤ _; decide) (.inr ⟨_, rfl, by simp [AV.good]⟩) (by simp [allWr, keys, Res.wr]) ?_
   repeat' (first | omega | assumption | (show AL.ahead _ _ _ = true; rfl) | (first | apply brF | apply brT | apply brVF | apply brVT) <;> intro _ | (with_reducible refine And.intro ?_ ?_) | (refine callK_by (small_yes _ rs h1) ?_) | (simp -dsimp -implicitDefEqProofs only [go_sem, c2, gt_iff_lt]))
   all_goals rfl
 ·refine FnSpec.of_code (cx := cx) (an := {}) (rs := [.tmp 6, .tmp 7, .tmp 8]) mo Tryz.func33 rfl rfl (by kernel_rfl) (by kernel_rfl) (by show 3 ≤ _; decide) (.inr ⟨_, rfl, by simp [AV.good]⟩) (by simp [allWr, keys, Res.wr]) ?_
  repeat' (first | omega | assumption | (show AL.ahead _ _ _ = true; rfl) | (first | apply brF | apply brT | apply brVF | apply brVT) <;> intro _ | (with_reducible refine And.intro ?_ ?_) | (refine callK_by (small_no _ rs h1) ?_) | (simp -dsimp -implicitDefEqProofs only [go_sem]))
  all_goals rfl
end Go.Proofs.YthfoeaokfhbdaaaGreat

namespace Go.Proofs.YthfoeaokfhbdaaaGreat
open Go Go.AL Go.Proofs.YthfoeaokfhbdaaaGreat.T
def bldT (c : Chan) (ow : Int) (s : St_) : Tx_ := if ow = 0 then buildT c c.client c.peer s.client s.peer s.h0 else buildT c c.peer c.client s.peer s.client s.h1
def bldP (c : Chan) (ow : Int) (s : St_) : Prop := stR c s = true ∧ (ow = 0 ∨ ow = 1)
section
open Classical
noncomputable def bldE (c : Chan) (ow : Int) (s : St_) : Int := if bldP c ow s then 0 else 1
noncomputable def bldA (c : Chan) (ow : Int) (s : St_) : AV := if bldP c ow s then (if ow = 0 then buildA c c.client c.peer s.client s.peer s.h0 else buildA c c.peer c.client s.peer s.client s.h1) else txZA
noncomputable def isCm (c : Chan) (ow : Int) (id : Sum) (s : St_) : Bool := decide (bldE c ow s = 0 ∧ txS (bldT c ow s) = id)
noncomputable def stF (c : Chan) (ow : Int) (id : Sum) : List St_ → Int
 | [] => -1
 | s :: r => if isCm c ow id s = true then s.n else stF c ow id r
end
theorem build_spec (nx : Nat) (c : Chan) (ow : Int) (s : St_) : FnSpec Tryz.prog 86 nx [chanA c, stateA s, n64 ow] [] (.tup [bldA c ow s, n64 (bldE c ow s)]) [] 0 := by
 unfold bldA bldE
 by_cases h : bldP c ow s
 ·rw [if_pos h, if_pos h]
  obtain ⟨h1, h2⟩ := h
  by_cases h0 : ow = 0
  ·rw [if_pos h0, h0]; exact build0_spec nx c s h1
  ·rw [if_neg h0, h2.resolve_left h0]; exact build1_spec nx c s h1
 ·rw [if_neg h, if_neg h]
  refine buildN_spec nx c s ow ?_
  rcases Bool.eq_false_or_eq_true (stR c s) with q | q
  ·refine .inr ⟨fun e => h ⟨q, .inl e⟩, fun e => h ⟨q, .inr e⟩⟩
  ·exact .inl q
theorem bldA_g (c : Chan) (ow : Int) (s : St_) : (bldA c ow s).good = true ∧ (bldA c ow s).isAgg = true ∧ (bldA c ow s).csize = 40 ∧ ∀ m, AV.nb m (bldA c ow s) := by
 unfold bldA; split
 ·split
  ·exact ⟨rfl, rfl, rfl, fun m => by simp [buildA, refA, outA, AV.nb, AV.nbs, nb_sum, nb_ways]⟩
  ·exact ⟨rfl, rfl, rfl, fun m => by simp [buildA, refA, outA, AV.nb, AV.nbs, nb_sum, nb_ways]⟩
 ·exact ⟨rfl, rfl, rfl, fun m => by simp [txZA, AV.nb, AV.nbs, nb_sum]⟩
theorem bldA_le {c : Chan} {ow : Int} {s : St_} (h : bldE c ow s = 0) : AV.le (bldA c ow s) (txA (bldT c ow s)) := by
 have hp : bldP c ow s := by
  refine Classical.byContradiction fun q => ?_
  unfold bldE at h; rw [if_neg q] at h; exact absurd h (by decide)
 unfold bldA bldT
 rw [if_pos hp]
 split
 ·exact buildA_le ..
 ·exact buildA_le ..
theorem buildT_sm (c : Chan) (me other mine hers : Int) (h : Sum) : (bodyL true (buildT c me other mine hers h)).length < 2 ^ 38 ∧ ∀ o ∈ (buildT c me other mine hers h).outs, ∀ w ∈ o.ways, w.keys.length < 2 ^ 32 := by
 constructor
 ·have h0 := c.fund.tx.h
  have h1 := h.h
  have h2 := zeroS.h
  have f : ∀ x, (numI x).length ≤ 10 := numI_len
  simp only [buildT, toO, bodyL, inL, outL, wayL, opL, op0, if_true, List.flatMap_cons, List.flatMap_nil, List.append_nil, List.length_append, List.length_cons, List.length_nil, h0, h1, h2]
  have g0 := f 0
  have g1 := f 1
  have g2 := f 2
  have g3 := f mine
  have g4 := f hers
  have g5 := f me
  have g6 := f other
  have g7 := f c.fund.at_
  have g8 := f c.wait
  simp only [Nat.zero_add, Nat.reduceAdd, Int.natCast_zero]
  have g10 := f ((1 : Nat) : Int)
  have g11 := f ((2 : Nat) : Int)
  omega
 ·intro o ho w hw
  simp only [buildT, toO, List.mem_cons, List.not_mem_nil, or_false] at ho
  rcases ho with rfl | rfl
  ·simp only [List.mem_cons, List.not_mem_nil, or_false] at hw
   rcases hw with rfl | rfl <;> (simp only [List.length_cons, List.length_nil]; omega)
  ·simp only [List.mem_cons, List.not_mem_nil, or_false] at hw
   subst hw; simp only [List.length_cons, List.length_nil]; omega
theorem bldT_sm (c : Chan) (ow : Int) (s : St_) : (bodyL true (bldT c ow s)).length < 2 ^ 38 ∧ ∀ o ∈ (bldT c ow s).outs, ∀ w ∈ o.ways, w.keys.length < 2 ^ 32 := by
 unfold bldT; split
 ·exact buildT_sm ..
 ·exact buildT_sm ..
theorem bsum_spec (nx : Nat) (c : Chan) (ow : Int) (s : St_) (h : bldE c ow s = 0) : FnSpec Tryz.prog 47 nx [bldA c ow s] [] (sumA (txS (bldT c ow s))) [] 0 :=
 (txSum_spec nx (bldT c ow s) (bldT_sm c ow s).1 (bldT_sm c ow s).2).le (args := [bldA c ow s]) ⟨_, _, rfl, bldA_le h, rfl⟩
end Go.Proofs.YthfoeaokfhbdaaaGreat

namespace Go.Proofs.YthfoeaokfhbdaaaGreat
open Go Go.AL Go.Proofs.YthfoeaokfhbdaaaGreat.T
attribute [local go_sem] nb_u8s u8s_length nb_sum sumA List.length_replicate zero_sum sum_h u8s_nil sums_len nb_sums states_len helds_len nb_states nb_helds signs_len nb_signs nb_keysT nb_valsT
theorem cloneS_nil (nx t : Nat) : FnSpec Tryz.prog 87 nx [.sl 67 [] t] [] (.sl 67 [] 0) [] 0 := by
 refine FnSpec.empty fun b n => ?_
 cases b with
 | none =>
  have h : FnSpec Tryz.prog 87 nx [.val (.slice none 0 n)] [] (.sl 0 [] 1) [] 0 := by
   refine FnSpec.of_code (cx := cx) (an := {}) (rs := [.tmp 2]) mo Tryz.func87 rfl rfl (by kernel_rfl) (by kernel_rfl) (by show 1 ≤ _; decide) (.inl rfl) (by simp [allWr, keys, Res.wr]) ?_
   repeat' (first | omega | assumption | (show AL.ahead _ _ _ = true; rfl) | (first | apply brF | apply brT | apply brVF | apply brVT) <;> intro _ | (with_reducible refine And.intro ?_ ?_) | (simp -dsimp -implicitDefEqProofs only [go_sem, Option.isNone_none]))
  exact h.forget0 ⟨rfl, .inr ⟨.inr rfl, .inl rfl⟩⟩ (by simp [AV.nb, AV.nbs]) (by simp [keys])
 | some a =>
  have h : FnSpec Tryz.prog 87 nx [.val (.slice (some a) 0 n)] [] (.sl 67 [] (nx + 42)) [(nx + 40, some (.tail 0))] 60 := by
   refine FnSpec.of_code (cx := cx) (an := {}) (rs := [.tmp 2]) mo Tryz.func87 rfl rfl (by kernel_rfl) (by kernel_rfl) (by show 1 ≤ _; decide) (.inl rfl) (by simp [allWr, keys, Res.wr]) ?_
   repeat' (first | omega | assumption | (show AL.ahead _ _ _ = true; rfl) | (first | apply brF | apply brT | apply brVF | apply brVT) <;> intro _ | (with_reducible refine And.intro ?_ ?_) | (simp -dsimp -implicitDefEqProofs only [go_sem, Option.isNone_some]))
  exact h.forget0 ⟨rfl, .inr ⟨.inl rfl, .inl rfl⟩⟩ (by simp [AV.nb, AV.nbs]) (by simp [keys])
theorem cloneS_spec (nx t : Nat) (l : List St_) (hl : l.length ≤ 1000) (ht : t < 2 ∨ t - 2 < nx) : FnSpec Tryz.prog 87 nx [.sl 67 (statesA l) t] [] (.sl 67 (statesA l) 0) [] 0 := by
 cases l with
 | nil => exact cloneS_nil nx t
 | cons a l =>
  have e : statesA (a :: l) = stateA a :: statesA l := rfl
  simp only [List.length_cons] at hl
  have h : FnSpec Tryz.prog 87 nx [.sl 67 (statesA (a :: l)) t] [] (.sl 67 (statesA (a :: l)) (nx + 42)) [(nx + 40, some (.tail (statesA (a :: l)).length))] 60 := by
   rw [e]
   refine FnSpec.of_code (cx := cx) (an := {}) (rs := [.tmp 2]) mo Tryz.func87 rfl rfl (by kernel_rfl) (by kernel_rfl) (by show 1 ≤ _; decide) (.inl rfl) (by simp [allWr, keys, Res.wr]) ?_
   repeat' (first | omega | assumption | (show AL.ahead _ _ _ = true; rfl) | (first | apply brF | apply brT | apply brVF | apply brVT) <;> intro _ | (with_reducible refine And.intro ?_ ?_) | (simp -dsimp -implicitDefEqProofs only [go_sem, stateA]))
  exact h.forget0 ⟨rfl, .inr ⟨.inl rfl, .inl rfl⟩⟩ (by simp [AV.nb, nb_states]) (by simp [keys])
theorem bstates_spec (nx N : Nat) (b : Bk) (hN : N + 16 < nx) (hL : bkL b) : FnSpec Tryz.prog 39 nx [.ref (N + 16) 0 []] [(N + 16, some (.robj (bookA b N)))] (.sl 67 (statesA b.states) 0) [] 0 := by
 have hx := bkN hN
 have hno := fun nc (h : nx ≤ nc) => bnone_spec nc N b (by omega)
 have hcl := fun nc (h : nx ≤ nc) => cloneS_spec nc (N + 11) b.states hL.1 (by omega)
 simp only [bookA, chanA, refA] at hno
 refine FnSpec.of_code (cx := cx) (an := {}) (rs := [.tmp 2]) mo Tryz.func39 rfl rfl (by kernel_rfl) (by kernel_rfl) (by show 1 ≤ _; decide) (.inl rfl) (by simp [allWr, keys, Res.wr]) ?_
 repeat' (first | omega | assumption | (show AL.ahead _ _ _ = true; rfl) | (first | apply brF | apply brT | apply brVF | apply brVT) <;> intro _ | (with_reducible refine And.intro ?_ ?_) | (refine callK_by (hno _ (by omega)) ?_) | (refine callK_by (hcl _ (by omega)) ?_) | (simp -dsimp -implicitDefEqProofs only [go_sem, bookA, chanA, refA, hx]))
end Go.Proofs.YthfoeaokfhbdaaaGreat

namespace Go.Proofs.YthfoeaokfhbdaaaGreat
open Go Go.AL Go.Proofs.YthfoeaokfhbdaaaGreat.T
theorem states_g {l : List St_} {i : Nat} (h : i < l.length) : (statesA l).getD i .undef = stateA l[i] := by rw [states_get h, List.getElem?_eq_getElem h]; rfl
section
open Classical
theorem isCm_e {c : Chan} {ow : Int} {id : Sum} {s : St_} (h : bldE c ow s ≠ 0) : isCm c ow id s = false := decide_eq_false (fun q => h q.1)
theorem isCm_n {c : Chan} {ow : Int} {id : Sum} {s : St_} (h : txS (bldT c ow s) ≠ id) : isCm c ow id s = false := decide_eq_false (fun q => h q.2)
theorem isCm_y {c : Chan} {ow : Int} {id : Sum} {s : St_} (h : bldE c ow s = 0) (h2 : txS (bldT c ow s) = id) : isCm c ow id s = true := decide_eq_true ⟨h, h2⟩
end
attribute [local go_sem] nb_u8s u8s_length nb_sum List.length_replicate zero_sum sum_h u8s_nil sum_csz sum_agg sumA_good states_len nb_states
theorem state_spec (nx : Nat) (c : Chan) (l : List St_) (ow : Int) (id : Sum) (hl : l.length ≤ 1000) : FnSpec Tryz.prog 38 nx [chanA c, .sl 67 (statesA l) 0, n64 ow, sumA id] [] (n64 (stF c ow id l)) [] 0 := by
 obtain ⟨R, hR⟩ : ∃ R, R = stF c ow id l := ⟨_, rfl⟩
 rw [← hR]
 refine FnSpec.of_code (cx := cx) (an := {}) (rs := [.tmp 8]) mo Tryz.func38 rfl rfl (by kernel_rfl) (by kernel_rfl) (by show 4 ≤ _; decide) (.inl rfl) (by simp [allWr, keys, Res.wr]) ?_
 repeat' (first | omega | assumption | (show AL.ahead _ _ _ = true; rfl) | (first | apply brF | apply brT | apply brVF | apply brVT) <;> intro _ | (with_reducible refine And.intro ?_ ?_) | (simp -dsimp -implicitDefEqProofs only [go_sem, chanA, refA]))
 apply loop_keep [1, 2, 4, 7] (fun i : { i : Nat // i ≤ l.length ∧ R = stF c ow id (l.drop i) } => [(9, n64 i.1)]) (fun _ => []) (fun i => l.length - i.1) ⟨0, Nat.zero_le _, hR⟩
 ·simp -dsimp -implicitDefEqProofs only [go_sem, chanA, refA]; try rfl
 ·simp -dsimp -implicitDefEqProofs only [go_sem]; try rfl
 ·simp -dsimp -implicitDefEqProofs only [go_sem]; try rfl
 ·intro s
  simp -dsimp -implicitDefEqProofs only [go_sem, chanA, refA]
  try omega
 ·rintro ⟨i, hi, hall⟩
  have hi : i ≤ l.length := hi
  have hall : R = stF c ow id (l.drop i) := hall
  simp -dsimp -implicitDefEqProofs only [go_sem]
  refine brT (fun hc => ?_) (fun hc => ?_)
  ·have hi2 : i < l.length := by omega
   have q1 := states_g hi2
   have hd := List.drop_eq_getElem_cons hi2
   rw [hd] at hall
   simp only [stF] at hall
   have w1 : IntKind.i64.wrap ((i : Int) + 1) = ((i + 1 : Nat) : Int) := wrapE (by omega) (by omega)
   generalize l[i] = s at *
   have hb := fun nc => build_spec nc c ow s
   obtain ⟨g1, g2, g3, g4⟩ := bldA_g c ow s
   by_cases h0 : bldE c ow s = 0
   ·have hs := fun nc => bsum_spec nc c ow s h0
    simp only [sumA] at hs
    rw [h0] at hb
    by_cases h1 : txS (bldT c ow s) = id
    ·rw [isCm_y h0 h1, if_pos rfl] at hall
     rw [h1] at hs
     have e1 : eqB (AV.vec 1 (u8s id.b)) (AV.vec 1 (u8s id.b)) = true := eqB_yes rfl
     generalize bldA c ow s = B at *
     simp only [chanA, refA, stateA, sumA] at hb
     repeat' (first | omega | assumption | (show AL.ahead _ _ _ = true; rfl) | (first | apply brF | apply brT | apply brVF | apply brVT) <;> intro _ | (with_reducible refine And.intro ?_ ?_) | (refine callK_by (hb _) ?_) | (refine callK_by (hs _) ?_) | (simp -dsimp -implicitDefEqProofs only [go_sem, q1, w1, chanA, refA, stateA, sumA, g1, g2, g3, g4, e1, ↓cmp_sum, isSumT]))
     all_goals first | rfl | (subst hall; rfl)
    ·rw [isCm_n h1, if_neg (by decide)] at hall
     have e1 : eqB (AV.vec 1 (u8s (txS (bldT c ow s)).b)) (AV.vec 1 (u8s id.b)) = false := eqB_no (fun q => h1 (sumA_inj _ _ q))
     generalize txS (bldT c ow s) = X at *
     generalize bldA c ow s = B at *
     simp only [chanA, refA, stateA, sumA] at hb
     repeat' (first | omega | assumption | (show AL.ahead _ _ _ = true; rfl) | (first | apply brF | apply brT | apply brVF | apply brVT) <;> intro _ | (with_reducible refine And.intro ?_ ?_) | (refine callK_by (hb _) ?_) | (refine callK_by (hs _) ?_) | (simp -dsimp -implicitDefEqProofs only [go_sem, q1, w1, chanA, refA, stateA, sumA, g1, g2, g3, g4, e1, ↓cmp_sum, isSumT]))
     all_goals first | exact ⟨⟨i + 1, hi2, hall⟩, by show l.length - (i + 1) < l.length - i; omega, rfl⟩
   ·rw [isCm_e h0, if_neg (by decide)] at hall
    generalize bldE c ow s = E at *
    generalize bldA c ow s = B at *
    simp only [chanA, refA, stateA, sumA] at hb
    repeat' (first | omega | assumption | (show AL.ahead _ _ _ = true; rfl) | (first | apply brF | apply brT | apply brVF | apply brVT) <;> intro _ | (with_reducible refine And.intro ?_ ?_) | (refine callK_by (hb _) ?_) | (simp -dsimp -implicitDefEqProofs only [go_sem, q1, w1, chanA, refA, stateA, sumA, g1, g2, g3, g4, h0]))
    all_goals first | exact ⟨⟨i + 1, hi2, hall⟩, by show l.length - (i + 1) < l.length - i; omega, rfl⟩
  ·have e : i = l.length := by omega
   rw [e, List.drop_length] at hall
   simp only [stF] at hall
   subst hall
   repeat' (first | omega | assumption | (show AL.ahead _ _ _ = true; rfl) | (first | apply brF | apply brT | apply brVF | apply brVT) <;> intro _ | (with_reducible refine And.intro ?_ ?_) | (simp -dsimp -implicitDefEqProofs only [go_sem]))
   all_goals rfl
theorem scanState_spec (nx : Nat) (c : Chan) (l : List St_) (ow : Int) (id : Sum) (hl : l.length ≤ 1000) : FnSpec Tryz.prog 40 nx [chanA c, .sl 67 (statesA l) 0, n64 ow, sumA id] [] (n64 (stF c ow id l)) [] 0 := by
 obtain ⟨R, hR⟩ : ∃ R, R = stF c ow id l := ⟨_, rfl⟩
 rw [← hR]
 refine FnSpec.of_code (cx := cx) (an := {}) (rs := [.tmp 8]) mo Tryz.func40 rfl rfl (by kernel_rfl) (by kernel_rfl) (by show 4 ≤ _; decide) (.inl rfl) (by simp [allWr, keys, Res.wr]) ?_
 repeat' (first | omega | assumption | (show AL.ahead _ _ _ = true; rfl) | (first | apply brF | apply brT | apply brVF | apply brVT) <;> intro _ | (with_reducible refine And.intro ?_ ?_) | (simp -dsimp -implicitDefEqProofs only [go_sem, states_len, chanA, refA]))
 apply loop_keep [2, 4, 7, 14, 15] (fun i : { i : Nat // i ≤ l.length ∧ R = stF c ow id (l.drop i) } => [(9, n64 (-1)), (16, n64 i.1)]) (fun _ => []) (fun i => l.length - i.1) ⟨0, Nat.zero_le _, hR⟩
 ·simp -dsimp -implicitDefEqProofs only [go_sem, chanA, refA]; try rfl
 ·simp -dsimp -implicitDefEqProofs only [go_sem]; try rfl
 ·simp -dsimp -implicitDefEqProofs only [go_sem]; try rfl
 ·intro s
  simp -dsimp -implicitDefEqProofs only [go_sem, chanA, refA]
  try omega
 ·rintro ⟨i, hi, hall⟩
  have hi : i ≤ l.length := hi
  have hall : R = stF c ow id (l.drop i) := hall
  simp -dsimp -implicitDefEqProofs only [go_sem]
  refine brT (fun hc => ?_) (fun hc => ?_)
  ·have hi2 : i < l.length := by omega
   have q1 := states_g hi2
   have hd := List.drop_eq_getElem_cons hi2
   rw [hd] at hall
   simp only [stF] at hall
   have w1 : IntKind.i64.wrap ((i : Int) + 1) = ((i + 1 : Nat) : Int) := wrapE (by omega) (by omega)
   generalize l[i] = s at *
   have hb := fun nc => build_spec nc c ow s
   obtain ⟨g1, g2, g3, g4⟩ := bldA_g c ow s
   by_cases h0 : bldE c ow s = 0
   ·have hs := fun nc => bsum_spec nc c ow s h0
    simp only [sumA] at hs
    rw [h0] at hb
    by_cases h1 : txS (bldT c ow s) = id
    ·rw [isCm_y h0 h1, if_pos rfl] at hall
     rw [h1] at hs
     have e1 : eqB (AV.vec 1 (u8s id.b)) (AV.vec 1 (u8s id.b)) = true := eqB_yes rfl
     generalize bldA c ow s = B at *
     simp only [chanA, refA, stateA, sumA] at hb
     repeat' (first | omega | assumption | (show AL.ahead _ _ _ = true; rfl) | (first | apply brF | apply brT | apply brVF | apply brVT) <;> intro _ | (with_reducible refine And.intro ?_ ?_) | (refine callK_by (hb _) ?_) | (refine callK_by (hs _) ?_) | (simp -dsimp -implicitDefEqProofs only [go_sem, q1, w1, chanA, refA, stateA, sumA, g1, g2, g3, g4, e1, ↓cmp_sum, isSumT]))
     all_goals first | rfl | (subst hall; rfl)
    ·rw [isCm_n h1, if_neg (by decide)] at hall
     have e1 : eqB (AV.vec 1 (u8s (txS (bldT c ow s)).b)) (AV.vec 1 (u8s id.b)) = false := eqB_no (fun q => h1 (sumA_inj _ _ q))
     generalize txS (bldT c ow s) = X at *
     generalize bldA c ow s = B at *
     simp only [chanA, refA, stateA, sumA] at hb
     repeat' (first | omega | assumption | (show AL.ahead _ _ _ = true; rfl) | (first | apply brF | apply brT | apply brVF | apply brVT) <;> intro _ | (with_reducible refine And.intro ?_ ?_) | (refine callK_by (hb _) ?_) | (refine callK_by (hs _) ?_) | (simp -dsimp -implicitDefEqProofs only [go_sem, q1, w1, chanA, refA, stateA, sumA, g1, g2, g3, g4, e1, ↓cmp_sum, isSumT]))
     all_goals first | exact ⟨⟨i + 1, hi2, hall⟩, by show l.length - (i + 1) < l.length - i; omega, rfl⟩
   ·rw [isCm_e h0, if_neg (by decide)] at hall
    generalize bldE c ow s = E at *
    generalize bldA c ow s = B at *
    simp only [chanA, refA, stateA, sumA] at hb
    repeat' (first | omega | assumption | (show AL.ahead _ _ _ = true; rfl) | (first | apply brF | apply brT | apply brVF | apply brVT) <;> intro _ | (with_reducible refine And.intro ?_ ?_) | (refine callK_by (hb _) ?_) | (simp -dsimp -implicitDefEqProofs only [go_sem, q1, w1, chanA, refA, stateA, sumA, g1, g2, g3, g4, h0]))
    all_goals first | exact ⟨⟨i + 1, hi2, hall⟩, by show l.length - (i + 1) < l.length - i; omega, rfl⟩
  ·have e : i = l.length := by omega
   rw [e, List.drop_length] at hall
   simp only [stF] at hall
   subst hall
   repeat' (first | omega | assumption | (show AL.ahead _ _ _ = true; rfl) | (first | apply brF | apply brT | apply brVF | apply brVT) <;> intro _ | (with_reducible refine And.intro ?_ ?_) | (simp -dsimp -implicitDefEqProofs only [go_sem]))
   all_goals rfl
end Go.Proofs.YthfoeaokfhbdaaaGreat

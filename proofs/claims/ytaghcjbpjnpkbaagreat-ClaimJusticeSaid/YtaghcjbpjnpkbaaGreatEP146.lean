/-
 What a new book says; the example of the law ClaimOps.
-/
import Derived.Test.YtaghcjbpjnpkbaaGreatEP20
import Derived.Test.YtaghcjbpjnpkbaaGreatEP122
import Derived.Test.YtaghcjbpjnpkbaaGreatEP144
import Derived.Test.YtaghcjbpjnpkbaaGreatAL24
import Derived.Test.YtaghcjbpjnpkbaaGreatRows
import Derived.Test.YtaghcjbpjnpkbaaGreatEP56
set_option linter.unusedSimpArgs false
set_option linter.unusedVariables false
set_option maxRecDepth 100000
set_option maxHeartbeats 8000000
namespace Go.Proofs.YtaghcjbpjnpkbaaGreat
open Go Go.AL Go.Proofs.YtaghcjbpjnpkbaaGreat.T
attribute [local go_sem] nb_u8s u8s_length nb_sum sumA List.length_replicate zero_sum sum_h nb_vals vals_len u8s_nil ways_len nb_ways ins_len outs_len signs_len nb_ins nb_outs nb_signs
def bookZ (m : Nat) : AV := .agg 47 [chanA chanZ, bA false, .sl 67 [] 1, .sl 33 [] 1, .agg 1 [.sl 32 [] 1], n64 0, .sl 69 [] 1, .map m, bA false]
theorem bnew_spec (nx : Nat) : FnSpec Tryz.prog 15 nx [] [] (.cref (bookZ (nx + 8))) [(nx + 8, some (.mp []))] 40 := by
 refine FnSpec.of_code (cx := cx) (an := {}) (rs := [.tmp 0]) mo Tryz.func15 rfl rfl (by kernel_rfl) (by kernel_rfl) (by show 0 ≤ _; decide) (.inl rfl) (by simp [allWr, keys, Res.wr]) ?_
 repeat' (first | omega | assumption | (show AL.ahead _ _ _ = true; rfl) | (first | apply brF | apply brT | apply brVF | apply brVT) <;> intro _ | (with_reducible refine And.intro ?_ ?_) | (simp -dsimp -implicitDefEqProofs only [go_sem, bookZ, chanA, refA, chanZ]))
theorem bnone_new (nx m : Nat) (hm : m < nx) : FnSpec Tryz.prog 23 nx [.cref (bookZ m)] [] (bA false) [] 0 := by
 have x1 := fun k => lt_nx hm k
 have x2 := fun k => nx_gt hm k
 refine FnSpec.of_code (cx := cx) (an := {}) (rs := [.tmp 2]) mo Tryz.func23 rfl rfl (by kernel_rfl) (by kernel_rfl) (by show 1 ≤ _; decide) (.inl rfl) (by simp [allWr, keys, Res.wr]) ?_
 repeat' (first | omega | assumption | (show AL.ahead _ _ _ = true; rfl) | (first | apply brF | apply brT | apply brVF | apply brVT) <;> intro _ | (with_reducible refine And.intro ?_ ?_) | (simp -dsimp -implicitDefEqProofs only [go_sem, bookZ, chanA, refA, chanZ]))
theorem bchan_new (nx m : Nat) (hm : m < nx) : FnSpec Tryz.prog 7 nx [.cref (bookZ m)] [] (.tup [chanA chanZ, bA false]) [] 0 := by
 have h := fun nc (h : m < nc) => bnone_new nc m h
 simp only [bookZ] at h
 refine FnSpec.of_code (cx := cx) (an := {}) (rs := [.cell 2 47, .tmp 3]) mo Tryz.func7 rfl rfl (by kernel_rfl) (by kernel_rfl) (by show 1 ≤ _; decide) (.inr ⟨_, rfl, by simp [AV.good, chanA]⟩) (by simp [allWr, keys, Res.wr]) ?_
 repeat' (first | omega | assumption | (show AL.ahead _ _ _ = true; rfl) | (first | apply brF | apply brT | apply brVF | apply brVT) <;> intro _ | (with_reducible refine And.intro ?_ ?_) | (refine callK_by (h _ (by omega)) ?_) | (simp -dsimp -implicitDefEqProofs only [go_sem, chanA, refA, chanZ, bookZ]))
theorem own_new (nx m : Nat) (hm : m < nx) : FnSpec Tryz.prog 19 nx [.cref (bookZ m)] [] (.tup [tx0, n64 9]) [] 0 := by
 have h := fun nc (h : m < nc) => bchan_new nc m h
 simp only [bookZ] at h
 refine FnSpec.of_code (cx := cx) (an := {}) (rs := [.cell 2 40, .tmp 3]) mo Tryz.func19 rfl rfl (by kernel_rfl) (by kernel_rfl) (by show 1 ≤ _; decide) (.inr ⟨_, rfl, by simp [AV.good, tx0]⟩) (by simp [allWr, keys, Res.wr]) ?_
 repeat' (first | omega | assumption | (show AL.ahead _ _ _ = true; rfl) | (first | apply brF | apply brT | apply brVF | apply brVT) <;> intro _ | (with_reducible refine And.intro ?_ ?_) | (refine callK_by (h _ (by omega)) ?_) | (simp -dsimp -implicitDefEqProofs only [go_sem, chanA, refA, chanZ, bookZ, tx0]))
theorem tA_p3 (t : Tx_) : (txA t).parts.getD 3 .undef = .sl 33 (signsA t.signs) 0 := rfl
theorem tA_lenC (t : Tx_) : (txA t).parts.length = 4 := rfl
theorem tA_off (t : Tx_) : (txA t).partOff 3 = 39 := rfl
theorem cawake_spec (nx : Nat) : FnSpec Tryz.prog 5 nx [] [] (bA true) [] 0 := by
 have h := fun nc (h : nx + 80 < nc) => own_new nc (nx + 80) h
 simp only [bookZ] at h
 have hs := fun nc => settle_spec nc ⟨0, 1, 0, ⟨zeroS, 0⟩, 0, 0, 0⟩ 3 5
 simp only [chanA, refA] at hs
 have hn : ∀ t : Tx_, signsA (signedT t 1).signs = [signA ⟨1, txS t⟩] := fun t => rfl
 refine FnSpec.of_code (cx := cx) (an := {}) (rs := [.tmp 0]) mo Tryz.func5 rfl rfl (by kernel_rfl) (by kernel_rfl) (by show 0 ≤ _; decide) (.inl rfl) (by simp [allWr, keys, Res.wr]) ?_
 repeat' (first | omega | assumption | (show AL.ahead _ _ _ = true; rfl) | (first | apply brF | apply brT | apply brVF | apply brVT) <;> intro _ | (with_reducible refine And.intro ?_ ?_) | (refine callK_by (bnew_spec _) ?_) | (refine callK_by (h _ (by omega)) ?_) | (refine callK_by (planNil_spec _) ?_) | (refine callK_by (owedNil_spec _) ?_) | (refine callK_by (hs _) ?_) | (simp -dsimp -implicitDefEqProofs only [go_sem, chanA, refA, chanZ, bookZ, txA_good, txA_csz, txA_agg, nb_tx, tA_p3, tA_lenC, tA_off, hn, tx0_good, tx0_csz, tx0_agg]))
end Go.Proofs.YtaghcjbpjnpkbaaGreat

namespace Go.Proofs.YtaghcjbpjnpkbaaGreat
open Go Go.AL Go.Proofs.YtaghcjbpjnpkbaaGreat.T
theorem same_zero (nx : Nat) : FnSpec Tryz.prog 12 nx [txZA, txZA] [] (bA true) [] 0 := by
 refine (lawSame_spec nx ⟨[], [], op0, []⟩ ⟨fun x hx => (by cases hx), (by show 0 < 2 ^ 40; decide), (by show 0 < 2 ^ 40; decide), (by show 0 < 2 ^ 40; decide), (by show 0 < 2 ^ 40; decide), fun o ho => (by cases ho)⟩ ?_ (fun o ho => by cases ho)).le (args := [txZA, txZA]) ⟨_, _, rfl, txZ_le, _, _, rfl, txZ_le, rfl⟩
 have h0 := numI_len 0
 have h1 := numI_len ((0 : Nat) : Int)
 have h2 := zeroS.h
 simp only [bytL, bodyL, opL, op0, List.flatMap_nil, List.flatMap_cons, List.append_nil, List.length_append, List.length_nil, h2]
 omega
theorem same_jb (nx : Nat) (c : Chan) (t : Tx_) (pre : Sum) (fee : Int) : FnSpec Tryz.prog 12 nx [jbA c t pre fee, jbA c t pre fee] [] (bA true) [] 0 := by
 unfold jbA
 split
 ·have h := jbT_sm (t := t) pre fee
  exact lawSame_spec nx _ h.l (jbT_byt pre fee) h.k
 ·exact same_zero nx
attribute [local go_sem] nb_u8s u8s_length nb_sum List.length_replicate zero_sum sum_h u8s_nil sums_len nb_sums states_len helds_len nb_states nb_helds signs_len nb_signs nb_keysT nb_valsT txs_len nb_txs outs_len nb_outs txA_good txA_csz txA_agg nb_tx brs_len nb_brs nbK_ref nbK_int nbK_pair nbK_sum nbV_coin nbV_tow nbV_hold nbV_done nbV_spend Option.isSome_some Option.isSome_none sumA_good sum_agg sum_csz
structure CjH (nx K m : Nat) (rs : List BR) (os : List Out_) (l : List Tx_) (n : LN) (x : LS) (B : Bk) : Prop where
 hmk : FnSpec Tryz.prog 4 (nx + 104) [.sl 274 (brsA rs) 0, .sl 2 (outsA os) 0, .sl 40 (txsA l) 0] [] (.tup [.ref (nx + 320) 0 [], .ref (nx + 584) 0 [], bA true]) (bookH B (nx + 304) ++ ledH n x) K
 hK : 200000 ≤ K
 hm : nx + (104 + K) = m
 hn : n.ok m
 hn2 : n.l = nx + 584 ∧ n.v = nx + 624 ∧ n.vm = nx + 608 ∧ n.d = nx + 560 ∧ n.s = nx + 568 ∧ n.o = nx + 577
 hn3 : nx + 648 ≤ n.b ∧ nx + 648 ≤ n.tm ∧ nx + 648 ≤ n.hm
 hL : bkL B
 ht : B.taken.length ≤ 1000
 hD : DnOk x
theorem cl_none (nx K m : Nat) (rs : List BR) (os : List Out_) (l : List Tx_) (n : LN) (x : LS) (B : Bk) (H : CjH nx K m rs os l n x B) (s : Sts) (fee : Int) (hd : lookM s.commit x.done = none) : FnSpec Tryz.prog 3 nx [.sl 274 (brsA rs) 0, .sl 2 (outsA os) 0, .sl 40 (txsA l) 0, stsA s, n64 fee] [] (bA true) [] 0 := by
 obtain ⟨hmk, hK, hm, hn, hn2, hn3, hL, ht, hD⟩ := H
 have hmj : ∀ j, nx + (104 + (K + j)) = m + j := fun j => by omega
 have nl : ∀ j k, j < 648 → ((nx + j = m + k) = False) ∧ ((m + k = nx + j) = False) ∧ ((nx + j = m) = False) ∧ ((m = nx + j) = False) := fun j k h => by
  simp only [eq_iff_iff, iff_false]; omega
 have hlt := hn.lt
 have nb : ∀ j, j < 648 → ((n.b = nx + j) = False) ∧ ((nx + j = n.b) = False) ∧ ((n.tm = nx + j) = False) ∧ ((nx + j = n.tm) = False) ∧ ((n.hm = nx + j) = False) ∧ ((nx + j = n.hm) = False) := fun j h => by
  simp only [eq_iff_iff, iff_false]; omega
 have xf := hn.xf
 have yf := hn.nf
 simp only [ledH, bookH, List.cons_append, List.nil_append, Nat.add_assoc, Nat.reduceAdd, hn2] at hmk
 have hcj := fun nc (h : m ≤ nc) => cj_spec nc (nx + 304) B (by omega) ht n x (hn.up h) hD (by rw [hn2.1]; omega) (by rw [hn2.2.2.2.1]; omega) s fee
 have hch := fun nc (h : m ≤ nc) => bchan_spec nc (nx + 304) B (by omega)
 have hdn := fun nc (h : m ≤ nc) => ldone_spec nc n x s.commit (hn.up h)
 have htk := fun nc (h : m ≤ nc) => taken_spec nc (nx + 304) B (by omega) ht
 have hct := fun nc (h : m ≤ nc) => cheat_spec nc (nx + 304) s B (by omega) ht
 simp only [hn2, Nat.add_assoc, Nat.reduceAdd] at hcj hch hdn htk hct
 simp only [chanA, refA, stsA] at hcj hch hct
 have haw := fun nc => cawake_spec nc
 have hP : ¬ cjP x B s := fun q => by have := q.1; rw [hd] at this; exact absurd this (by decide)
 rw [cjE_n hP, cjA_n hP] at hcj
 rw [hd] at hdn
 simp only [optD, txZA] at hcj hdn
 refine FnSpec.of_code (cx := cx) (an := {}) (rs := [.tmp 10]) mo Tryz.func3 rfl rfl (by kernel_rfl) (by kernel_rfl) (by show 5 ≤ _; decide) (.inl rfl) (by simp [allWr, keys, Res.wr]) ?_
 repeat' (first | omega | assumption | (show AL.ahead _ _ _ = true; rfl) | (first | apply brF | apply brT | apply brVF | apply brVT) <;> intro _ | (with_reducible refine And.intro ?_ ?_) | (refine callK_by (hmk) ?_) | (refine callK_by (hcj _ (by omega)) ?_) | (refine callK_by (hch _ (by omega)) ?_) | (refine callK_by (hdn _ (by omega)) ?_) | (refine callK_by (hct _ (by omega)) ?_) | (refine callK_by (haw _) ?_) | (simp -dsimp -implicitDefEqProofs only [go_sem, stsA, chanA, refA, nb, nl, hm, hmj, xf, yf]))
 all_goals rfl
theorem cl_fair (nx K m : Nat) (rs : List BR) (os : List Out_) (l : List Tx_) (n : LN) (x : LS) (B : Bk) (H : CjH nx K m rs os l n x B) (s : Sts) (fee : Int) (d : Done_) (hd : lookM s.commit x.done = some d) (hC : ¬ cheatP s B) : FnSpec Tryz.prog 3 nx [.sl 274 (brsA rs) 0, .sl 2 (outsA os) 0, .sl 40 (txsA l) 0, stsA s, n64 fee] [] (bA true) [] 0 := by
 obtain ⟨hmk, hK, hm, hn, hn2, hn3, hL, ht, hD⟩ := H
 have hmj : ∀ j, nx + (104 + (K + j)) = m + j := fun j => by omega
 have nl : ∀ j k, j < 648 → ((nx + j = m + k) = False) ∧ ((m + k = nx + j) = False) ∧ ((nx + j = m) = False) ∧ ((m = nx + j) = False) := fun j k h => by
  simp only [eq_iff_iff, iff_false]; omega
 have hlt := hn.lt
 have nb : ∀ j, j < 648 → ((n.b = nx + j) = False) ∧ ((nx + j = n.b) = False) ∧ ((n.tm = nx + j) = False) ∧ ((nx + j = n.tm) = False) ∧ ((n.hm = nx + j) = False) ∧ ((nx + j = n.hm) = False) := fun j h => by
  simp only [eq_iff_iff, iff_false]; omega
 have xf := hn.xf
 have yf := hn.nf
 simp only [ledH, bookH, List.cons_append, List.nil_append, Nat.add_assoc, Nat.reduceAdd, hn2] at hmk
 have hcj := fun nc (h : m ≤ nc) => cj_spec nc (nx + 304) B (by omega) ht n x (hn.up h) hD (by rw [hn2.1]; omega) (by rw [hn2.2.2.2.1]; omega) s fee
 have hch := fun nc (h : m ≤ nc) => bchan_spec nc (nx + 304) B (by omega)
 have hdn := fun nc (h : m ≤ nc) => ldone_spec nc n x s.commit (hn.up h)
 have htk := fun nc (h : m ≤ nc) => taken_spec nc (nx + 304) B (by omega) ht
 have hct := fun nc (h : m ≤ nc) => cheat_spec nc (nx + 304) s B (by omega) ht
 simp only [hn2, Nat.add_assoc, Nat.reduceAdd] at hcj hch hdn htk hct
 simp only [chanA, refA, stsA] at hcj hch hct
 have haw := fun nc => cawake_spec nc
 have hP : ¬ cjP x B s := fun q => hC q.2
 rw [cjE_n hP, cjA_n hP] at hcj
 rw [hd] at hdn
 simp only [optD, doneA, txZA] at hcj hdn
 simp only [decide_eq_false hC] at hct
 refine FnSpec.of_code (cx := cx) (an := {}) (rs := [.tmp 10]) mo Tryz.func3 rfl rfl (by kernel_rfl) (by kernel_rfl) (by show 5 ≤ _; decide) (.inl rfl) (by simp [allWr, keys, Res.wr]) ?_
 repeat' (first | omega | assumption | (show AL.ahead _ _ _ = true; rfl) | (first | apply brF | apply brT | apply brVF | apply brVT) <;> intro _ | (with_reducible refine And.intro ?_ ?_) | (refine callK_by (hmk) ?_) | (refine callK_by (hcj _ (by omega)) ?_) | (refine callK_by (hch _ (by omega)) ?_) | (refine callK_by (hdn _ (by omega)) ?_) | (refine callK_by (hct _ (by omega)) ?_) | (refine callK_by (haw _) ?_) | (simp -dsimp -implicitDefEqProofs only [go_sem, stsA, chanA, refA, nb, nl, hm, hmj, xf, yf]))
 all_goals rfl
theorem cl_cheat (nx K m : Nat) (rs : List BR) (os : List Out_) (l : List Tx_) (n : LN) (x : LS) (B : Bk) (H : CjH nx K m rs os l n x B) (s : Sts) (fee : Int) (d : Done_) (hd : lookM s.commit x.done = some d) (hC : cheatP s B) : FnSpec Tryz.prog 3 nx [.sl 274 (brsA rs) 0, .sl 2 (outsA os) 0, .sl 40 (txsA l) 0, stsA s, n64 fee] [] (bA true) [] 0 := by
 obtain ⟨hmk, hK, hm, hn, hn2, hn3, hL, ht, hD⟩ := H
 have hmj : ∀ j, nx + (104 + (K + j)) = m + j := fun j => by omega
 have nl : ∀ j k, j < 648 → ((nx + j = m + k) = False) ∧ ((m + k = nx + j) = False) ∧ ((nx + j = m) = False) ∧ ((m = nx + j) = False) := fun j k h => by
  simp only [eq_iff_iff, iff_false]; omega
 have hlt := hn.lt
 have nb : ∀ j, j < 648 → ((n.b = nx + j) = False) ∧ ((nx + j = n.b) = False) ∧ ((n.tm = nx + j) = False) ∧ ((nx + j = n.tm) = False) ∧ ((n.hm = nx + j) = False) ∧ ((nx + j = n.hm) = False) := fun j h => by
  simp only [eq_iff_iff, iff_false]; omega
 have xf := hn.xf
 have yf := hn.nf
 simp only [ledH, bookH, List.cons_append, List.nil_append, Nat.add_assoc, Nat.reduceAdd, hn2] at hmk
 have hcj := fun nc (h : m ≤ nc) => cj_spec nc (nx + 304) B (by omega) ht n x (hn.up h) hD (by rw [hn2.1]; omega) (by rw [hn2.2.2.2.1]; omega) s fee
 have hch := fun nc (h : m ≤ nc) => bchan_spec nc (nx + 304) B (by omega)
 have hdn := fun nc (h : m ≤ nc) => ldone_spec nc n x s.commit (hn.up h)
 have htk := fun nc (h : m ≤ nc) => taken_spec nc (nx + 304) B (by omega) ht
 have hct := fun nc (h : m ≤ nc) => cheat_spec nc (nx + 304) s B (by omega) ht
 simp only [hn2, Nat.add_assoc, Nat.reduceAdd] at hcj hch hdn htk hct
 simp only [chanA, refA, stsA] at hcj hch hct
 have haw := fun nc => cawake_spec nc
 have hP : cjP x B s := ⟨by rw [hd]; rfl, hC⟩
 have e : doneT x s.commit = d.tx := by unfold doneT; rw [hd]
 rw [cjE_y hP, cjA_y hP, e] at hcj
 rw [hd] at hdn
 simp only [optD, doneA] at hdn
 simp only [decide_eq_true hC] at hct
 obtain ⟨c1, c2, c3, c4⟩ := id hC
 have hjb := fun nc => doneV_jb nc B.chan x d s.commit (tkS B s.state) fee hD hd
 have hsm := fun nc => same_jb nc B.chan d.tx (tkS B s.state) fee
 simp only [chanA, refA] at hjb
 have q1 := tkS_get c3 c4
 have c5 : ¬ s.state < 0 := by omega
 have c6 : ¬ (B.taken.length : Int) ≤ s.state := by omega
 obtain ⟨g1, g2, g3, g4⟩ := jbA_g B.chan d.tx (tkS B s.state) fee
 generalize jbA B.chan d.tx (tkS B s.state) fee = J at *
 generalize jbE B.chan d.tx (tkS B s.state) fee = E at *
 refine FnSpec.of_code (cx := cx) (an := {}) (rs := [.tmp 10]) mo Tryz.func3 rfl rfl (by kernel_rfl) (by kernel_rfl) (by show 5 ≤ _; decide) (.inl rfl) (by simp [allWr, keys, Res.wr]) ?_
 repeat' (first | omega | assumption | (show AL.ahead _ _ _ = true; rfl) | (first | apply brF | apply brT | apply brVF | apply brVT) <;> intro _ | (with_reducible refine And.intro ?_ ?_) | (refine callK_by (hmk) ?_) | (refine callK_by (hcj _ (by omega)) ?_) | (refine callK_by (hch _ (by omega)) ?_) | (refine callK_by (hdn _ (by omega)) ?_) | (refine callK_by (hct _ (by omega)) ?_) | (refine callK_by (htk _ (by omega)) ?_) | (refine callK_by (hjb _) ?_) | (refine callK_by (hsm _) ?_) | (refine callK_by (haw _) ?_) | (simp -dsimp -implicitDefEqProofs only [go_sem, stsA, chanA, refA, nb, nl, hm, hmj, xf, yf, c3, c4, c5, c6, q1, g1, g2, g3, g4, ge_iff_le]))
 all_goals first | rfl | omega
theorem claimj_spec (nx : Nat) (rs : List BR) (os : List Out_) (l : List Tx_) (s : Sts) (fee : Int) : FnSpec Tryz.prog 3 nx [.sl 274 (brsA rs) 0, .sl 2 (outsA os) 0, .sl 40 (txsA l) 0, stsA s, n64 fee] [] (bA true) [] 0 := by
 by_cases hm : madeP rs os l
 ·obtain ⟨h1, h2, h3, h4, h5, h6⟩ := id hm
  obtain ⟨K, hK⟩ : ∃ K : Nat, 200000 ≤ K := ⟨200000, Nat.le_refl _⟩
  have hmk := made_yes (nx + 104) K hK rs os l h1 h2 h3 h4 h5 h6
  have hX := runL_ok (hf := hfS) (l := l) (newS_ok h3) l.length (Nat.le_refl _) (fun k _ h2 => smallT_ok (h6 _ (List.getElem_mem h2)))
  have hn := nmL_ok (hf := hfS) (M := fun i => nx + 104 + 4408 + 5000 * i + 560) (N := fun i => nx + 104 + 4408 + 5000 * i) (n0 := newN (nx + 104 + 440)) (x0 := newS os) (l := l) (newN_ok (by omega)) (fun i => by omega) l.length
  have hn2 := nmL_same hfS (fun i => nx + 104 + 4408 + 5000 * i + 560) (newN (nx + 104 + 440)) (newS os) l l.length
  have hn3 := nmL_ge (B := nx + 648) (hf := hfS) (M := fun i => nx + 104 + 4408 + 5000 * i + 560) (n0 := newN (nx + 104 + 440)) (x0 := newS os) (l := l) ⟨by simp only [newN]; omega, by simp only [newN]; omega, by simp only [newN]; omega⟩ (fun i => by omega) l.length
  have hok := runB_ok rs rs.length (Nat.le_refl _)
  have hl := h1.1
  generalize nmL hfS (fun i => nx + 104 + 4408 + 5000 * i + 560) (newN (nx + 104 + 440)) (newS os) l l.length = n at *
  generalize runL hfS (newS os) l l.length = x at *
  generalize runB rs rs.length = B at *
  have hn2 : n.l = nx + 584 ∧ n.v = nx + 624 ∧ n.vm = nx + 608 ∧ n.d = nx + 560 ∧ n.s = nx + 568 ∧ n.o = nx + 577 := hn2
  have hn := hn.up (show _ ≤ nx + (104 + K) by omega)
  have hL := okB_bk hok (by omega)
  have ht : B.taken.length ≤ 1000 := by have := hok.2.2.1; omega
  have hD := hX.d
  have H : CjH nx K (nx + (104 + K)) rs os l n x B := ⟨hmk, hK, rfl, hn, hn2, hn3, hL, ht, hD⟩
  cases hd : lookM s.commit x.done with
  | none => exact cl_none nx K _ rs os l n x B H s fee hd
  | some d =>
   by_cases hC : cheatP s B
   ·exact cl_cheat nx K _ rs os l n x B H s fee d hd hC
   ·exact cl_fair nx K _ rs os l n x B H s fee d hd hC
 ·have hmk := fun nc => made_no nc rs os l hm
  have haw := fun nc => cawake_spec nc
  refine FnSpec.of_code (cx := cx) (an := {}) (rs := [.tmp 10]) mo Tryz.func3 rfl rfl (by kernel_rfl) (by kernel_rfl) (by show 5 ≤ _; decide) (.inl rfl) (by simp [allWr, keys, Res.wr]) ?_
  repeat' (first | omega | assumption | (show AL.ahead _ _ _ = true; rfl) | (first | apply brF | apply brT | apply brVF | apply brVT) <;> intro _ | (with_reducible refine And.intro ?_ ?_) | (refine callK_by (hmk _) ?_) | (refine callK_by (haw _) ?_) | (simp -dsimp -implicitDefEqProofs only [go_sem, stsA]))
  all_goals rfl
end Go.Proofs.YtaghcjbpjnpkbaaGreat

namespace Go.Proofs.YtaghcjbpjnpkbaaGreat
open Go Go.AL Go.Proofs.YtaghcjbpjnpkbaaGreat.T Go.ChangeShapes Go.WideShapes Go.ChangeAt Go.RowKit

theorem Tryz.own : ownKnob Tryz.prog.godebug = none := by kernel_rfl
theorem Tryz.laidOut : laidOutB Tryz.prog = true := by kernel_rfl
theorem toNat_ofNat' {n : Nat} (h : n < 256) : (UInt8.ofNat n).toNat = n := by
 rw [UInt8.toNat_ofNat']; omega
theorem ty_byte {n : Nat} {a : AV} (h : Ty Tryz.prog (n + 1) 5 a) : ∃ b, a = u8 b ∧ True := by
 obtain ⟨x, rfl, h1, h2⟩ := h.int_inv Tryz.underlying5
 have h1' : (0 : Int) ≤ x := h1
 have h2' : x ≤ 255 := h2
 refine ⟨UInt8.ofNat x.toNat, ?_, trivial⟩
 rw [u8, toNat_ofNat' (by omega)]
 congr 2; omega
theorem ty_sum {n : Nat} {a : AV} (h : Ty Tryz.prog (n + 2) 26 a) : ∃ s, a = sumA s := by
 obtain ⟨L, rfl, hl, k⟩ := h.arr_inv Tryz.underlying26 (m := 1) (by kernel_rfl)
 obtain ⟨l, rfl, _⟩ := list_inv (f := u8) (p := fun _ => True) (fun x hx => ty_byte (k x hx))
 rw [List.length_map] at hl
 exact ⟨⟨l, hl⟩, rfl⟩
theorem ty_int {n : Nat} {a : AV} (h : Ty Tryz.prog (n + 1) 3 a) : ∃ x, a = n64 x := by
 obtain ⟨x, rfl, _⟩ := h.int_inv Tryz.underlying3
 exact ⟨x, rfl⟩
theorem ty_int64 {n : Nat} {a : AV} (h : Ty Tryz.prog (n + 1) 2 a) : ∃ x, a = n64 x := by
 obtain ⟨x, rfl, _⟩ := h.int_inv Tryz.underlying2
 exact ⟨x, rfl⟩
theorem ty_ref {n : Nat} {a : AV} (h : Ty Tryz.prog (n + 3) 45 a) : ∃ r, a = refA r := by
 obtain ⟨L, rfl, k⟩ := h.struct_inv Tryz.underlying45 (m := 33) (ts := [26, 3]) (by kernel_rfl) rfl
 obtain ⟨a0, _, rfl, h0, k⟩ := k.cons_inv
 obtain ⟨a1, _, rfl, h1, k⟩ := k.cons_inv
 cases k.nil_inv
 obtain ⟨x0, rfl⟩ := ty_sum h0
 obtain ⟨x1, rfl⟩ := ty_int h1
 exact ⟨⟨x0, x1⟩, rfl⟩
theorem ty_chan {n : Nat} {a : AV} (h : Ty Tryz.prog (n + 4) 47 a) : ∃ c, a = chanA c := by
 obtain ⟨L, rfl, k⟩ := h.struct_inv Tryz.underlying47 (m := 39) (ts := [3, 3, 3, 45, 2, 3, 3]) (by kernel_rfl) rfl
 obtain ⟨a0, _, rfl, h0, k⟩ := k.cons_inv
 obtain ⟨a1, _, rfl, h1, k⟩ := k.cons_inv
 obtain ⟨a2, _, rfl, h2, k⟩ := k.cons_inv
 obtain ⟨a3, _, rfl, h3, k⟩ := k.cons_inv
 obtain ⟨a4, _, rfl, h4, k⟩ := k.cons_inv
 obtain ⟨a5, _, rfl, h5, k⟩ := k.cons_inv
 obtain ⟨a6, _, rfl, h6, k⟩ := k.cons_inv
 cases k.nil_inv
 obtain ⟨x0, rfl⟩ := ty_int h0
 obtain ⟨x1, rfl⟩ := ty_int h1
 obtain ⟨x2, rfl⟩ := ty_int h2
 obtain ⟨x3, rfl⟩ := ty_ref h3
 obtain ⟨x4, rfl⟩ := ty_int64 h4
 obtain ⟨x5, rfl⟩ := ty_int h5
 obtain ⟨x6, rfl⟩ := ty_int h6
 exact ⟨⟨x0, x1, x2, x3, x4, x5, x6⟩, rfl⟩

end Go.Proofs.YtaghcjbpjnpkbaaGreat

namespace Go.Proofs.YtaghcjbpjnpkbaaGreat
open Go Go.AL Go.Proofs.YtaghcjbpjnpkbaaGreat.T Go.ChangeShapes Go.WideShapes Go.ChangeAt Go.RowKit
theorem ty_bytes {n : Nat} {a : AV} (h : Ty Tryz.prog (n + 2) 35 a) : ∃ l, a = .sl 1 (u8s l) 0 := by
 obtain ⟨L, rfl, hl, k⟩ := h.sl_inv Tryz.underlying35 (m := 1) (by kernel_rfl)
 obtain ⟨l, rfl, _⟩ := list_inv (f := u8) (p := fun _ => True) (fun x hx => ty_byte (k x hx))
 exact ⟨l, rfl⟩
theorem ty_rec {n : Nat} {a : AV} (h : Ty Tryz.prog (n + 3) 72 a) : ∃ r, a = recA r := by
 obtain ⟨L, rfl, k⟩ := h.struct_inv Tryz.underlying72 (m := 67) (ts := [3, 3, 3, 26, 26]) (by kernel_rfl) rfl
 obtain ⟨a0, _, rfl, h0, k⟩ := k.cons_inv
 obtain ⟨a1, _, rfl, h1, k⟩ := k.cons_inv
 obtain ⟨a2, _, rfl, h2, k⟩ := k.cons_inv
 obtain ⟨a3, _, rfl, h3, k⟩ := k.cons_inv
 obtain ⟨a4, _, rfl, h4, k⟩ := k.cons_inv
 cases k.nil_inv
 obtain ⟨x0, rfl⟩ := ty_int h0
 obtain ⟨x1, rfl⟩ := ty_int h1
 obtain ⟨x2, rfl⟩ := ty_int h2
 obtain ⟨x3, rfl⟩ := ty_sum h3
 obtain ⟨x4, rfl⟩ := ty_sum h4
 exact ⟨⟨x0, x1, x2, x3, x4⟩, rfl⟩
theorem ty_srec {n : Nat} {a : AV} (h : Ty Tryz.prog (n + 4) 74 a) : ∃ r, a = srecA r := by
 obtain ⟨M, rfl, k2⟩ := h.struct_inv Tryz.underlying74 (m := 68) (ts := [72, 35]) (by kernel_rfl) rfl
 obtain ⟨b0, _, rfl, g0, k2⟩ := k2.cons_inv
 obtain ⟨b1, _, rfl, g1, k2⟩ := k2.cons_inv
 cases k2.nil_inv
 obtain ⟨x0, rfl⟩ := ty_rec g0
 obtain ⟨x1, rfl⟩ := ty_bytes g1
 exact ⟨⟨x0, x1⟩, rfl⟩
theorem ty_sign {n : Nat} {a : AV} (h : Ty Tryz.prog (n + 3) 70 a) : ∃ r, a = signA r := by
 obtain ⟨M, rfl, k2⟩ := h.struct_inv Tryz.underlying70 (m := 33) (ts := [3, 26]) (by kernel_rfl) rfl
 obtain ⟨b0, _, rfl, g0, k2⟩ := k2.cons_inv
 obtain ⟨b1, _, rfl, g1, k2⟩ := k2.cons_inv
 cases k2.nil_inv
 obtain ⟨x0, rfl⟩ := ty_int g0
 obtain ⟨x1, rfl⟩ := ty_sum g1
 exact ⟨⟨x0, x1⟩, rfl⟩
theorem ty_two {n : Nat} {a : AV} (h : Ty Tryz.prog (n + 3) 66 a) : ∃ s t, a = .vec 32 [sumA s, sumA t] := by
 obtain ⟨L, rfl, hl, k⟩ := h.arr_inv Tryz.underlying66 (m := 32) (by kernel_rfl)
 match L, hl with
 | [x, y], _ =>
  obtain ⟨s, rfl⟩ := ty_sum (k x (by simp))
  obtain ⟨t, rfl⟩ := ty_sum (k y (by simp))
  exact ⟨s, t, rfl⟩
theorem ty_state {n : Nat} {a : AV} (h : Ty Tryz.prog (n + 4) 68 a) : ∃ s, a = stateA s := by
 obtain ⟨M, rfl, k⟩ := h.struct_inv Tryz.underlying68 (m := 67) (ts := [3, 2, 2, 66]) (by kernel_rfl) rfl
 obtain ⟨a0, _, rfl, h0, k⟩ := k.cons_inv
 obtain ⟨a1, _, rfl, h1, k⟩ := k.cons_inv
 obtain ⟨a2, _, rfl, h2, k⟩ := k.cons_inv
 obtain ⟨a3, _, rfl, h3, k⟩ := k.cons_inv
 cases k.nil_inv
 obtain ⟨x0, rfl⟩ := ty_int h0
 obtain ⟨x1, rfl⟩ := ty_int64 h1
 obtain ⟨x2, rfl⟩ := ty_int64 h2
 obtain ⟨x3, x4, rfl⟩ := ty_two h3
 exact ⟨⟨x0, x1, x2, x3, x4⟩, rfl⟩
theorem ty_brec {n : Nat} {a : AV} (h : Ty Tryz.prog (n + 5) 76 a) : ∃ r, a = brA r ∧ True := by
 obtain ⟨M, rfl, k⟩ := h.struct_inv Tryz.underlying76 (m := 274) (ts := [3, 47, 68, 70, 26, 3, 26, 74, 35]) (by kernel_rfl) rfl
 obtain ⟨a0, _, rfl, h0, k⟩ := k.cons_inv
 obtain ⟨a1, _, rfl, h1, k⟩ := k.cons_inv
 obtain ⟨a2, _, rfl, h2, k⟩ := k.cons_inv
 obtain ⟨a3, _, rfl, h3, k⟩ := k.cons_inv
 obtain ⟨a4, _, rfl, h4, k⟩ := k.cons_inv
 obtain ⟨a5, _, rfl, h5, k⟩ := k.cons_inv
 obtain ⟨a6, _, rfl, h6, k⟩ := k.cons_inv
 obtain ⟨a7, _, rfl, h7, k⟩ := k.cons_inv
 obtain ⟨a8, _, rfl, h8, k⟩ := k.cons_inv
 cases k.nil_inv
 obtain ⟨x0, rfl⟩ := ty_int h0
 obtain ⟨x1, rfl⟩ := ty_chan h1
 obtain ⟨x2, rfl⟩ := ty_state h2
 obtain ⟨x3, rfl⟩ := ty_sign h3
 obtain ⟨x4, rfl⟩ := ty_sum h4
 obtain ⟨x5, rfl⟩ := ty_int h5
 obtain ⟨x6, rfl⟩ := ty_sum h6
 obtain ⟨x7, rfl⟩ := ty_srec h7
 obtain ⟨x8, rfl⟩ := ty_bytes h8
 exact ⟨⟨x0, x1, x2, x3, x4, x5, x6, x7, x8⟩, rfl, trivial⟩
theorem ty_brs {n : Nat} {a : AV} (h : Ty Tryz.prog (n + 6) 22 a) : ∃ l, a = .sl 274 (brsA l) 0 := by
 obtain ⟨L, rfl, hl, k⟩ := h.sl_inv Tryz.underlying22 (m := 274) (by kernel_rfl)
 obtain ⟨l, rfl, _⟩ := list_inv (f := brA) (p := fun _ => True) (fun x hx => ty_brec (k x hx))
 exact ⟨l, rfl⟩
end Go.Proofs.YtaghcjbpjnpkbaaGreat

namespace Go.Proofs.YtaghcjbpjnpkbaaGreat
open Go Go.AL Go.Proofs.YtaghcjbpjnpkbaaGreat.T Go.ChangeShapes Go.WideShapes Go.ChangeAt Go.RowKit
theorem ty_ints {n : Nat} {a : AV} (h : Ty Tryz.prog (n + 2) 99 a) : ∃ l, a = .sl 1 (vals .i64 l) 0 := by
 obtain ⟨L, rfl, hl, k⟩ := h.sl_inv Tryz.underlying99 (m := 1) (by kernel_rfl)
 obtain ⟨l, rfl, _⟩ := list_inv (f := n64) (p := fun _ => True) (fun x hx => by obtain ⟨y, rfl⟩ := ty_int (k x hx); exact ⟨y, rfl, trivial⟩)
 exact ⟨l, rfl⟩
theorem ty_way {n : Nat} {a : AV} (h : Ty Tryz.prog (n + 3) 101 a) : ∃ r, a = wayA r := by
 obtain ⟨M, rfl, k⟩ := h.struct_inv Tryz.underlying101 (m := 35) (ts := [99, 26, 3, 3]) (by kernel_rfl) rfl
 obtain ⟨a0, _, rfl, h0, k⟩ := k.cons_inv
 obtain ⟨a1, _, rfl, h1, k⟩ := k.cons_inv
 obtain ⟨a2, _, rfl, h2, k⟩ := k.cons_inv
 obtain ⟨a3, _, rfl, h3, k⟩ := k.cons_inv
 cases k.nil_inv
 obtain ⟨x0, rfl⟩ := ty_ints h0
 obtain ⟨x1, rfl⟩ := ty_sum h1
 obtain ⟨x2, rfl⟩ := ty_int h2
 obtain ⟨x3, rfl⟩ := ty_int h3
 exact ⟨⟨x0, x1, x2, x3⟩, rfl⟩
theorem ty_ways {n : Nat} {a : AV} (h : Ty Tryz.prog (n + 4) 102 a) : ∃ l, a = .sl 35 (waysA l) 0 := by
 obtain ⟨L, rfl, hl, k⟩ := h.sl_inv Tryz.underlying102 (m := 35) (by kernel_rfl)
 obtain ⟨l, rfl, _⟩ := list_inv (f := wayA) (p := fun _ => True) (fun x hx => by obtain ⟨y, rfl⟩ := ty_way (k x hx); exact ⟨y, rfl, trivial⟩)
 exact ⟨l, rfl⟩
theorem ty_out {n : Nat} {a : AV} (h : Ty Tryz.prog (n + 5) 104 a) : ∃ r, a = outA r := by
 obtain ⟨M, rfl, k⟩ := h.struct_inv Tryz.underlying104 (m := 2) (ts := [2, 102]) (by kernel_rfl) rfl
 obtain ⟨a0, _, rfl, h0, k⟩ := k.cons_inv
 obtain ⟨a1, _, rfl, h1, k⟩ := k.cons_inv
 cases k.nil_inv
 obtain ⟨x0, rfl⟩ := ty_int64 h0
 obtain ⟨x1, rfl⟩ := ty_ways h1
 exact ⟨⟨x0, x1⟩, rfl⟩
theorem ty_outs {n : Nat} {a : AV} (h : Ty Tryz.prog (n + 6) 23 a) : ∃ l, a = .sl 2 (outsA l) 0 := by
 obtain ⟨L, rfl, hl, k⟩ := h.sl_inv Tryz.underlying23 (m := 2) (by kernel_rfl)
 obtain ⟨l, rfl, _⟩ := list_inv (f := outA) (p := fun _ => True) (fun x hx => by obtain ⟨y, rfl⟩ := ty_out (k x hx); exact ⟨y, rfl, trivial⟩)
 exact ⟨l, rfl⟩
theorem ty_in {n : Nat} {a : AV} (h : Ty Tryz.prog (n + 4) 109 a) : ∃ r, a = inA r := by
 obtain ⟨M, rfl, k⟩ := h.struct_inv Tryz.underlying109 (m := 35) (ts := [45, 3, 35]) (by kernel_rfl) rfl
 obtain ⟨a0, _, rfl, h0, k⟩ := k.cons_inv
 obtain ⟨a1, _, rfl, h1, k⟩ := k.cons_inv
 obtain ⟨a2, _, rfl, h2, k⟩ := k.cons_inv
 cases k.nil_inv
 obtain ⟨x0, rfl⟩ := ty_ref h0
 obtain ⟨x1, rfl⟩ := ty_int h1
 obtain ⟨x2, rfl⟩ := ty_bytes h2
 exact ⟨⟨x0, x1, x2⟩, rfl⟩
theorem ty_ins {n : Nat} {a : AV} (h : Ty Tryz.prog (n + 5) 34 a) : ∃ l, a = .sl 35 (insA l) 0 := by
 obtain ⟨L, rfl, hl, k⟩ := h.sl_inv Tryz.underlying34 (m := 35) (by kernel_rfl)
 obtain ⟨l, rfl, _⟩ := list_inv (f := inA) (p := fun _ => True) (fun x hx => by obtain ⟨y, rfl⟩ := ty_in (k x hx); exact ⟨y, rfl, trivial⟩)
 exact ⟨l, rfl⟩
theorem ty_op {n : Nat} {a : AV} (h : Ty Tryz.prog (n + 3) 37 a) : ∃ r, a = opT r := by
 obtain ⟨M, rfl, k⟩ := h.struct_inv Tryz.underlying37 (m := 37) (ts := [3, 3, 3, 2, 26, 35]) (by kernel_rfl) rfl
 obtain ⟨a0, _, rfl, h0, k⟩ := k.cons_inv
 obtain ⟨a1, _, rfl, h1, k⟩ := k.cons_inv
 obtain ⟨a2, _, rfl, h2, k⟩ := k.cons_inv
 obtain ⟨a3, _, rfl, h3, k⟩ := k.cons_inv
 obtain ⟨a4, _, rfl, h4, k⟩ := k.cons_inv
 obtain ⟨a5, _, rfl, h5, k⟩ := k.cons_inv
 cases k.nil_inv
 obtain ⟨x0, rfl⟩ := ty_int h0
 obtain ⟨x1, rfl⟩ := ty_int h1
 obtain ⟨x2, rfl⟩ := ty_int h2
 obtain ⟨x3, rfl⟩ := ty_int64 h3
 obtain ⟨x4, rfl⟩ := ty_sum h4
 obtain ⟨x5, rfl⟩ := ty_bytes h5
 exact ⟨⟨x0, x1, x2, x3, x4, x5⟩, rfl⟩
theorem ty_signs {n : Nat} {a : AV} (h : Ty Tryz.prog (n + 4) 38 a) : ∃ l, a = .sl 33 (signsA l) 0 := by
 obtain ⟨L, rfl, hl, k⟩ := h.sl_inv Tryz.underlying38 (m := 33) (by kernel_rfl)
 obtain ⟨l, rfl, _⟩ := list_inv (f := signA) (p := fun _ => True) (fun x hx => by obtain ⟨y, rfl⟩ := ty_sign (k x hx); exact ⟨y, rfl, trivial⟩)
 exact ⟨l, rfl⟩
theorem ty_tx {n : Nat} {a : AV} (h : Ty Tryz.prog (n + 7) 40 a) : ∃ r, a = txA r := by
 obtain ⟨M, rfl, k⟩ := h.struct_inv Tryz.underlying40 (m := 40) (ts := [34, 23, 37, 38]) (by kernel_rfl) rfl
 obtain ⟨a0, _, rfl, h0, k⟩ := k.cons_inv
 obtain ⟨a1, _, rfl, h1, k⟩ := k.cons_inv
 obtain ⟨a2, _, rfl, h2, k⟩ := k.cons_inv
 obtain ⟨a3, _, rfl, h3, k⟩ := k.cons_inv
 cases k.nil_inv
 obtain ⟨x0, rfl⟩ := ty_ins (n := n + 1) h0
 obtain ⟨x1, rfl⟩ := ty_outs h1
 obtain ⟨x2, rfl⟩ := ty_op (n := n + 3) h2
 obtain ⟨x3, rfl⟩ := ty_signs (n := n + 2) h3
 exact ⟨⟨x0, x1, x2, x3⟩, rfl⟩
theorem ty_txs {n : Nat} {a : AV} (h : Ty Tryz.prog (n + 8) 24 a) : ∃ l, a = .sl 40 (txsA l) 0 := by
 obtain ⟨L, rfl, hl, k⟩ := h.sl_inv Tryz.underlying24 (m := 40) (by kernel_rfl)
 obtain ⟨l, rfl, _⟩ := list_inv (f := txA) (p := fun _ => True) (fun x hx => by obtain ⟨y, rfl⟩ := ty_tx (k x hx); exact ⟨y, rfl, trivial⟩)
 exact ⟨l, rfl⟩
end Go.Proofs.YtaghcjbpjnpkbaaGreat

namespace Go.Proofs.YtaghcjbpjnpkbaaGreat
open Go Go.AL Go.Proofs.YtaghcjbpjnpkbaaGreat.T Go.ChangeShapes Go.WideShapes Go.ChangeAt Go.RowKit
theorem ty_boolA {n : Nat} {a : AV} (h : Ty Tryz.prog (n + 1) 4 a) : ∃ b, a = bA b := by
 obtain ⟨b, rfl⟩ := h.bool_inv Tryz.underlying4
 exact ⟨b, rfl⟩
theorem ty_status {n : Nat} {a : AV} (h : Ty Tryz.prog (n + 4) 28 a) : ∃ s, a = stsA s := by
 obtain ⟨M, rfl, k⟩ := h.struct_inv Tryz.underlying28 (m := 38) (ts := [4, 3, 3, 26, 3, 3, 3]) (by kernel_rfl) rfl
 obtain ⟨a0, _, rfl, h0, k⟩ := k.cons_inv
 obtain ⟨a1, _, rfl, h1, k⟩ := k.cons_inv
 obtain ⟨a2, _, rfl, h2, k⟩ := k.cons_inv
 obtain ⟨a3, _, rfl, h3, k⟩ := k.cons_inv
 obtain ⟨a4, _, rfl, h4, k⟩ := k.cons_inv
 obtain ⟨a5, _, rfl, h5, k⟩ := k.cons_inv
 obtain ⟨a6, _, rfl, h6, k⟩ := k.cons_inv
 cases k.nil_inv
 obtain ⟨x0, rfl⟩ := ty_boolA h0
 obtain ⟨x1, rfl⟩ := ty_int h1
 obtain ⟨x2, rfl⟩ := ty_int h2
 obtain ⟨x3, rfl⟩ := ty_sum h3
 obtain ⟨x4, rfl⟩ := ty_int h4
 obtain ⟨x5, rfl⟩ := ty_int h5
 obtain ⟨x6, rfl⟩ := ty_int h6
 exact ⟨⟨x0, x1, x2, x3, x4, x5, x6⟩, rfl⟩
theorem cj2_args (xs : List AV) (h : TyF (Ty Tryz.prog 8) Tryz.f3.params.toList xs) : FnSpec Tryz.prog 3 0 xs [] (.val (.bool true)) [] 0 := by
 have hp : Tryz.f3.params.toList = [22, 23, 24, 28, 2] := rfl
 rw [hp] at h
 obtain ⟨a0, _, rfl, h0, h⟩ := h.cons_inv
 obtain ⟨a1, _, rfl, h1, h⟩ := h.cons_inv
 obtain ⟨a2, _, rfl, h2, h⟩ := h.cons_inv
 obtain ⟨a3, _, rfl, h3, h⟩ := h.cons_inv
 obtain ⟨a4, _, rfl, h4, h⟩ := h.cons_inv
 cases h.nil_inv
 obtain ⟨x0, rfl⟩ := ty_brs (n := 2) h0
 obtain ⟨x1, rfl⟩ := ty_outs (n := 2) h1
 obtain ⟨x2, rfl⟩ := ty_txs (n := 0) h2
 obtain ⟨x3, rfl⟩ := ty_status (n := 4) h3
 obtain ⟨x4, rfl⟩ := ty_int64 (n := 7) h4
 exact claimj_spec 0 x0 x1 x2 x3 x4

theorem cj2_lifted (os : Os) (started : os.Started) (H : Type) (enc : TypeId × Value → H) :
  ReturnsInHanded {} Tryz.checked os 3 .any (Rows.claimJusticeSpec.pre6 enc Tryz.prog Tryz.f3 Rows.claimJusticeRow.domain false) (Rows.claimJusticeSpec.post enc Tryz.prog Tryz.f3 false true false false) := by
 refine returnsInHanded_of_change (C := Tryz.checked) Tryz.own started (by kernel_rfl) Tryz.func3
  (ChangeSpec.witness6 (enc := enc) (C := Tryz.checked) false ⟨#[], #[.slice none 0 0, .slice none 0 0, .slice none 0 0, .agg #[.bool false, .int .i64 0, .int .i64 0, .int .u8 0, .int .u8 0, .int .u8 0, .int .u8 0, .int .u8 0, .int .u8 0, .int .u8 0, .int .u8 0, .int .u8 0, .int .u8 0, .int .u8 0, .int .u8 0, .int .u8 0, .int .u8 0, .int .u8 0, .int .u8 0, .int .u8 0, .int .u8 0, .int .u8 0, .int .u8 0, .int .u8 0, .int .u8 0, .int .u8 0, .int .u8 0, .int .u8 0, .int .u8 0, .int .u8 0, .int .u8 0, .int .u8 0, .int .u8 0, .int .u8 0, .int .u8 0, .int .i64 0, .int .i64 0, .int .i64 0], .int .i64 0], []⟩ 8 (by kernel_rfl) (by kernel_rfl) (by kernel_rfl) (by kernel_rfl)) ?_
 intro W base args ds gs before hval0 hW hcnd _
 exact post_of_spec (P := Tryz.prog) (n := 8) (tb := 4) Tryz.laidOut rfl (fun ds hl => by
  match ds, hl with
  | [d1, d2, d3, d4, d5], _ => rfl) (by kernel_rfl) (by kernel_rfl) rfl Tryz.underlying4 cj2_args W base args ds gs before hval0 hW

theorem cj2_holds : Rows.ClaimJusticeSaid :=
 OpenClaim.holds_of_wide 3 Tryz.f3 rfl rfl rfl rfl rfl rfl rfl ⟨rfl, rfl, rfl, rfl, rfl⟩ rfl rfl rfl rfl rfl (by kernel_rfl) Tryz.func3 (by kernel_rfl)
  (of_decide_eq_true (by kernel_rfl)) (by unfold Func.isWrapper; first | (rw [if_pos (by decide +kernel)]; kernel_rfl) | (rw [if_neg (by decide +kernel)]; exact ⟨rfl, rfl⟩))
  (fun os started H enc _ => cj2_lifted os started H enc)
#print axioms cj2_holds
end Go.Proofs.YtaghcjbpjnpkbaaGreat

/-
 What has become of a book's channel, on a ledger: the walk.
-/
import Derived.Test.YthfoeaokfhbdaaaGreatDP119
import Derived.Test.YthfoeaokfhbdaaaGreatDP125
import Derived.Test.YthfoeaokfhbdaaaGreatDP123
set_option linter.unusedSimpArgs false
set_option linter.unusedVariables false
set_option maxRecDepth 100000
set_option maxHeartbeats 8000000
namespace Go.Proofs.YthfoeaokfhbdaaaGreat
open Go Go.AL Go.Proofs.YthfoeaokfhbdaaaGreat.T
noncomputable def doneT (x : LS) (id : Sum) : Tx_ := match lookM id x.done with | some d => d.tx | none => ⟨[], [], op0, []⟩
noncomputable def doneV (x : LS) (id : Sum) : AV := match lookM id x.done with | some d => txA d.tx | none => txZA
noncomputable def doneH (x : LS) (id : Sum) : Int := match lookM id x.done with | some d => d.height | none => 0
theorem txZ_le : AV.le txZA (txA ⟨[], [], op0, []⟩) :=
 ⟨_, rfl, _, _, rfl, ⟨_, _, rfl, AV.les_refl _, .inr (.inl rfl)⟩, _, _, rfl, ⟨_, _, rfl, AV.les_refl _, .inr (.inl rfl)⟩, _, _, rfl, ⟨_, rfl, _, _, rfl, AV.le_refl _, _, _, rfl, AV.le_refl _, _, _, rfl, AV.le_refl _, _, _, rfl, AV.le_refl _, _, _, rfl, AV.le_refl _, _, _, rfl, ⟨_, _, rfl, AV.les_refl _, .inr (.inl rfl)⟩, rfl⟩, _, _, rfl, ⟨_, _, rfl, AV.les_refl _, .inr (.inl rfl)⟩, rfl⟩
theorem optD_e (x : LS) (id : Sum) : optD (lookM id x.done) = .agg 41 [doneV x id, n64 (doneH x id)] := by
 unfold doneV doneH; cases lookM id x.done <;> rfl
theorem doneV_g (x : LS) (id : Sum) : (doneV x id).good = true ∧ (doneV x id).isAgg = true ∧ (doneV x id).csize = 40 ∧ ∀ m, AV.nb m (doneV x id) := by
 unfold doneV; cases lookM id x.done
 ·exact ⟨rfl, rfl, rfl, fun m => by simp [txZA, AV.nb, AV.nbs, nb_sum]⟩
 ·exact ⟨rfl, rfl, rfl, fun m => by simp only [nb_tx]⟩
theorem doneV_own (nx : Nat) (c : Chan) (x : LS) (id : Sum) (hD : DnOk x) : FnSpec Tryz.prog 37 nx [chanA c, doneV x id] [] (n64 (ownF c (doneT x id))) [] 0 := by
 unfold doneV doneT
 cases h : lookM id x.done with
 | none => exact (owner_spec nx c ⟨[], [], op0, []⟩ (by simp) (by simp) (fun o ho => by cases ho)).le (args := [chanA c, txZA]) ⟨_, _, rfl, AV.le_refl _, _, _, rfl, txZ_le, rfl⟩
 | some d =>
  have ht := hD.of h
  exact owner_spec nx c d.tx ht.l.2.2.1 ht.l.2.2.2.1 (fun o ho => ht.l.2.2.2.2.2 o ho)
noncomputable def lookF (x : LS) (b : Bk) : Sts :=
 if b.opened = false then stsZ
 else match lookM b.chan.fund x.spent with
  | none => stsZ
  | some s =>
   if ownF b.chan (doneT x s.by_) < 0 then ⟨true, ownF b.chan (doneT x s.by_), -1, s.by_, s.height, 0, 0⟩
   else match lookM ⟨s.by_, 0⟩ x.spent with
    | none => ⟨true, ownF b.chan (doneT x s.by_), stF b.chan (ownF b.chan (doneT x s.by_)) s.by_ b.states, s.by_, s.height, 1, 0⟩
    | some p => ⟨true, ownF b.chan (doneT x s.by_), stF b.chan (ownF b.chan (doneT x s.by_)) s.by_ b.states, s.by_, s.height, if p.way = 1 then 3 else 2, p.height⟩
attribute [local go_sem] nb_u8s u8s_length nb_sum List.length_replicate zero_sum sum_h u8s_nil sum_csz sum_agg sumA_good states_len nb_states Option.isSome_some Option.isSome_none
section
variable (nx N : Nat) (b : Bk) (hN : N + 16 < nx)
include hN
theorem bchan_spec : FnSpec Tryz.prog 36 nx [.ref (N + 16) 0 []] [(N + 16, some (.robj (bookA b N)))] (.tup [chanA b.chan, bA b.opened]) [] 0 := by
 have hx := bkN hN
 have hno := fun nc (h : nx ≤ nc) => bnone_spec nc N b (by omega)
 simp only [bookA, chanA, refA] at hno
 refine FnSpec.of_code (cx := cx) (an := {}) (rs := [.cell 2 66, .tmp 3]) mo Tryz.func36 rfl rfl (by kernel_rfl) (by kernel_rfl) (by show 1 ≤ _; decide) (.inr ⟨_, rfl, by simp [AV.good, chanA]⟩) (by simp [allWr, keys, Res.wr]) ?_
 repeat' (first | omega | assumption | (show AL.ahead _ _ _ = true; rfl) | (first | apply brF | apply brT | apply brVF | apply brVT) <;> intro _ | (with_reducible refine And.intro ?_ ?_) | (refine callK_by (hno _ (by omega)) ?_) | (simp -dsimp -implicitDefEqProofs only [go_sem, bookA, chanA, refA, hx]))
 all_goals rfl
variable (hL : bkL b) (n : LN) (x : LS) (hn : n.ok nx) (hD : DnOk x) (h1 : N + 16 ≠ n.l) (h2 : N + 16 ≠ n.d) (h3 : N + 16 ≠ n.s)
include hL hn hD h1 h2 h3
theorem scanLook_spec : FnSpec Tryz.prog 35 nx [.ref n.l 0 [], .ref (N + 16) 0 []] [(N + 16, some (.robj (bookA b N))), (n.l, some (.robj (ledA n x))), (n.d, some (.rmp (donesE x.done))), (n.s, some (.rmp (spentE x.spent)))] (stsA (lookF x b)) [] 0 := by
 have hx := bkN hN
 have xf := hn.xf
 have yf := hn.nf
 have z1 := neF h1
 have z2 := neF h2
 have z3 := neF h3
 have hch := fun nc (h : nx ≤ nc) => bchan_spec nc N b (by omega)
 have hsp := fun nc (h : nx ≤ nc) => lspent_spec nc n x b.chan.fund (hn.up h)
 have hst := fun nc (h : nx ≤ nc) => bstates_spec nc N b (by omega) hL
 rcases Bool.eq_false_or_eq_true b.opened with ho | ho
 ·cases hs : lookM b.chan.fund x.spent with
  | none =>
   have e : lookF x b = stsZ := by unfold lookF; rw [if_neg (by rw [ho]; decide), hs]
   rw [e]
   rw [ho] at hch
   rw [hs] at hsp
   simp only [chanA, refA, optS, spendA] at hch hsp
   refine FnSpec.of_code (cx := cx) (an := {}) (rs := [.cell 4 101]) mo Tryz.func35 rfl rfl (by kernel_rfl) (by kernel_rfl) (by show 2 ≤ _; decide) (.inl rfl) (by simp [allWr, keys, Res.wr]) ?_
   repeat' (first | omega | assumption | (show AL.ahead _ _ _ = true; rfl) | (first | apply brF | apply brT | apply brVF | apply brVT) <;> intro _ | (with_reducible refine And.intro ?_ ?_) | (refine callK_by (hch _ (by omega)) ?_) | (refine callK_by (hsp _ (by omega)) ?_) | (simp -dsimp -implicitDefEqProofs only [go_sem, stsA, stsZ, xf, yf, z1, z2, z3, hx]))
   all_goals rfl
  | some s =>
   have hdn := fun nc (h : nx ≤ nc) => ldone_spec nc n x s.by_ (hn.up h)
   obtain ⟨g1, g2, g3, g4⟩ := doneV_g x s.by_
   have how := fun nc => doneV_own nc b.chan x s.by_ hD
   have hlf : lookF x b = if ownF b.chan (doneT x s.by_) < 0 then ⟨true, ownF b.chan (doneT x s.by_), -1, s.by_, s.height, 0, 0⟩
    else match lookM ⟨s.by_, 0⟩ x.spent with
    | none => ⟨true, ownF b.chan (doneT x s.by_), stF b.chan (ownF b.chan (doneT x s.by_)) s.by_ b.states, s.by_, s.height, 1, 0⟩
    | some p => ⟨true, ownF b.chan (doneT x s.by_), stF b.chan (ownF b.chan (doneT x s.by_)) s.by_ b.states, s.by_, s.height, if p.way = 1 then 3 else 2, p.height⟩ := by
    unfold lookF; rw [if_neg (by rw [ho]; decide), hs]
   rw [hlf]
   rw [ho] at hch
   rw [hs] at hsp
   simp only [optD_e] at hdn
   have hsc := fun nc ow => scanState_spec nc b.chan b.states ow s.by_ hL.1
   have hs2 := fun nc (h : nx ≤ nc) => lspent_spec nc n x ⟨s.by_, 0⟩ (hn.up h)
   simp only [chanA, refA, optS, spendA] at hch hsp how hsc hs2
   generalize doneV x s.by_ = D at *
   generalize (lookM s.by_ x.done).isSome = B at *
   generalize ownF b.chan (doneT x s.by_) = ow at *
   by_cases hw : ow < 0
   ·rw [if_pos hw]
    refine FnSpec.of_code (cx := cx) (an := {}) (rs := [.cell 4 101]) mo Tryz.func35 rfl rfl (by kernel_rfl) (by kernel_rfl) (by show 2 ≤ _; decide) (.inl rfl) (by simp [allWr, keys, Res.wr]) ?_
    repeat' (first | omega | assumption | (show AL.ahead _ _ _ = true; rfl) | (first | apply brF | apply brT | apply brVF | apply brVT) <;> intro _ | (with_reducible refine And.intro ?_ ?_) | (refine callK_by (hch _ (by omega)) ?_) | (refine callK_by (hsp _ (by omega)) ?_) | (refine callK_by (hdn _ (by omega)) ?_) | (refine callK_by (how _) ?_) | (simp -dsimp -implicitDefEqProofs only [go_sem, stsA, xf, yf, z1, z2, z3, hx, g1, g2, g3, g4, hw]))
    all_goals rfl
   ·rw [if_neg hw]
    cases hp : lookM (⟨s.by_, 0⟩ : Ref_) x.spent with
    | none =>
     rw [hp] at hs2
     simp only [optS, spendA] at hs2
     refine FnSpec.of_code (cx := cx) (an := {}) (rs := [.cell 4 101]) mo Tryz.func35 rfl rfl (by kernel_rfl) (by kernel_rfl) (by show 2 ≤ _; decide) (.inl rfl) (by simp [allWr, keys, Res.wr]) ?_
     repeat' (first | omega | assumption | (show AL.ahead _ _ _ = true; rfl) | (first | apply brF | apply brT | apply brVF | apply brVT) <;> intro _ | (with_reducible refine And.intro ?_ ?_) | (refine callK_by (hch _ (by omega)) ?_) | (refine callK_by (hsp _ (by omega)) ?_) | (refine callK_by (hdn _ (by omega)) ?_) | (refine callK_by (how _) ?_) | (refine callK_by (hst _ (by omega)) ?_) | (refine callK_by (hsc _ ow) ?_) | (refine callK_by (hs2 _ (by omega)) ?_) | (simp -dsimp -implicitDefEqProofs only [go_sem, stsA, xf, yf, z1, z2, z3, hx, g1, g2, g3, g4, hw]))
     all_goals rfl
    | some p =>
     rw [hp] at hs2
     simp only [optS, spendA] at hs2
     by_cases hq : p.way = 1
     ·simp only [if_pos hq]
      refine FnSpec.of_code (cx := cx) (an := {}) (rs := [.cell 4 101]) mo Tryz.func35 rfl rfl (by kernel_rfl) (by kernel_rfl) (by show 2 ≤ _; decide) (.inl rfl) (by simp [allWr, keys, Res.wr]) ?_
      repeat' (first | omega | assumption | (show AL.ahead _ _ _ = true; rfl) | (first | apply brF | apply brT | apply brVF | apply brVT) <;> intro _ | (with_reducible refine And.intro ?_ ?_) | (refine callK_by (hch _ (by omega)) ?_) | (refine callK_by (hsp _ (by omega)) ?_) | (refine callK_by (hdn _ (by omega)) ?_) | (refine callK_by (how _) ?_) | (refine callK_by (hst _ (by omega)) ?_) | (refine callK_by (hsc _ ow) ?_) | (refine callK_by (hs2 _ (by omega)) ?_) | (simp -dsimp -implicitDefEqProofs only [go_sem, stsA, xf, yf, z1, z2, z3, hx, g1, g2, g3, g4, hw, hq]))
      all_goals rfl
     ·simp only [if_neg hq]
      refine FnSpec.of_code (cx := cx) (an := {}) (rs := [.cell 4 101]) mo Tryz.func35 rfl rfl (by kernel_rfl) (by kernel_rfl) (by show 2 ≤ _; decide) (.inl rfl) (by simp [allWr, keys, Res.wr]) ?_
      repeat' (first | omega | assumption | (show AL.ahead _ _ _ = true; rfl) | (first | apply brF | apply brT | apply brVF | apply brVT) <;> intro _ | (with_reducible refine And.intro ?_ ?_) | (refine callK_by (hch _ (by omega)) ?_) | (refine callK_by (hsp _ (by omega)) ?_) | (refine callK_by (hdn _ (by omega)) ?_) | (refine callK_by (how _) ?_) | (refine callK_by (hst _ (by omega)) ?_) | (refine callK_by (hsc _ ow) ?_) | (refine callK_by (hs2 _ (by omega)) ?_) | (simp -dsimp -implicitDefEqProofs only [go_sem, stsA, xf, yf, z1, z2, z3, hx, g1, g2, g3, g4, hw, hq]))
      all_goals rfl
 ·have e : lookF x b = stsZ := by unfold lookF; rw [if_pos ho]
  rw [e]
  rw [ho] at hch
  simp only [chanA, refA] at hch
  refine FnSpec.of_code (cx := cx) (an := {}) (rs := [.cell 4 101]) mo Tryz.func35 rfl rfl (by kernel_rfl) (by kernel_rfl) (by show 2 ≤ _; decide) (.inl rfl) (by simp [allWr, keys, Res.wr]) ?_
  repeat' (first | omega | assumption | (show AL.ahead _ _ _ = true; rfl) | (first | apply brF | apply brT | apply brVF | apply brVT) <;> intro _ | (with_reducible refine And.intro ?_ ?_) | (refine callK_by (hch _ (by omega)) ?_) | (simp -dsimp -implicitDefEqProofs only [go_sem, stsA, stsZ, xf, yf, z1, z2, z3, hx]))
  all_goals rfl
end
end Go.Proofs.YthfoeaokfhbdaaaGreat

namespace Go.Proofs.YthfoeaokfhbdaaaGreat
open Go Go.AL Go.Proofs.YthfoeaokfhbdaaaGreat.T
attribute [local go_sem] nb_u8s u8s_length nb_sum List.length_replicate zero_sum sum_h u8s_nil sums_len nb_sums states_len helds_len nb_states nb_helds signs_len nb_signs nb_keysT nb_valsT txs_len nb_txs outs_len nb_outs txA_good txA_csz txA_agg nb_tx brs_len nb_brs nbK_ref nbK_int nbK_pair nbK_sum nbV_coin nbV_tow nbV_hold nbV_done nbV_spend Option.isSome_some Option.isSome_none
structure SlH (nx K m : Nat) (rs : List BR) (os : List Out_) (l : List Tx_) (n : LN) (x : LS) (B : Bk) : Prop where
 hmk : FnSpec Tryz.prog 33 (nx + 96) [.sl 274 (brsA rs) 0, .sl 2 (outsA os) 0, .sl 40 (txsA l) 0] [] (.tup [.ref (nx + 312) 0 [], .ref (nx + 576) 0 [], bA true]) (bookH B (nx + 296) ++ ledH n x) K
 hK : 200000 ≤ K
 hm : nx + (96 + K) = m
 hn : n.ok m
 hn2 : n.l = nx + 576 ∧ n.v = nx + 616 ∧ n.vm = nx + 600 ∧ n.d = nx + 552 ∧ n.s = nx + 560 ∧ n.o = nx + 569
 hn3 : nx + 640 ≤ n.b ∧ nx + 640 ≤ n.tm ∧ nx + 640 ≤ n.hm
 hL : bkL B
 hD : DnOk x
theorem lookF_none {x : LS} {b : Bk} (ho : b.opened = true) (hs : lookM b.chan.fund x.spent = none) : lookF x b = stsZ := by
 unfold lookF; rw [if_neg (by rw [ho]; decide), hs]
theorem lookF_some {x : LS} {b : Bk} (ho : b.opened = true) {s : Spend_} (hs : lookM b.chan.fund x.spent = some s) : lookF x b = if ownF b.chan (doneT x s.by_) < 0 then ⟨true, ownF b.chan (doneT x s.by_), -1, s.by_, s.height, 0, 0⟩
  else match lookM ⟨s.by_, 0⟩ x.spent with
  | none => ⟨true, ownF b.chan (doneT x s.by_), stF b.chan (ownF b.chan (doneT x s.by_)) s.by_ b.states, s.by_, s.height, 1, 0⟩
  | some p => ⟨true, ownF b.chan (doneT x s.by_), stF b.chan (ownF b.chan (doneT x s.by_)) s.by_ b.states, s.by_, s.height, if p.way = 1 then 3 else 2, p.height⟩ := by
 unfold lookF; rw [if_neg (by rw [ho]; decide)]; simp only [hs] <;> rfl
theorem lookF_other {x : LS} {b : Bk} (ho : b.opened = true) {s : Spend_} (hs : lookM b.chan.fund x.spent = some s) (hw : ownF b.chan (doneT x s.by_) < 0) : lookF x b = ⟨true, ownF b.chan (doneT x s.by_), -1, s.by_, s.height, 0, 0⟩ := by
 rw [lookF_some ho hs, if_pos hw]
theorem lookF_free {x : LS} {b : Bk} (ho : b.opened = true) {s : Spend_} (hs : lookM b.chan.fund x.spent = some s) (hw : ¬ ownF b.chan (doneT x s.by_) < 0) (hp : lookM (⟨s.by_, 0⟩ : Ref_) x.spent = none) : lookF x b = ⟨true, ownF b.chan (doneT x s.by_), stF b.chan (ownF b.chan (doneT x s.by_)) s.by_ b.states, s.by_, s.height, 1, 0⟩ := by
 rw [lookF_some ho hs, if_neg hw, hp]
theorem lookF_gone {x : LS} {b : Bk} (ho : b.opened = true) {s : Spend_} (hs : lookM b.chan.fund x.spent = some s) (hw : ¬ ownF b.chan (doneT x s.by_) < 0) {p : Spend_} (hp : lookM (⟨s.by_, 0⟩ : Ref_) x.spent = some p) : lookF x b = ⟨true, ownF b.chan (doneT x s.by_), stF b.chan (ownF b.chan (doneT x s.by_)) s.by_ b.states, s.by_, s.height, if p.way = 1 then 3 else 2, p.height⟩ := by
 rw [lookF_some ho hs, if_neg hw, hp]
theorem sl_closed1 (nx K m : Nat) (rs : List BR) (os : List Out_) (l : List Tx_) (n : LN) (x : LS) (B : Bk) (H : SlH nx K m rs os l n x B) (ho : B.opened = false) (hs : lookM B.chan.fund x.spent = none) : FnSpec Tryz.prog 6 nx [.sl 274 (brsA rs) 0, .sl 2 (outsA os) 0, .sl 40 (txsA l) 0] [] (bA true) [] 0 := by
 obtain ⟨hmk, hK, hm, hn, hn2, hn3, hL, hD⟩ := H
 have hmj : ∀ j, nx + (96 + (K + j)) = m + j := fun j => by omega
 have nl : ∀ j k, j < 640 → ((nx + j = m + k) = False) ∧ ((m + k = nx + j) = False) ∧ ((nx + j = m) = False) ∧ ((m = nx + j) = False) := fun j k h => by
  simp only [eq_iff_iff, iff_false]; omega
 have hlt := hn.lt
 have nb : ∀ j, j < 640 → ((n.b = nx + j) = False) ∧ ((nx + j = n.b) = False) ∧ ((n.tm = nx + j) = False) ∧ ((nx + j = n.tm) = False) ∧ ((n.hm = nx + j) = False) ∧ ((nx + j = n.hm) = False) := fun j h => by
  simp only [eq_iff_iff, iff_false]; omega
 have xf := hn.xf
 have yf := hn.nf
 simp only [ledH, bookH, List.cons_append, List.nil_append, Nat.add_assoc, Nat.reduceAdd, hn2] at hmk
 have hlk := fun nc (h : m ≤ nc) => scanLook_spec nc (nx + 296) B (by omega) hL n x (hn.up h) hD (by rw [hn2.1]; omega) (by rw [hn2.2.2.2.1]; omega) (by rw [hn2.2.2.2.2.1]; omega)
 have hch := fun nc (h : m ≤ nc) => bchan_spec nc (nx + 296) B (by omega)
 have hsp := fun nc (h : m ≤ nc) => lspent_spec nc n x B.chan.fund (hn.up h)
 have hst := fun nc (h : m ≤ nc) => bstates_spec nc (nx + 296) B (by omega) hL
 simp only [hn2, Nat.add_assoc, Nat.reduceAdd] at hlk hch hsp hst
 simp only [refA] at hsp
 have haw := fun nc => sawake_spec nc
 have e : lookF x B = stsZ := by unfold lookF; rw [if_pos ho]
 rw [e] at hlk
 rw [ho] at hch
 rw [hs] at hsp
 have ee : eqB (.agg 38 [bA false, n64 (-1), n64 (-1), .vec 1 (u8s zeroS.b), n64 0, n64 0, n64 0]) (.agg 38 [bA false, n64 (-1), n64 (-1), .vec 1 (u8s zeroS.b), n64 0, n64 0, n64 0]) = true := eqB_yes rfl
 simp only [chanA, refA, optS, spendA, sumA, stsA, stsZ] at hch hsp hlk
 refine FnSpec.of_code (cx := cx) (an := {}) (rs := [.tmp 6]) mo Tryz.func6 rfl rfl (by kernel_rfl) (by kernel_rfl) (by show 3 ≤ _; decide) (.inl rfl) (by simp [allWr, keys, Res.wr]) ?_
 repeat' (first | omega | assumption | (show AL.ahead _ _ _ = true; rfl) | (first | apply brF | apply brT | apply brVF | apply brVT) <;> intro _ | (with_reducible refine And.intro ?_ ?_) | (refine callK_by (hmk) ?_) | (refine callK_by (hlk _ (by omega)) ?_) | (refine callK_by (hch _ (by omega)) ?_) | (refine callK_by (hsp _ (by omega)) ?_) | (refine callK_by (haw _) ?_) | (simp -dsimp -implicitDefEqProofs only [go_sem, chanA, refA, sumA, nb, nl, hm, hmj, xf, yf, ↓cmp_sum7, ↓cmp_sum, isSumT, ee]))
 all_goals rfl
theorem sl_closed2 (nx K m : Nat) (rs : List BR) (os : List Out_) (l : List Tx_) (n : LN) (x : LS) (B : Bk) (H : SlH nx K m rs os l n x B) (ho : B.opened = false) (s : Spend_) (hs : lookM B.chan.fund x.spent = some s) : FnSpec Tryz.prog 6 nx [.sl 274 (brsA rs) 0, .sl 2 (outsA os) 0, .sl 40 (txsA l) 0] [] (bA true) [] 0 := by
 obtain ⟨hmk, hK, hm, hn, hn2, hn3, hL, hD⟩ := H
 have hmj : ∀ j, nx + (96 + (K + j)) = m + j := fun j => by omega
 have nl : ∀ j k, j < 640 → ((nx + j = m + k) = False) ∧ ((m + k = nx + j) = False) ∧ ((nx + j = m) = False) ∧ ((m = nx + j) = False) := fun j k h => by
  simp only [eq_iff_iff, iff_false]; omega
 have hlt := hn.lt
 have nb : ∀ j, j < 640 → ((n.b = nx + j) = False) ∧ ((nx + j = n.b) = False) ∧ ((n.tm = nx + j) = False) ∧ ((nx + j = n.tm) = False) ∧ ((n.hm = nx + j) = False) ∧ ((nx + j = n.hm) = False) := fun j h => by
  simp only [eq_iff_iff, iff_false]; omega
 have xf := hn.xf
 have yf := hn.nf
 simp only [ledH, bookH, List.cons_append, List.nil_append, Nat.add_assoc, Nat.reduceAdd, hn2] at hmk
 have hlk := fun nc (h : m ≤ nc) => scanLook_spec nc (nx + 296) B (by omega) hL n x (hn.up h) hD (by rw [hn2.1]; omega) (by rw [hn2.2.2.2.1]; omega) (by rw [hn2.2.2.2.2.1]; omega)
 have hch := fun nc (h : m ≤ nc) => bchan_spec nc (nx + 296) B (by omega)
 have hsp := fun nc (h : m ≤ nc) => lspent_spec nc n x B.chan.fund (hn.up h)
 have hst := fun nc (h : m ≤ nc) => bstates_spec nc (nx + 296) B (by omega) hL
 simp only [hn2, Nat.add_assoc, Nat.reduceAdd] at hlk hch hsp hst
 simp only [refA] at hsp
 have haw := fun nc => sawake_spec nc
 have e : lookF x B = stsZ := by unfold lookF; rw [if_pos ho]
 rw [e] at hlk
 rw [ho] at hch
 rw [hs] at hsp
 have ee : eqB (.agg 38 [bA false, n64 (-1), n64 (-1), .vec 1 (u8s zeroS.b), n64 0, n64 0, n64 0]) (.agg 38 [bA false, n64 (-1), n64 (-1), .vec 1 (u8s zeroS.b), n64 0, n64 0, n64 0]) = true := eqB_yes rfl
 simp only [chanA, refA, optS, spendA, sumA, stsA, stsZ] at hch hsp hlk
 refine FnSpec.of_code (cx := cx) (an := {}) (rs := [.tmp 6]) mo Tryz.func6 rfl rfl (by kernel_rfl) (by kernel_rfl) (by show 3 ≤ _; decide) (.inl rfl) (by simp [allWr, keys, Res.wr]) ?_
 repeat' (first | omega | assumption | (show AL.ahead _ _ _ = true; rfl) | (first | apply brF | apply brT | apply brVF | apply brVT) <;> intro _ | (with_reducible refine And.intro ?_ ?_) | (refine callK_by (hmk) ?_) | (refine callK_by (hlk _ (by omega)) ?_) | (refine callK_by (hch _ (by omega)) ?_) | (refine callK_by (hsp _ (by omega)) ?_) | (refine callK_by (haw _) ?_) | (simp -dsimp -implicitDefEqProofs only [go_sem, chanA, refA, sumA, nb, nl, hm, hmj, xf, yf, ↓cmp_sum7, ↓cmp_sum, isSumT, ee]))
 all_goals rfl
theorem sl_none (nx K m : Nat) (rs : List BR) (os : List Out_) (l : List Tx_) (n : LN) (x : LS) (B : Bk) (H : SlH nx K m rs os l n x B) (ho : B.opened = true) (hs : lookM B.chan.fund x.spent = none) : FnSpec Tryz.prog 6 nx [.sl 274 (brsA rs) 0, .sl 2 (outsA os) 0, .sl 40 (txsA l) 0] [] (bA true) [] 0 := by
 obtain ⟨hmk, hK, hm, hn, hn2, hn3, hL, hD⟩ := H
 have hmj : ∀ j, nx + (96 + (K + j)) = m + j := fun j => by omega
 have nl : ∀ j k, j < 640 → ((nx + j = m + k) = False) ∧ ((m + k = nx + j) = False) ∧ ((nx + j = m) = False) ∧ ((m = nx + j) = False) := fun j k h => by
  simp only [eq_iff_iff, iff_false]; omega
 have hlt := hn.lt
 have nb : ∀ j, j < 640 → ((n.b = nx + j) = False) ∧ ((nx + j = n.b) = False) ∧ ((n.tm = nx + j) = False) ∧ ((nx + j = n.tm) = False) ∧ ((n.hm = nx + j) = False) ∧ ((nx + j = n.hm) = False) := fun j h => by
  simp only [eq_iff_iff, iff_false]; omega
 have xf := hn.xf
 have yf := hn.nf
 simp only [ledH, bookH, List.cons_append, List.nil_append, Nat.add_assoc, Nat.reduceAdd, hn2] at hmk
 have hlk := fun nc (h : m ≤ nc) => scanLook_spec nc (nx + 296) B (by omega) hL n x (hn.up h) hD (by rw [hn2.1]; omega) (by rw [hn2.2.2.2.1]; omega) (by rw [hn2.2.2.2.2.1]; omega)
 have hch := fun nc (h : m ≤ nc) => bchan_spec nc (nx + 296) B (by omega)
 have hsp := fun nc (h : m ≤ nc) => lspent_spec nc n x B.chan.fund (hn.up h)
 have hst := fun nc (h : m ≤ nc) => bstates_spec nc (nx + 296) B (by omega) hL
 simp only [hn2, Nat.add_assoc, Nat.reduceAdd] at hlk hch hsp hst
 simp only [refA] at hsp
 have haw := fun nc => sawake_spec nc
 have e := lookF_none ho hs
 rw [e] at hlk
 rw [ho] at hch
 rw [hs] at hsp
 have ee : eqB (.agg 38 [bA false, n64 (-1), n64 (-1), .vec 1 (u8s zeroS.b), n64 0, n64 0, n64 0]) (.agg 38 [bA false, n64 (-1), n64 (-1), .vec 1 (u8s zeroS.b), n64 0, n64 0, n64 0]) = true := eqB_yes rfl
 simp only [chanA, refA, optS, spendA, sumA, stsA, stsZ] at hch hsp hlk
 refine FnSpec.of_code (cx := cx) (an := {}) (rs := [.tmp 6]) mo Tryz.func6 rfl rfl (by kernel_rfl) (by kernel_rfl) (by show 3 ≤ _; decide) (.inl rfl) (by simp [allWr, keys, Res.wr]) ?_
 repeat' (first | omega | assumption | (show AL.ahead _ _ _ = true; rfl) | (first | apply brF | apply brT | apply brVF | apply brVT) <;> intro _ | (with_reducible refine And.intro ?_ ?_) | (refine callK_by (hmk) ?_) | (refine callK_by (hlk _ (by omega)) ?_) | (refine callK_by (hch _ (by omega)) ?_) | (refine callK_by (hsp _ (by omega)) ?_) | (refine callK_by (haw _) ?_) | (simp -dsimp -implicitDefEqProofs only [go_sem, chanA, refA, sumA, nb, nl, hm, hmj, xf, yf, ↓cmp_sum7, ↓cmp_sum, isSumT, ee]))
 all_goals rfl
end Go.Proofs.YthfoeaokfhbdaaaGreat

namespace Go.Proofs.YthfoeaokfhbdaaaGreat
open Go Go.AL Go.Proofs.YthfoeaokfhbdaaaGreat.T
attribute [local go_sem] nb_u8s u8s_length nb_sum List.length_replicate zero_sum sum_h u8s_nil sums_len nb_sums states_len helds_len nb_states nb_helds signs_len nb_signs nb_keysT nb_valsT txs_len nb_txs outs_len nb_outs txA_good txA_csz txA_agg nb_tx brs_len nb_brs nbK_ref nbK_int nbK_pair nbK_sum nbV_coin nbV_tow nbV_hold nbV_done nbV_spend Option.isSome_some Option.isSome_none
theorem sl_other (nx K m : Nat) (rs : List BR) (os : List Out_) (l : List Tx_) (n : LN) (x : LS) (B : Bk) (H : SlH nx K m rs os l n x B) (ho : B.opened = true) (s : Spend_) (hs : lookM B.chan.fund x.spent = some s) (hw : ownF B.chan (doneT x s.by_) < 0) : FnSpec Tryz.prog 6 nx [.sl 274 (brsA rs) 0, .sl 2 (outsA os) 0, .sl 40 (txsA l) 0] [] (bA true) [] 0 := by
 obtain ⟨hmk, hK, hm, hn, hn2, hn3, hL, hD⟩ := H
 have hmj : ∀ j, nx + (96 + (K + j)) = m + j := fun j => by omega
 have nl : ∀ j k, j < 640 → ((nx + j = m + k) = False) ∧ ((m + k = nx + j) = False) ∧ ((nx + j = m) = False) ∧ ((m = nx + j) = False) := fun j k h => by
  simp only [eq_iff_iff, iff_false]; omega
 have hlt := hn.lt
 have nb : ∀ j, j < 640 → ((n.b = nx + j) = False) ∧ ((nx + j = n.b) = False) ∧ ((n.tm = nx + j) = False) ∧ ((nx + j = n.tm) = False) ∧ ((n.hm = nx + j) = False) ∧ ((nx + j = n.hm) = False) := fun j h => by
  simp only [eq_iff_iff, iff_false]; omega
 have xf := hn.xf
 have yf := hn.nf
 simp only [ledH, bookH, List.cons_append, List.nil_append, Nat.add_assoc, Nat.reduceAdd, hn2] at hmk
 have hlk := fun nc (h : m ≤ nc) => scanLook_spec nc (nx + 296) B (by omega) hL n x (hn.up h) hD (by rw [hn2.1]; omega) (by rw [hn2.2.2.2.1]; omega) (by rw [hn2.2.2.2.2.1]; omega)
 have hch := fun nc (h : m ≤ nc) => bchan_spec nc (nx + 296) B (by omega)
 have hsp := fun nc (h : m ≤ nc) => lspent_spec nc n x B.chan.fund (hn.up h)
 have hst := fun nc (h : m ≤ nc) => bstates_spec nc (nx + 296) B (by omega) hL
 simp only [hn2, Nat.add_assoc, Nat.reduceAdd] at hlk hch hsp hst
 simp only [refA] at hsp
 have haw := fun nc => sawake_spec nc
 have e := lookF_other ho hs hw
 rw [e] at hlk
 rw [ho] at hch
 rw [hs] at hsp
 have hdn := fun nc (h : m ≤ nc) => ldone_spec nc n x s.by_ (hn.up h)
 simp only [hn2] at hdn
 obtain ⟨g1, g2, g3, g4⟩ := doneV_g x s.by_
 have how := fun nc => doneV_own nc B.chan x s.by_ hD
 simp only [optD_e] at hdn
 have hsc := fun nc ow => scanState_spec nc B.chan B.states ow s.by_ hL.1
 have hs3 := fun nc ow => state_spec nc B.chan B.states ow s.by_ hL.1
 have hs2 := fun nc (h : m ≤ nc) => lspent_spec nc n x ⟨s.by_, 0⟩ (hn.up h)
 simp only [hn2] at hs2
 simp only [chanA, refA, optS, spendA, sumA, stsA, stsZ] at hch hsp how hsc hs3 hs2 hdn hlk
 generalize doneV x s.by_ = D at *
 generalize (lookM s.by_ x.done).isSome = Q at *
 generalize ownF B.chan (doneT x s.by_) = ow at *
 have hw2 : (0 ≤ ow) = False := eq_false (by omega)
 have ee : eqB (.agg 38 [bA true, n64 ow, n64 (-1), .vec 1 (u8s s.by_.b), n64 s.height, n64 0, n64 0]) (.agg 38 [bA true, n64 ow, n64 (-1), .vec 1 (u8s s.by_.b), n64 s.height, n64 0, n64 0]) = true := eqB_yes rfl
 refine FnSpec.of_code (cx := cx) (an := {}) (rs := [.tmp 6]) mo Tryz.func6 rfl rfl (by kernel_rfl) (by kernel_rfl) (by show 3 ≤ _; decide) (.inl rfl) (by simp [allWr, keys, Res.wr]) ?_
 repeat' (first | omega | assumption | (show AL.ahead _ _ _ = true; rfl) | (first | apply brF | apply brT | apply brVF | apply brVT) <;> intro _ | (with_reducible refine And.intro ?_ ?_) | (refine callK_by (hmk) ?_) | (refine callK_by (hlk _ (by omega)) ?_) | (refine callK_by (hch _ (by omega)) ?_) | (refine callK_by (hsp _ (by omega)) ?_) | (refine callK_by (hdn _ (by omega)) ?_) | (refine callK_by (how _) ?_) | (refine callK_by (hst _ (by omega)) ?_) | (refine callK_by (hsc _ ow) ?_) | (refine callK_by (hs3 _ ow) ?_) | (refine callK_by (haw _) ?_) | (simp -dsimp -implicitDefEqProofs only [go_sem, chanA, refA, sumA, nb, nl, hm, hmj, xf, yf, ↓cmp_sum7, ↓cmp_sum, isSumT, ee, g1, g2, g3, g4, hw, hw2, ge_iff_le]))
 all_goals rfl
end Go.Proofs.YthfoeaokfhbdaaaGreat

namespace Go.Proofs.YthfoeaokfhbdaaaGreat
open Go Go.AL Go.Proofs.YthfoeaokfhbdaaaGreat.T
attribute [local go_sem] nb_u8s u8s_length nb_sum List.length_replicate zero_sum sum_h u8s_nil sums_len nb_sums states_len helds_len nb_states nb_helds signs_len nb_signs nb_keysT nb_valsT txs_len nb_txs outs_len nb_outs txA_good txA_csz txA_agg nb_tx brs_len nb_brs nbK_ref nbK_int nbK_pair nbK_sum nbV_coin nbV_tow nbV_hold nbV_done nbV_spend Option.isSome_some Option.isSome_none
theorem sl_free (nx K m : Nat) (rs : List BR) (os : List Out_) (l : List Tx_) (n : LN) (x : LS) (B : Bk) (H : SlH nx K m rs os l n x B) (ho : B.opened = true) (s : Spend_) (hs : lookM B.chan.fund x.spent = some s) (hw : ¬ ownF B.chan (doneT x s.by_) < 0) (hp : lookM (⟨s.by_, 0⟩ : Ref_) x.spent = none) : FnSpec Tryz.prog 6 nx [.sl 274 (brsA rs) 0, .sl 2 (outsA os) 0, .sl 40 (txsA l) 0] [] (bA true) [] 0 := by
 obtain ⟨hmk, hK, hm, hn, hn2, hn3, hL, hD⟩ := H
 have hmj : ∀ j, nx + (96 + (K + j)) = m + j := fun j => by omega
 have nl : ∀ j k, j < 640 → ((nx + j = m + k) = False) ∧ ((m + k = nx + j) = False) ∧ ((nx + j = m) = False) ∧ ((m = nx + j) = False) := fun j k h => by
  simp only [eq_iff_iff, iff_false]; omega
 have hlt := hn.lt
 have nb : ∀ j, j < 640 → ((n.b = nx + j) = False) ∧ ((nx + j = n.b) = False) ∧ ((n.tm = nx + j) = False) ∧ ((nx + j = n.tm) = False) ∧ ((n.hm = nx + j) = False) ∧ ((nx + j = n.hm) = False) := fun j h => by
  simp only [eq_iff_iff, iff_false]; omega
 have xf := hn.xf
 have yf := hn.nf
 simp only [ledH, bookH, List.cons_append, List.nil_append, Nat.add_assoc, Nat.reduceAdd, hn2] at hmk
 have hlk := fun nc (h : m ≤ nc) => scanLook_spec nc (nx + 296) B (by omega) hL n x (hn.up h) hD (by rw [hn2.1]; omega) (by rw [hn2.2.2.2.1]; omega) (by rw [hn2.2.2.2.2.1]; omega)
 have hch := fun nc (h : m ≤ nc) => bchan_spec nc (nx + 296) B (by omega)
 have hsp := fun nc (h : m ≤ nc) => lspent_spec nc n x B.chan.fund (hn.up h)
 have hst := fun nc (h : m ≤ nc) => bstates_spec nc (nx + 296) B (by omega) hL
 simp only [hn2, Nat.add_assoc, Nat.reduceAdd] at hlk hch hsp hst
 simp only [refA] at hsp
 have haw := fun nc => sawake_spec nc
 have e := lookF_free ho hs hw hp
 rw [e] at hlk
 rw [ho] at hch
 rw [hs] at hsp
 have hdn := fun nc (h : m ≤ nc) => ldone_spec nc n x s.by_ (hn.up h)
 simp only [hn2] at hdn
 obtain ⟨g1, g2, g3, g4⟩ := doneV_g x s.by_
 have how := fun nc => doneV_own nc B.chan x s.by_ hD
 simp only [optD_e] at hdn
 have hsc := fun nc ow => scanState_spec nc B.chan B.states ow s.by_ hL.1
 have hs3 := fun nc ow => state_spec nc B.chan B.states ow s.by_ hL.1
 have hs2 := fun nc (h : m ≤ nc) => lspent_spec nc n x ⟨s.by_, 0⟩ (hn.up h)
 simp only [hn2] at hs2
 rw [hp] at hs2
 simp only [chanA, refA, optS, spendA, sumA, stsA, stsZ] at hch hsp how hsc hs3 hs2 hdn hlk
 generalize doneV x s.by_ = D at *
 generalize (lookM s.by_ x.done).isSome = Q at *
 generalize ownF B.chan (doneT x s.by_) = ow at *
 have hw2 : (0 ≤ ow) = True := eq_true (by omega)
 have ee : eqB (.agg 38 [bA true, n64 ow, n64 (stF B.chan ow s.by_ B.states), .vec 1 (u8s s.by_.b), n64 s.height, n64 1, n64 0]) (.agg 38 [bA true, n64 ow, n64 (stF B.chan ow s.by_ B.states), .vec 1 (u8s s.by_.b), n64 s.height, n64 1, n64 0]) = true := eqB_yes rfl
 refine FnSpec.of_code (cx := cx) (an := {}) (rs := [.tmp 6]) mo Tryz.func6 rfl rfl (by kernel_rfl) (by kernel_rfl) (by show 3 ≤ _; decide) (.inl rfl) (by simp [allWr, keys, Res.wr]) ?_
 repeat' (first | omega | assumption | (show AL.ahead _ _ _ = true; rfl) | (first | apply brF | apply brT | apply brVF | apply brVT) <;> intro _ | (with_reducible refine And.intro ?_ ?_) | (refine callK_by (hmk) ?_) | (refine callK_by (hlk _ (by omega)) ?_) | (refine callK_by (hch _ (by omega)) ?_) | (refine callK_by (hsp _ (by omega)) ?_) | (refine callK_by (hdn _ (by omega)) ?_) | (refine callK_by (how _) ?_) | (refine callK_by (hst _ (by omega)) ?_) | (refine callK_by (hsc _ ow) ?_) | (refine callK_by (hs3 _ ow) ?_) | (refine callK_by (hs2 _ (by omega)) ?_) | (refine callK_by (haw _) ?_) | (simp -dsimp -implicitDefEqProofs only [go_sem, chanA, refA, sumA, nb, nl, hm, hmj, xf, yf, ↓cmp_sum7, ↓cmp_sum, isSumT, ee, g1, g2, g3, g4, hw, hw2, ge_iff_le]))
 all_goals rfl
end Go.Proofs.YthfoeaokfhbdaaaGreat

namespace Go.Proofs.YthfoeaokfhbdaaaGreat
open Go Go.AL Go.Proofs.YthfoeaokfhbdaaaGreat.T
attribute [local go_sem] nb_u8s u8s_length nb_sum List.length_replicate zero_sum sum_h u8s_nil sums_len nb_sums states_len helds_len nb_states nb_helds signs_len nb_signs nb_keysT nb_valsT txs_len nb_txs outs_len nb_outs txA_good txA_csz txA_agg nb_tx brs_len nb_brs nbK_ref nbK_int nbK_pair nbK_sum nbV_coin nbV_tow nbV_hold nbV_done nbV_spend Option.isSome_some Option.isSome_none
theorem sl_taken (nx K m : Nat) (rs : List BR) (os : List Out_) (l : List Tx_) (n : LN) (x : LS) (B : Bk) (H : SlH nx K m rs os l n x B) (ho : B.opened = true) (s : Spend_) (hs : lookM B.chan.fund x.spent = some s) (hw : ¬ ownF B.chan (doneT x s.by_) < 0) (p : Spend_) (hp : lookM (⟨s.by_, 0⟩ : Ref_) x.spent = some p) (hq : p.way = 1) : FnSpec Tryz.prog 6 nx [.sl 274 (brsA rs) 0, .sl 2 (outsA os) 0, .sl 40 (txsA l) 0] [] (bA true) [] 0 := by
 obtain ⟨hmk, hK, hm, hn, hn2, hn3, hL, hD⟩ := H
 have hmj : ∀ j, nx + (96 + (K + j)) = m + j := fun j => by omega
 have nl : ∀ j k, j < 640 → ((nx + j = m + k) = False) ∧ ((m + k = nx + j) = False) ∧ ((nx + j = m) = False) ∧ ((m = nx + j) = False) := fun j k h => by
  simp only [eq_iff_iff, iff_false]; omega
 have hlt := hn.lt
 have nb : ∀ j, j < 640 → ((n.b = nx + j) = False) ∧ ((nx + j = n.b) = False) ∧ ((n.tm = nx + j) = False) ∧ ((nx + j = n.tm) = False) ∧ ((n.hm = nx + j) = False) ∧ ((nx + j = n.hm) = False) := fun j h => by
  simp only [eq_iff_iff, iff_false]; omega
 have xf := hn.xf
 have yf := hn.nf
 simp only [ledH, bookH, List.cons_append, List.nil_append, Nat.add_assoc, Nat.reduceAdd, hn2] at hmk
 have hlk := fun nc (h : m ≤ nc) => scanLook_spec nc (nx + 296) B (by omega) hL n x (hn.up h) hD (by rw [hn2.1]; omega) (by rw [hn2.2.2.2.1]; omega) (by rw [hn2.2.2.2.2.1]; omega)
 have hch := fun nc (h : m ≤ nc) => bchan_spec nc (nx + 296) B (by omega)
 have hsp := fun nc (h : m ≤ nc) => lspent_spec nc n x B.chan.fund (hn.up h)
 have hst := fun nc (h : m ≤ nc) => bstates_spec nc (nx + 296) B (by omega) hL
 simp only [hn2, Nat.add_assoc, Nat.reduceAdd] at hlk hch hsp hst
 simp only [refA] at hsp
 have haw := fun nc => sawake_spec nc
 have e := lookF_gone ho hs hw hp
 rw [e] at hlk
 rw [ho] at hch
 rw [hs] at hsp
 have hdn := fun nc (h : m ≤ nc) => ldone_spec nc n x s.by_ (hn.up h)
 simp only [hn2] at hdn
 obtain ⟨g1, g2, g3, g4⟩ := doneV_g x s.by_
 have how := fun nc => doneV_own nc B.chan x s.by_ hD
 simp only [optD_e] at hdn
 have hsc := fun nc ow => scanState_spec nc B.chan B.states ow s.by_ hL.1
 have hs3 := fun nc ow => state_spec nc B.chan B.states ow s.by_ hL.1
 have hs2 := fun nc (h : m ≤ nc) => lspent_spec nc n x ⟨s.by_, 0⟩ (hn.up h)
 simp only [hn2] at hs2
 simp only [if_pos hq] at hlk
 rw [hp] at hs2
 simp only [chanA, refA, optS, spendA, sumA, stsA, stsZ] at hch hsp how hsc hs3 hs2 hdn hlk
 generalize doneV x s.by_ = D at *
 generalize (lookM s.by_ x.done).isSome = Q at *
 generalize ownF B.chan (doneT x s.by_) = ow at *
 have hw2 : (0 ≤ ow) = True := eq_true (by omega)
 have ee : eqB (.agg 38 [bA true, n64 ow, n64 (stF B.chan ow s.by_ B.states), .vec 1 (u8s s.by_.b), n64 s.height, n64 3, n64 p.height]) (.agg 38 [bA true, n64 ow, n64 (stF B.chan ow s.by_ B.states), .vec 1 (u8s s.by_.b), n64 s.height, n64 3, n64 p.height]) = true := eqB_yes rfl
 refine FnSpec.of_code (cx := cx) (an := {}) (rs := [.tmp 6]) mo Tryz.func6 rfl rfl (by kernel_rfl) (by kernel_rfl) (by show 3 ≤ _; decide) (.inl rfl) (by simp [allWr, keys, Res.wr]) ?_
 repeat' (first | omega | assumption | (show AL.ahead _ _ _ = true; rfl) | (first | apply brF | apply brT | apply brVF | apply brVT) <;> intro _ | (with_reducible refine And.intro ?_ ?_) | (refine callK_by (hmk) ?_) | (refine callK_by (hlk _ (by omega)) ?_) | (refine callK_by (hch _ (by omega)) ?_) | (refine callK_by (hsp _ (by omega)) ?_) | (refine callK_by (hdn _ (by omega)) ?_) | (refine callK_by (how _) ?_) | (refine callK_by (hst _ (by omega)) ?_) | (refine callK_by (hsc _ ow) ?_) | (refine callK_by (hs3 _ ow) ?_) | (refine callK_by (hs2 _ (by omega)) ?_) | (refine callK_by (haw _) ?_) | (simp -dsimp -implicitDefEqProofs only [go_sem, chanA, refA, sumA, nb, nl, hm, hmj, xf, yf, ↓cmp_sum7, ↓cmp_sum, isSumT, ee, g1, g2, g3, g4, hw, hw2, hq, ge_iff_le]))
 all_goals rfl
end Go.Proofs.YthfoeaokfhbdaaaGreat

namespace Go.Proofs.YthfoeaokfhbdaaaGreat
open Go Go.AL Go.Proofs.YthfoeaokfhbdaaaGreat.T
attribute [local go_sem] nb_u8s u8s_length nb_sum List.length_replicate zero_sum sum_h u8s_nil sums_len nb_sums states_len helds_len nb_states nb_helds signs_len nb_signs nb_keysT nb_valsT txs_len nb_txs outs_len nb_outs txA_good txA_csz txA_agg nb_tx brs_len nb_brs nbK_ref nbK_int nbK_pair nbK_sum nbV_coin nbV_tow nbV_hold nbV_done nbV_spend Option.isSome_some Option.isSome_none
theorem sl_swept (nx K m : Nat) (rs : List BR) (os : List Out_) (l : List Tx_) (n : LN) (x : LS) (B : Bk) (H : SlH nx K m rs os l n x B) (ho : B.opened = true) (s : Spend_) (hs : lookM B.chan.fund x.spent = some s) (hw : ¬ ownF B.chan (doneT x s.by_) < 0) (p : Spend_) (hp : lookM (⟨s.by_, 0⟩ : Ref_) x.spent = some p) (hq : ¬ p.way = 1) : FnSpec Tryz.prog 6 nx [.sl 274 (brsA rs) 0, .sl 2 (outsA os) 0, .sl 40 (txsA l) 0] [] (bA true) [] 0 := by
 obtain ⟨hmk, hK, hm, hn, hn2, hn3, hL, hD⟩ := H
 have hmj : ∀ j, nx + (96 + (K + j)) = m + j := fun j => by omega
 have nl : ∀ j k, j < 640 → ((nx + j = m + k) = False) ∧ ((m + k = nx + j) = False) ∧ ((nx + j = m) = False) ∧ ((m = nx + j) = False) := fun j k h => by
  simp only [eq_iff_iff, iff_false]; omega
 have hlt := hn.lt
 have nb : ∀ j, j < 640 → ((n.b = nx + j) = False) ∧ ((nx + j = n.b) = False) ∧ ((n.tm = nx + j) = False) ∧ ((nx + j = n.tm) = False) ∧ ((n.hm = nx + j) = False) ∧ ((nx + j = n.hm) = False) := fun j h => by
  simp only [eq_iff_iff, iff_false]; omega
 have xf := hn.xf
 have yf := hn.nf
 simp only [ledH, bookH, List.cons_append, List.nil_append, Nat.add_assoc, Nat.reduceAdd, hn2] at hmk
 have hlk := fun nc (h : m ≤ nc) => scanLook_spec nc (nx + 296) B (by omega) hL n x (hn.up h) hD (by rw [hn2.1]; omega) (by rw [hn2.2.2.2.1]; omega) (by rw [hn2.2.2.2.2.1]; omega)
 have hch := fun nc (h : m ≤ nc) => bchan_spec nc (nx + 296) B (by omega)
 have hsp := fun nc (h : m ≤ nc) => lspent_spec nc n x B.chan.fund (hn.up h)
 have hst := fun nc (h : m ≤ nc) => bstates_spec nc (nx + 296) B (by omega) hL
 simp only [hn2, Nat.add_assoc, Nat.reduceAdd] at hlk hch hsp hst
 simp only [refA] at hsp
 have haw := fun nc => sawake_spec nc
 have e := lookF_gone ho hs hw hp
 rw [e] at hlk
 rw [ho] at hch
 rw [hs] at hsp
 have hdn := fun nc (h : m ≤ nc) => ldone_spec nc n x s.by_ (hn.up h)
 simp only [hn2] at hdn
 obtain ⟨g1, g2, g3, g4⟩ := doneV_g x s.by_
 have how := fun nc => doneV_own nc B.chan x s.by_ hD
 simp only [optD_e] at hdn
 have hsc := fun nc ow => scanState_spec nc B.chan B.states ow s.by_ hL.1
 have hs3 := fun nc ow => state_spec nc B.chan B.states ow s.by_ hL.1
 have hs2 := fun nc (h : m ≤ nc) => lspent_spec nc n x ⟨s.by_, 0⟩ (hn.up h)
 simp only [hn2] at hs2
 simp only [if_neg hq] at hlk
 rw [hp] at hs2
 simp only [chanA, refA, optS, spendA, sumA, stsA, stsZ] at hch hsp how hsc hs3 hs2 hdn hlk
 generalize doneV x s.by_ = D at *
 generalize (lookM s.by_ x.done).isSome = Q at *
 generalize ownF B.chan (doneT x s.by_) = ow at *
 have hw2 : (0 ≤ ow) = True := eq_true (by omega)
 have ee : eqB (.agg 38 [bA true, n64 ow, n64 (stF B.chan ow s.by_ B.states), .vec 1 (u8s s.by_.b), n64 s.height, n64 2, n64 p.height]) (.agg 38 [bA true, n64 ow, n64 (stF B.chan ow s.by_ B.states), .vec 1 (u8s s.by_.b), n64 s.height, n64 2, n64 p.height]) = true := eqB_yes rfl
 refine FnSpec.of_code (cx := cx) (an := {}) (rs := [.tmp 6]) mo Tryz.func6 rfl rfl (by kernel_rfl) (by kernel_rfl) (by show 3 ≤ _; decide) (.inl rfl) (by simp [allWr, keys, Res.wr]) ?_
 repeat' (first | omega | assumption | (show AL.ahead _ _ _ = true; rfl) | (first | apply brF | apply brT | apply brVF | apply brVT) <;> intro _ | (with_reducible refine And.intro ?_ ?_) | (refine callK_by (hmk) ?_) | (refine callK_by (hlk _ (by omega)) ?_) | (refine callK_by (hch _ (by omega)) ?_) | (refine callK_by (hsp _ (by omega)) ?_) | (refine callK_by (hdn _ (by omega)) ?_) | (refine callK_by (how _) ?_) | (refine callK_by (hst _ (by omega)) ?_) | (refine callK_by (hsc _ ow) ?_) | (refine callK_by (hs3 _ ow) ?_) | (refine callK_by (hs2 _ (by omega)) ?_) | (refine callK_by (haw _) ?_) | (simp -dsimp -implicitDefEqProofs only [go_sem, chanA, refA, sumA, nb, nl, hm, hmj, xf, yf, ↓cmp_sum7, ↓cmp_sum, isSumT, ee, g1, g2, g3, g4, hw, hw2, hq, ge_iff_le]))
 all_goals rfl
end Go.Proofs.YthfoeaokfhbdaaaGreat

namespace Go.Proofs.YthfoeaokfhbdaaaGreat
open Go Go.AL Go.Proofs.YthfoeaokfhbdaaaGreat.T
attribute [local go_sem] nb_u8s u8s_length nb_sum List.length_replicate zero_sum sum_h u8s_nil sums_len nb_sums states_len helds_len nb_states nb_helds signs_len nb_signs nb_keysT nb_valsT txs_len nb_txs outs_len nb_outs txA_good txA_csz txA_agg nb_tx brs_len nb_brs nbK_ref nbK_int nbK_pair nbK_sum nbV_coin nbV_tow nbV_hold nbV_done nbV_spend Option.isSome_some Option.isSome_none
theorem scanl_spec (nx : Nat) (rs : List BR) (os : List Out_) (l : List Tx_) : FnSpec Tryz.prog 6 nx [.sl 274 (brsA rs) 0, .sl 2 (outsA os) 0, .sl 40 (txsA l) 0] [] (bA true) [] 0 := by
 by_cases hm : madeP rs os l
 ·obtain ⟨h1, h2, h3, h4, h5, h6⟩ := id hm
  obtain ⟨K, hK⟩ : ∃ K : Nat, 200000 ≤ K := ⟨200000, Nat.le_refl _⟩
  have hmk := made_yes (nx + 96) K hK rs os l h1 h2 h3 h4 h5 h6
  have hX := runL_ok (hf := hfS) (l := l) (newS_ok h3) l.length (Nat.le_refl _) (fun k _ h2 => smallT_ok (h6 _ (List.getElem_mem h2)))
  have hn := nmL_ok (hf := hfS) (M := fun i => nx + 96 + 4408 + 5000 * i + 560) (N := fun i => nx + 96 + 4408 + 5000 * i) (n0 := newN (nx + 96 + 440)) (x0 := newS os) (l := l) (newN_ok (by omega)) (fun i => by omega) l.length
  have hn2 := nmL_same hfS (fun i => nx + 96 + 4408 + 5000 * i + 560) (newN (nx + 96 + 440)) (newS os) l l.length
  have hn3 := nmL_ge (B := nx + 640) (hf := hfS) (M := fun i => nx + 96 + 4408 + 5000 * i + 560) (n0 := newN (nx + 96 + 440)) (x0 := newS os) (l := l) ⟨by simp only [newN]; omega, by simp only [newN]; omega, by simp only [newN]; omega⟩ (fun i => by omega) l.length
  have hok := runB_ok rs rs.length (Nat.le_refl _)
  have hl := h1.1
  generalize nmL hfS (fun i => nx + 96 + 4408 + 5000 * i + 560) (newN (nx + 96 + 440)) (newS os) l l.length = n at *
  generalize runL hfS (newS os) l l.length = x at *
  generalize runB rs rs.length = B at *
  have hn2 : n.l = nx + 576 ∧ n.v = nx + 616 ∧ n.vm = nx + 600 ∧ n.d = nx + 552 ∧ n.s = nx + 560 ∧ n.o = nx + 569 := hn2
  have hn := hn.up (show _ ≤ nx + (96 + K) by omega)
  have hL := okB_bk hok (by omega)
  have hD := hX.d
  have H : SlH nx K (nx + (96 + K)) rs os l n x B := ⟨hmk, hK, rfl, hn, hn2, hn3, hL, hD⟩
  rcases Bool.eq_false_or_eq_true B.opened with ho | ho
  ·cases hs : lookM B.chan.fund x.spent with
   | none => exact sl_none nx K _ rs os l n x B H ho hs
   | some s =>
    by_cases hw : ownF B.chan (doneT x s.by_) < 0
    ·exact sl_other nx K _ rs os l n x B H ho s hs hw
    ·cases hp : lookM (⟨s.by_, 0⟩ : Ref_) x.spent with
     | none => exact sl_free nx K _ rs os l n x B H ho s hs hw hp
     | some p =>
      by_cases hq : p.way = 1
      ·exact sl_taken nx K _ rs os l n x B H ho s hs hw p hp hq
      ·exact sl_swept nx K _ rs os l n x B H ho s hs hw p hp hq
  ·cases hs : lookM B.chan.fund x.spent with
   | none => exact sl_closed1 nx K _ rs os l n x B H ho hs
   | some s => exact sl_closed2 nx K _ rs os l n x B H ho s hs
 ·have hmk := fun nc => made_no nc rs os l hm
  have haw := fun nc => sawake_spec nc
  refine FnSpec.of_code (cx := cx) (an := {}) (rs := [.tmp 6]) mo Tryz.func6 rfl rfl (by kernel_rfl) (by kernel_rfl) (by show 3 ≤ _; decide) (.inl rfl) (by simp [allWr, keys, Res.wr]) ?_
  repeat' (first | omega | assumption | (show AL.ahead _ _ _ = true; rfl) | (first | apply brF | apply brT | apply brVF | apply brVT) <;> intro _ | (with_reducible refine And.intro ?_ ?_) | (refine callK_by (hmk _) ?_) | (refine callK_by (haw _) ?_) | (simp -dsimp -implicitDefEqProofs only [go_sem]))
  all_goals rfl
end Go.Proofs.YthfoeaokfhbdaaaGreat

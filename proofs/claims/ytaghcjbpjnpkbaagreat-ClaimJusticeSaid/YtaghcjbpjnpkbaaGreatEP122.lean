/-
 Ledgers: what any transaction comes to.
-/
import Derived.Test.YtaghcjbpjnpkbaaGreatEP106
import Derived.Test.YtaghcjbpjnpkbaaGreatEP112
import Derived.Test.YtaghcjbpjnpkbaaGreatEP117
import Derived.Test.YtaghcjbpjnpkbaaGreatEP94
import Derived.Test.YtaghcjbpjnpkbaaGreatEP56
import Derived.Test.YtaghcjbpjnpkbaaGreatEP41
set_option linter.unusedSimpArgs false
set_option linter.unusedVariables false
set_option maxRecDepth 100000
set_option maxHeartbeats 8000000
namespace Go.Proofs.YtaghcjbpjnpkbaaGreat
open Go Go.AL Go.Proofs.YtaghcjbpjnpkbaaGreat.T
abbrev Prv : Type := Tx_ → Int → LS → Int × List ((Int × Int) × Hold_)
structure Eff_ where
 into : Int
 out : Int
 e : Int
 ts : List (Int × Tw_)
 hs : List ((Int × Int) × Hold_)
section
open Classical
noncomputable def effF (pv : Prv) (t : Tx_) (h : Int) (x : LS) : Eff_ :=
 if t.op.kind = 0 then ⟨0, 0, 0, x.towers, x.holds⟩
 else if t.op.kind = 1 ∨ t.op.kind = 2 ∨ t.op.kind = 4 ∨ t.op.kind = 5 then
  if twS t then
   if t.op.kind = 1 then ⟨t.op.amount, 0, (lockF t.op.tower t.op.amount t.op.root x.towers).1, (lockF t.op.tower t.op.amount t.op.root x.towers).2, x.holds⟩
   else if t.op.kind = 4 then ⟨0, 0, (askF t.op.tower t.op.amount h x.towers x.holds).1, (askF t.op.tower t.op.amount h x.towers x.holds).2, x.holds⟩
   else if t.op.kind = 5 then ⟨0, (takeF t.op.tower h x.towers).1.1, (takeF t.op.tower h x.towers).1.2, (takeF t.op.tower h x.towers).2, x.holds⟩
   else if (rdC t.op.data).2 ≠ 0 then ⟨0, 0, (rdC t.op.data).2, x.towers, x.holds⟩
   else if (rdC t.op.data).1.id ≠ t.op.channel then ⟨0, 0, 1, x.towers, x.holds⟩
   else ⟨0, 0, (holdF t.op.tower (rdC t.op.data).1 x.towers x.holds).1, x.towers, (holdF t.op.tower (rdC t.op.data).1 x.towers x.holds).2⟩
  else ⟨0, 0, 11, x.towers, x.holds⟩
 else if (lookM (t.op.tower, t.op.channel) x.holds).isSome = false then ⟨0, 0, 7, x.towers, x.holds⟩
 else if clS t x then
  if t.op.kind = 3 then ⟨0, 0, (letF t.op.tower t.op.channel x.holds).1, x.towers, (letF t.op.tower t.op.channel x.holds).2⟩
  else if t.op.kind = 6 then ⟨0, 0, (pv t h x).1, x.towers, (pv t h x).2⟩
  else ⟨0, (setlF t h x.towers x.holds).1, (setlF t h x.towers x.holds).2, (settleF t.op.tower t.op.channel h x.towers x.holds).2.1, (settleF t.op.tower t.op.channel h x.towers x.holds).2.2⟩
 else ⟨0, 0, 11, x.towers, x.holds⟩
end
theorem opB_kind {o : Op_} (h : opB o = true) : 0 ≤ o.kind ∧ o.kind ≤ 7 := by
 unfold opB at h
 split at h
 ·omega
 ·have := of_decide_eq_true h; omega
def DnOk (x : LS) : Prop := ∀ p ∈ x.done, TxOk p.2.tx
def PrvOk (pv : Prv) : Prop := ∀ t h x, TxOk t → txB t = true → DnOk x → (lookM (t.op.tower, t.op.channel) x.holds).isSome = true → PrvSpec t h x (pv t h x).1 (pv t h x).2
theorem eff_all (pv : Prv) (hpv : PrvOk pv) (t : Tx_) (h : Int) (x : LS) (hT : TxOk t) (hB : txB t = true) (hD : DnOk x) : EffSpec t h x (effF pv t h x).into (effF pv t h x).out (effF pv t h x).e (effF pv t h x).ts (effF pv t h x).hs := by
 obtain ⟨k0, k7⟩ := opB_kind (txB_P hB).2.2.2.1
 unfold effF
 by_cases c0 : t.op.kind = 0
 ·rw [if_pos c0]; exact eff_none t h x c0
 ·rw [if_neg c0]
  by_cases c1 : t.op.kind = 1 ∨ t.op.kind = 2 ∨ t.op.kind = 4 ∨ t.op.kind = 5
  ·rw [if_pos c1]
   by_cases hs : twS t
   ·rw [if_pos hs]
    by_cases e1 : t.op.kind = 1
    ·rw [if_pos e1]; exact eff_bond t h x hT e1 hs
    ·rw [if_neg e1]
     by_cases e4 : t.op.kind = 4
     ·rw [if_pos e4]; exact eff_ask t h x hT e4 hs
     ·rw [if_neg e4]
      by_cases e5 : t.op.kind = 5
      ·rw [if_pos e5]; exact eff_take t h x hT e5 hs
      ·rw [if_neg e5]
       have e2 : t.op.kind = 2 := by omega
       by_cases he : (rdC t.op.data).2 = 0
       ·rw [if_neg (fun q => q he)]
        by_cases hi : (rdC t.op.data).1.id = t.op.channel
        ·rw [if_neg (fun q => q hi)]; exact eff_hold3 t h x hT e2 hs he hi
        ·rw [if_pos hi]; exact eff_hold2 t h x hT e2 hs he hi
       ·rw [if_pos he]; exact eff_hold1 t h x hT e2 hs he
   ·rw [if_neg hs]; exact eff_tower t h x hT c1 hs
  ·rw [if_neg c1]
   have c3 : t.op.kind = 3 ∨ t.op.kind = 6 ∨ t.op.kind = 7 := by omega
   by_cases hn0 : (lookM (t.op.tower, t.op.channel) x.holds).isSome = false
   ·rw [if_pos hn0]; exact eff_noHold t h x hT c3 hn0
   ·rw [if_neg hn0]
    have hn1 : (lookM (t.op.tower, t.op.channel) x.holds).isSome = true := by
     rcases Bool.eq_false_or_eq_true (lookM (t.op.tower, t.op.channel) x.holds).isSome with q | q
     ·exact q
     ·exact absurd q hn0
    by_cases hs : clS t x
    ·rw [if_pos hs]
     by_cases e3 : t.op.kind = 3
     ·rw [if_pos e3]; exact eff_free t h x hT e3 hn1 hs
     ·rw [if_neg e3]
      by_cases e6 : t.op.kind = 6
      ·rw [if_pos e6]; exact eff_prove t h x hT e6 hn1 hs _ _ (hpv t h x hT hB hD hn1)
      ·rw [if_neg e6]; exact eff_settle t h x hT (by omega) hn1 hs
    ·rw [if_neg hs]; exact eff_noClient t h x hT c3 hn1 hs
noncomputable def apF (pv : Prv) (t : Tx_) (h : Int) (x : LS) : Int × LS :=
 if txB t = false ∨ h < 0 ∨ 1073741824 < h then (1, x)
 else if (lookM (txS t) x.done).isSome = true then (8, x)
 else if (insF (keysF t t.signs) h x.coins 0 t.ins).2 ≠ 0 then ((insF (keysF t t.signs) h x.coins 0 t.ins).2, x)
 else if (effF pv t h x).e ≠ 0 then ((effF pv t h x).e, x)
 else if (addF 0 [(insF (keysF t t.signs) h x.coins 0 t.ins).1, (effF pv t h x).out]).2 ≠ 0 then ((addF 0 [(insF (keysF t t.signs) h x.coins 0 t.ins).1, (effF pv t h x).out]).2, x)
 else if (subF (addF 0 [(insF (keysF t t.signs) h x.coins 0 t.ins).1, (effF pv t h x).out]).1 ((effF pv t h x).into :: amts t.outs)).2 ≠ 0 then ((subF (addF 0 [(insF (keysF t t.signs) h x.coins 0 t.ins).1, (effF pv t h x).out]).1 ((effF pv t h x).into :: amts t.outs)).2, x)
 else (0, applyS t h (subF (addF 0 [(insF (keysF t t.signs) h x.coins 0 t.ins).1, (effF pv t h x).out]).1 ((effF pv t h x).into :: amts t.outs)).1 (effF pv t h x).ts (effF pv t h x).hs x)
attribute [local go_sem] nb_u8s u8s_length nb_sum List.length_replicate zero_sum sum_h nb_vals vals_len u8s_nil txA_good txA_csz txA_agg nb_tx tA_len tA_p1 tA_off1 nbK_ref nbK_sum nbK_int nbK_pair nbV_coin nbV_done nbV_spend nbV_tow nbV_hold kk_ref k1_ref kk_sum k1_sum o_some o_none Option.getD_some Option.getD_none Option.isSome_some Option.isSome_none sums_len nb_sums sum_csz sum_agg sumA_good doneA_good doneA_agg doneA_csz nb_done
theorem apTwice_spec (nx : Nat) (n : LN) (x : LS) (t : Tx_) (h : Int) (hn : n.ok nx) (ht : TxOk t) (hB : txB t = true) (h0 : 0 ≤ h) (h1 : h ≤ 1073741824) (d : Done_) (hd : lookM (txS t) x.done = some d) :
  FnSpec Tryz.prog 18 nx [.ref n.l 0 [], txA t, n64 h] (ledR n x) (n64 8) [] 0 := by
 have xf := hn.xf
 have yf := hn.nf
 have hlt := hn.lt
 have htb := fun nc => txR_spec nc t ht.l
 rw [hB] at htb
 have hsm := fun nc => txSum_spec nc t ht.b ht.k
 have c2 : ¬ h < 0 := by omega
 have c3 : ¬ 1073741824 < h := by omega
 refine FnSpec.of_code (cx := cx) (an := {}) (rs := [.tmp 6]) mo Tryz.func18 rfl rfl (by kernel_rfl) (by kernel_rfl) (by show 3 ≤ _; decide) (.inl rfl) (by simp [allWr, keys, Res.wr]) ?_
 repeat' (first | omega | assumption | (show AL.ahead _ _ _ = true; rfl) | (first | apply brF | apply brT | apply brVF | apply brVT) <;> intro _ | (with_reducible refine And.intro ?_ ?_) | (refine callK_by (lnone_spec _ n x (by omega)) ?_) | (refine callK_by (htb _) ?_) | (refine callK_by (hsm _) ?_) | (simp -dsimp -implicitDefEqProofs only [go_sem, xf, yf, ledA, hd, doneA, c2, c3, gt_iff_lt, lookA_enc sumA_inj]))
 all_goals first | rfl | omega
theorem apF_spec (pv : Prv) (hpv : PrvOk pv) (nx : Nat) (n : LN) (x : LS) (t : Tx_) (h : Int) (hn : n.ok nx) (hT : TxOk t) (hC : CoOk x.coins) (hD : DnOk x) (hord : x.order.length < 2 ^ 40) :
  ((apF pv t h x).1 = 0 → FnSpec Tryz.prog 18 nx [.ref n.l 0 [], txA t, n64 h] (ledI n x) (n64 0) (ledH (apN (nx + 408) n) (apF pv t h x).2) 3000) ∧
  ((apF pv t h x).1 ≠ 0 → (apF pv t h x).2 = x ∧ FnSpec Tryz.prog 18 nx [.ref n.l 0 [], txA t, n64 h] (ledR n x) (n64 (apF pv t h x).1) [] 0) := by
 by_cases c1 : txB t = false ∨ h < 0 ∨ 1073741824 < h
 ·have e : apF pv t h x = (1, x) := by unfold apF; rw [if_pos c1]
  rw [e]
  exact ⟨fun q => absurd (show (1 : Int) = 0 from q) (by decide), fun _ => ⟨rfl, apArg_spec nx n x t h hn hT c1⟩⟩
 ·have hB : txB t = true := by
   rcases Bool.eq_false_or_eq_true (txB t) with q | q
   ·exact q
   ·exact absurd (.inl q) c1
  have h0 : 0 ≤ h := by have : ¬ h < 0 := fun q => c1 (.inr (.inl q)); omega
  have h1 : h ≤ 1073741824 := by have : ¬ 1073741824 < h := fun q => c1 (.inr (.inr q)); omega
  by_cases c2 : (lookM (txS t) x.done).isSome = true
  ·have e : apF pv t h x = (8, x) := by unfold apF; rw [if_neg c1, if_pos c2]
   rw [e]
   obtain ⟨d, hd⟩ := Option.isSome_iff_exists.1 c2
   exact ⟨fun q => absurd (show (8 : Int) = 0 from q) (by decide), fun _ => ⟨rfl, apTwice_spec nx n x t h hn hT hB h0 h1 d hd⟩⟩
  ·have hd : lookM (txS t) x.done = none := by
    cases q : lookM (txS t) x.done with
    | none => rfl
    | some d => exact absurd (by rw [q]; rfl) c2
   have hE := eff_all pv hpv t h x hT hB hD
   generalize hI : insF (keysF t t.signs) h x.coins 0 t.ins = I at *
   generalize hF : effF pv t h x = F at *
   generalize hA : addF 0 [I.1, F.out] = A at *
   generalize hS : subF A.1 (F.into :: amts t.outs) = S at *
   have e : apF pv t h x = if I.2 ≠ 0 then (I.2, x) else if F.e ≠ 0 then (F.e, x) else if A.2 ≠ 0 then (A.2, x) else if S.2 ≠ 0 then (S.2, x) else (0, applyS t h S.1 F.ts F.hs x) := by
    unfold apF; rw [if_neg c1, if_neg c2, hI, hF, hA, hS]
   rw [e]
   by_cases c3 : I.2 = 0
   ·rw [if_neg (fun q => q c3)]
    have hI2 : insF (keysF t t.signs) h x.coins 0 t.ins = (I.1, 0) := by rw [hI, ← c3]
    by_cases c4 : F.e = 0
    ·rw [if_neg (fun q => q c4)]
     rw [c4] at hE
     by_cases c5 : A.2 = 0
     ·rw [if_neg (fun q => q c5)]
      by_cases c6 : S.2 = 0
      ·rw [if_neg (fun q => q c6)]
       exact ⟨fun _ => applyOk_spec nx n x t h hn hT hB h0 h1 hC hord hd I.1 hI2 F.into F.out F.ts F.hs hE A.1 (by rw [hA, ← c5]) S.1 (by rw [hS, ← c6]), fun q => absurd rfl q⟩
      ·rw [if_pos c6]
       have h2 := apAmt_spec nx n x t h hn hT hB h0 h1 hC hd I.1 hI2 F.into F.out F.ts F.hs hE (by rw [hA, hS]; exact .inr c6)
       rw [hA, hS, if_neg (fun q => q c5)] at h2
       exact ⟨fun q => absurd q c6, fun _ => ⟨rfl, h2⟩⟩
     ·rw [if_pos c5]
      have h2 := apAmt_spec nx n x t h hn hT hB h0 h1 hC hd I.1 hI2 F.into F.out F.ts F.hs hE (by rw [hA]; exact .inl c5)
      rw [hA, if_pos c5] at h2
      exact ⟨fun q => absurd q c5, fun _ => ⟨rfl, h2⟩⟩
    ·rw [if_pos c4]
     exact ⟨fun q => absurd q c4, fun _ => ⟨rfl, apEff_spec nx n x t h hn hT hB h0 h1 hC hd I.1 hI2 F.into F.out F.e F.ts F.hs hE c4⟩⟩
   ·rw [if_pos c3]
    have h2 := apIns_spec nx n x t h hn hT hB h0 h1 hC hd (by rw [hI]; exact c3)
    rw [hI] at h2
    exact ⟨fun q => absurd q c3, fun _ => ⟨rfl, h2⟩⟩
end Go.Proofs.YtaghcjbpjnpkbaaGreat

namespace Go.Proofs.YtaghcjbpjnpkbaaGreat
open Go Go.AL Go.Proofs.YtaghcjbpjnpkbaaGreat.T
theorem rdP_len {b : List UInt8} (h : (rdP b).2 = 0) : (rdP b).1.sig.length ≤ 65536 ∧ (rdP b).1.blob.length ≤ 65536 := by
 unfold rdP at h ⊢
 split at h
 ·exact absurd h (by decide)
 ·rename_i hl
  rw [if_neg hl]
  simp only at h ⊢
  split at h
  ·rename_i h1
   split at h
   ·rename_i h2
    rw [if_pos h1, if_pos h2]
    have f0 := textS_len ⟨b, 0⟩ 65536
    have f1 := textS_fst (textS ⟨b, 0⟩ 65536).2 65536 (by decide)
    have f2 := textS_len (textS ⟨b, 0⟩ 65536).2 65536
    have f3 := textS_fst (textS (textS ⟨b, 0⟩ 65536).2 65536).2 65536 (by decide)
    simp only at f0
    exact ⟨by simp only; omega, by simp only; omega⟩
   ·rename_i h2; exact absurd h h2
  ·rename_i h1; exact absurd h h1
noncomputable def prvF (un : Unc) : Prv := fun t h x =>
 if (rdP t.op.data).2 ≠ 0 then ((rdP t.op.data).2, x.holds)
 else match lookM (rdP t.op.data).1.commit x.done with
  | none => (13, x.holds)
  | some d =>
   if pcF un (rdP t.op.data).1 t.op.tower (hdT t x).chan (twO t.op.tower x.towers).root ⟨d.tx, d.height, (facT x (rdP t.op.data).1.commit).1, (facT x (rdP t.op.data).1.commit).2⟩ h ≠ 0
   then (pcF un (rdP t.op.data).1 t.op.tower (hdT t x).chan (twO t.op.tower x.towers).root ⟨d.tx, d.height, (facT x (rdP t.op.data).1.commit).1, (facT x (rdP t.op.data).1.commit).2⟩ h, x.holds)
   else proveF t.op.tower t.op.channel h (rdP t.op.data).1.commit x.holds
attribute [local go_sem] nb_u8s u8s_length nb_sum List.length_replicate zero_sum sum_h u8s_nil txA_good txA_csz txA_agg nb_tx tA_len nbK_int nbK_pair nbV_tow nbV_hold nb_tow nb_hold holdA_good holdA_agg holdA_csz sum_csz sum_agg sumA_good oA_p2 oA_off2 recA_good recA_agg recA_csz nb_rec1 facA_good facA_agg facA_csz nb_fac towA_good towA_agg towA_csz
theorem prv_spec (un : Unc) (hun : UncOk un) : PrvOk (prvF un) := by
 intro t h x hT hB hD hn0 nx n b tm hm hn hb ht hh hlt
 have xf := hn.xf
 have yf := hn.nf
 have x0 := ltF hb
 have x1 := ltF ht
 have x2 := ltF hh
 have z1 := neF (show tm ≠ hm by omega)
 have z2 := neF (show b ≠ hm by omega)
 have z3 := neF (show b ≠ tm by omega)
 have z4 := neF (show n.l ≠ b by omega)
 have z5 := neF (show n.l ≠ tm by omega)
 have z6 := neF (show n.l ≠ hm by omega)
 have z7 := neF (show n.d ≠ b by omega)
 have z8 := neF (show n.d ≠ tm by omega)
 have z9 := neF (show n.d ≠ hm by omega)
 have z10 := neF (show n.s ≠ b by omega)
 have z11 := neF (show n.s ≠ tm by omega)
 have z12 := neF (show n.s ≠ hm by omega)
 have hpg := fun nc => pget_spec nc t.op.data hT.l.2.1
 have hpl := rdP_len (b := t.op.data)
 obtain ⟨V, hV⟩ : ∃ V, V = prvF un t h x := ⟨_, rfl⟩
 rw [← hV]
 unfold prvF at hV
 obtain ⟨P, hP⟩ : ∃ P, P = rdP t.op.data := ⟨_, rfl⟩
 rw [← hP] at hpg hpl hV
 clear hP
 by_cases c1 : P.2 = 0
 ·rw [if_neg (fun q => q c1)] at hV
  have ep : optP P = proofA P.1 := by unfold optP; rw [if_pos c1]
  rw [ep, c1] at hpg
  obtain ⟨hl1, hl2⟩ := hpl c1
  have hho := fun nc (q1 : b < nc) (q2 : hm < nc) => bholds_spec nc b tm hm x.holds t.op.tower t.op.channel q1 q2 (by omega)
  have hgt := fun nc (q1 : b < nc) (q2 : tm < nc) => bget_spec nc b tm hm x.towers t.op.tower q1 q2 (by omega)
  simp only [optH_eq] at hho
  simp only [optT_eq] at hgt
  cases hd : lookM P.1.commit x.done with
  | none =>
   rw [hd] at hV
   have hfa := fun nc (q : nx ≤ nc) => lfacts_none nc n x P.1.commit (hn.up q) hd
   rw [hV]
   refine FnSpec.of_code (cx := cx) (an := {}) (rs := [.tmp 8]) mo Tryz.func107 rfl rfl (by kernel_rfl) (by kernel_rfl) (by show 4 ≤ _; decide) (.inl rfl) (by simp [allWr, keys, Res.wr]) ?_
   repeat' (first | omega | assumption | (show AL.ahead _ _ _ = true; rfl) | (first | apply brF | apply brT | apply brVF | apply brVT) <;> intro _ | (with_reducible refine And.intro ?_ ?_) | (refine callK_by (hpg _) ?_) | (refine callK_by (hho _ (by omega) (by omega)) ?_) | (refine callK_by (hgt _ (by omega) (by omega)) ?_) | (refine callK_by (hfa _ (by omega)) ?_) | (simp -dsimp -implicitDefEqProofs only [go_sem, xf, yf, x0, x1, x2, z1, z2, z3, z4, z5, z6, z7, z8, z9, z10, z11, z12, opT, proofA, holdA, chanA, refA, towA]))
   all_goals rfl
  | some d =>
   rw [hd] at hV
   simp only at hV
   have hdt : TxOk d.tx := hD _ (lookM_mem hd)
   have hfa := fun nc (q : nx ≤ nc) => lfacts_some nc n x P.1.commit (hn.up q) d hd
   have hpc := fun nc => pc_spec un hun nc P.1 t.op.tower (hdT t x).chan (twO t.op.tower x.towers).root ⟨d.tx, d.height, (facT x P.1.commit).1, (facT x P.1.commit).2⟩ h hl1 hl2 hdt
   generalize pcF un P.1 t.op.tower (hdT t x).chan (twO t.op.tower x.towers).root ⟨d.tx, d.height, (facT x P.1.commit).1, (facT x P.1.commit).2⟩ h = C at *
   by_cases c2 : C = 0
   ·rw [if_neg (fun q => q c2)] at hV
    rw [c2] at hpc
    have hbp := fun nc (q : nx ≤ nc) => bprove_spec nc b tm hm x.towers x.holds (by omega) (by omega) (by omega) hlt.2.2.2.1 hlt.2.2.2.2 t.op.tower t.op.channel h P.1.commit
    rw [hV]
    refine FnSpec.of_code (cx := cx) (an := {}) (rs := [.tmp 8]) mo Tryz.func107 rfl rfl (by kernel_rfl) (by kernel_rfl) (by show 4 ≤ _; decide) (.inl rfl) (by simp [allWr, keys, Res.wr]) ?_
    repeat' (first | omega | assumption | (show AL.ahead _ _ _ = true; rfl) | (first | apply brF | apply brT | apply brVF | apply brVT) <;> intro _ | (with_reducible refine And.intro ?_ ?_) | (refine callK_by (hpg _) ?_) | (refine callK_by (hho _ (by omega) (by omega)) ?_) | (refine callK_by (hgt _ (by omega) (by omega)) ?_) | (refine callK_by (hfa _ (by omega)) ?_) | (refine callK_by (hpc _) ?_) | (refine callK_by (hbp _ (by omega)) ?_) | (simp -dsimp -implicitDefEqProofs only [go_sem, xf, yf, x0, x1, x2, z1, z2, z3, z4, z5, z6, z7, z8, z9, z10, z11, z12, opT, proofA, holdA, chanA, refA, towA, facA]))
    all_goals rfl
   ·rw [if_pos c2] at hV
    rw [hV]
    refine FnSpec.of_code (cx := cx) (an := {}) (rs := [.tmp 8]) mo Tryz.func107 rfl rfl (by kernel_rfl) (by kernel_rfl) (by show 4 ≤ _; decide) (.inl rfl) (by simp [allWr, keys, Res.wr]) ?_
    repeat' (first | omega | assumption | (show AL.ahead _ _ _ = true; rfl) | (first | apply brF | apply brT | apply brVF | apply brVT) <;> intro _ | (with_reducible refine And.intro ?_ ?_) | (refine callK_by (hpg _) ?_) | (refine callK_by (hho _ (by omega) (by omega)) ?_) | (refine callK_by (hgt _ (by omega) (by omega)) ?_) | (refine callK_by (hfa _ (by omega)) ?_) | (refine callK_by (hpc _) ?_) | (simp -dsimp -implicitDefEqProofs only [go_sem, xf, yf, x0, x1, x2, z1, z2, z3, z4, z5, z6, z7, z8, z9, z10, z11, z12, opT, proofA, holdA, chanA, refA, towA, facA, c2]))
    all_goals rfl
 ·rw [if_pos c1] at hV
  have ep : optP P = proofZA := by unfold optP; rw [if_neg c1]
  rw [ep] at hpg
  rw [hV]
  refine FnSpec.of_code (cx := cx) (an := {}) (rs := [.tmp 8]) mo Tryz.func107 rfl rfl (by kernel_rfl) (by kernel_rfl) (by show 4 ≤ _; decide) (.inl rfl) (by simp [allWr, keys, Res.wr]) ?_
  repeat' (first | omega | assumption | (show AL.ahead _ _ _ = true; rfl) | (first | apply brF | apply brT | apply brVF | apply brVT) <;> intro _ | (with_reducible refine And.intro ?_ ?_) | (refine callK_by (hpg _) ?_) | (simp -dsimp -implicitDefEqProofs only [go_sem, xf, yf, x0, x1, x2, z1, z2, z3, z4, z5, z6, z7, z8, z9, z10, z11, z12, opT, proofZA, c1]))
  all_goals rfl
end Go.Proofs.YtaghcjbpjnpkbaaGreat

namespace Go.Proofs.YtaghcjbpjnpkbaaGreat
open Go Go.AL Go.Proofs.YtaghcjbpjnpkbaaGreat.T
def txsA (l : List Tx_) : List AV := l.map txA
theorem txs_len (l : List Tx_) : (txsA l).length = l.length := by simp [txsA]
theorem txs_get {l : List Tx_} {i : Nat} (h : i < l.length) : (txsA l).getD i .undef = txA l[i] := by simp [txsA, List.getD_eq_getElem?_getD, List.getElem?_map, List.getElem?_eq_getElem h]
theorem nb_txs {m : Nat} (l : List Tx_) : AV.nbs m (txsA l) = True := by
 simp only [eq_iff_iff, iff_true]
 exact nbs_map (fun r => by rw [nb_tx]; trivial) l
def smallT (t : Tx_) : Prop := t.ins.length ≤ 20 ∧ t.outs.length ≤ 20 ∧ t.signs.length ≤ 20 ∧ t.op.data.length ≤ 6000 ∧ (∀ y ∈ t.ins, y.pre.length ≤ 100) ∧ ∀ o ∈ t.outs, o.ways.length ≤ 20 ∧ ∀ w ∈ o.ways, w.keys.length ≤ 20
theorem smallT_ok {t : Tx_} (h : smallT t) : TxOk t := by
 obtain ⟨h1, h2, h3, h4, h5, h6⟩ := h
 have f2 := numI_len
 refine ⟨⟨fun x hx => ?_, by omega, by omega, by omega, by omega, fun o ho => ?_⟩, ?_, fun o ho w hw => ?_, fun y hy => ?_⟩
 ·have := h5 x hx; omega
 ·obtain ⟨q1, q2⟩ := h6 o ho
  exact ⟨by omega, fun w hw => by have := q2 w hw; omega⟩
 ·have b1 := flat_bd (inL true) 200 t.ins (fun x hx => by
   have h1 := h5 x hx
   have h2 := flat_numI [x.ref.at_, x.way]
   have h3 := f2 x.pre.length
   have h4 := x.ref.tx.h
   simp only [List.length_cons, List.length_nil] at h2
   simp only [inL, if_true, List.length_append, h4]; omega)
  have b2 := flat_bd outL 10000 t.outs (fun x hx => by
   obtain ⟨h1, h5⟩ := h6 x hx
   have h2 := flat_numI [x.amount, (x.ways.length : Int)]
   have h3 := flat_bd wayL 300 x.ways (fun w hw => by
    have g1 := h5 w hw
    have g2 := flat_numI w.keys
    have g3 := flat_numI [w.after, w.wait]
    have g4 := f2 w.keys.length
    have g5 := w.hash.h
    simp only [List.length_cons, List.length_nil] at g3
    simp only [wayL, List.length_append, g5]; omega)
   simp only [List.length_cons, List.length_nil] at h2
   simp only [outL, List.length_append]; omega)
  have b3 := flat_numI [t.op.kind, t.op.tower, t.op.channel, t.op.amount]
  have b4 := f2 t.op.data.length
  have b5 := t.op.root.h
  have b6 := f2 t.ins.length
  have b7 := f2 t.outs.length
  simp only [List.length_cons, List.length_nil] at b3
  simp only [bodyL, opL, List.length_append, b5]; omega
 ·have := (h6 o ho).2 w hw; omega
 ·have := h5 y hy; omega
theorem apF_or (pv : Prv) (t : Tx_) (h : Int) (x : LS) : (apF pv t h x).2 = x ∨ ∃ fee ts hs, (apF pv t h x).2 = applyS t h fee ts hs x := by
 unfold apF
 split
 ·exact .inl rfl
 ·split
  ·exact .inl rfl
  ·split
   ·exact .inl rfl
   ·split
    ·exact .inl rfl
    ·split
     ·exact .inl rfl
     ·split
      ·exact .inl rfl
      ·exact .inr ⟨_, _, _, rfl⟩
structure LsOk (x : LS) (i : Nat) : Prop where
 c : CoOk x.coins
 d : DnOk x
 o : x.order.length ≤ i
theorem dn_set {id : Sum} {t : Tx_} {h : Int} {l : List (Sum × Done_)} (hl : ∀ p ∈ l, TxOk p.2.tx) (ht : TxOk t) : ∀ p ∈ setM id ⟨t, h⟩ l, TxOk p.2.tx := by
 intro p hp
 rcases setM_mem hp with q | q
 ·rw [q]; exact ht
 ·exact hl p q
theorem apF_ok (pv : Prv) {t : Tx_} {h : Int} {x : LS} {i : Nat} (hx : LsOk x i) (ht : TxOk t) : LsOk (apF pv t h x).2 (i + 1) := by
 rcases apF_or pv t h x with q | ⟨fee, ts, hs, q⟩
 ·rw [q]; exact ⟨hx.c, hx.d, by have := hx.o; omega⟩
 ·rw [q]
  refine ⟨applyS_ok hx.c ht, fun p hp => dn_set hx.d ht p hp, ?_⟩
  rw [applyS_order]
  have := hx.o
  simp only [List.length_append, List.length_cons, List.length_nil]; omega
theorem newS_ok {os : List Out_} (h : smallT (txO os)) : LsOk (newS os) 1 := by
 have ht := smallT_ok h
 refine ⟨putAll_ok _ _ _ _ _ (fun p hp => by cases hp) (fun o ho => ⟨(ht.l.2.2.2.2.2 o ho).1, ht.k o ho⟩), fun p hp => dn_set (l := []) (fun p hp => by cases hp) ht p hp, ?_⟩
 show ([] ++ [txS (txO os)]).length ≤ 1
 simp
theorem DnOk.of {x : LS} (h : DnOk x) {id : Sum} {d : Done_} (hd : lookM id x.done = some d) : TxOk d.tx :=
 h (id, d) (lookM_mem hd)
end Go.Proofs.YtaghcjbpjnpkbaaGreat

namespace Go.Proofs.YtaghcjbpjnpkbaaGreat
open Go Go.AL Go.Proofs.YtaghcjbpjnpkbaaGreat.T
noncomputable def doneT (x : LS) (id : Sum) : Tx_ := match lookM id x.done with | some d => d.tx | none => ⟨[], [], op0, []⟩
theorem txZ_le : AV.le txZA (txA ⟨[], [], op0, []⟩) :=
 ⟨_, rfl, _, _, rfl, ⟨_, _, rfl, AV.les_refl _, .inr (.inl rfl)⟩, _, _, rfl, ⟨_, _, rfl, AV.les_refl _, .inr (.inl rfl)⟩, _, _, rfl, ⟨_, rfl, _, _, rfl, AV.le_refl _, _, _, rfl, AV.le_refl _, _, _, rfl, AV.le_refl _, _, _, rfl, AV.le_refl _, _, _, rfl, AV.le_refl _, _, _, rfl, ⟨_, _, rfl, AV.les_refl _, .inr (.inl rfl)⟩, rfl⟩, _, _, rfl, ⟨_, _, rfl, AV.les_refl _, .inr (.inl rfl)⟩, rfl⟩
attribute [local go_sem] nb_u8s u8s_length nb_sum List.length_replicate zero_sum sum_h u8s_nil sum_csz sum_agg sumA_good states_len nb_states Option.isSome_some Option.isSome_none
section
variable (nx N : Nat) (b : Bk) (hN : N + 16 < nx)
include hN
theorem bchan_spec : FnSpec Tryz.prog 7 nx [.ref (N + 16) 0 []] [(N + 16, some (.robj (bookA b N)))] (.tup [chanA b.chan, bA b.opened]) [] 0 := by
 have hx := bkN hN
 have hno := fun nc (h : nx ≤ nc) => bnone_spec nc N b (by omega)
 simp only [bookA, chanA, refA] at hno
 refine FnSpec.of_code (cx := cx) (an := {}) (rs := [.cell 2 47, .tmp 3]) mo Tryz.func7 rfl rfl (by kernel_rfl) (by kernel_rfl) (by show 1 ≤ _; decide) (.inr ⟨_, rfl, by simp [AV.good, chanA]⟩) (by simp [allWr, keys, Res.wr]) ?_
 repeat' (first | omega | assumption | (show AL.ahead _ _ _ = true; rfl) | (first | apply brF | apply brT | apply brVF | apply brVT) <;> intro _ | (with_reducible refine And.intro ?_ ?_) | (refine callK_by (hno _ (by omega)) ?_) | (simp -dsimp -implicitDefEqProofs only [go_sem, bookA, chanA, refA, hx]))
 all_goals rfl
variable (hL : bkL b) (n : LN) (x : LS) (hn : n.ok nx) (hD : DnOk x) (h1 : N + 16 ≠ n.l) (h2 : N + 16 ≠ n.d) (h3 : N + 16 ≠ n.s)
include hL hn hD h1 h2 h3
end
end Go.Proofs.YtaghcjbpjnpkbaaGreat

namespace Go.Proofs.YtaghcjbpjnpkbaaGreat
open Go Go.AL Go.Proofs.YtaghcjbpjnpkbaaGreat.T
theorem doneV_jb (nx : Nat) (c : Chan) (x : LS) (d : Done_) (id : Sum) (pre : Sum) (fee : Int) (hD : DnOk x) (hd : lookM id x.done = some d) :
  FnSpec Tryz.prog 11 nx [chanA c, txA d.tx, sumA pre, n64 (-1), .agg 2 [n64 0, n64 fee]] [] (.tup [jbA c d.tx pre fee, n64 (jbE c d.tx pre fee)]) [] 0 :=
 jb_spec nx c d.tx pre fee (hD.of hd)
def tkS (b : Bk) (i : Int) : Sum := b.taken.getD i.toNat zeroS
def cjP (x : LS) (b : Bk) (s : Sts) : Prop := (lookM s.commit x.done).isSome = true ∧ cheatP s b
section
open Classical
noncomputable def cjE (x : LS) (b : Bk) (s : Sts) (fee : Int) : Int := if cjP x b s then jbE b.chan (doneT x s.commit) (tkS b s.state) fee else 9
noncomputable def cjA (x : LS) (b : Bk) (s : Sts) (fee : Int) : AV := if cjP x b s then jbA b.chan (doneT x s.commit) (tkS b s.state) fee else txZA
end
theorem cjE_y {x : LS} {b : Bk} {s : Sts} {fee : Int} (h : cjP x b s) : cjE x b s fee = jbE b.chan (doneT x s.commit) (tkS b s.state) fee := if_pos h
theorem cjE_n {x : LS} {b : Bk} {s : Sts} {fee : Int} (h : ¬ cjP x b s) : cjE x b s fee = 9 := if_neg h
theorem cjA_y {x : LS} {b : Bk} {s : Sts} {fee : Int} (h : cjP x b s) : cjA x b s fee = jbA b.chan (doneT x s.commit) (tkS b s.state) fee := if_pos h
theorem cjA_n {x : LS} {b : Bk} {s : Sts} {fee : Int} (h : ¬ cjP x b s) : cjA x b s fee = txZA := if_neg h
theorem jbA_g (c : Chan) (t : Tx_) (pre : Sum) (fee : Int) : (jbA c t pre fee).good = true ∧ (jbA c t pre fee).isAgg = true ∧ (jbA c t pre fee).csize = 40 ∧ ∀ m, AV.nb m (jbA c t pre fee) := by
 unfold jbA; split
 ·exact ⟨rfl, rfl, rfl, fun m => by simp only [nb_tx]⟩
 ·exact ⟨rfl, rfl, rfl, fun m => by simp [txZA, AV.nb, AV.nbs, nb_sum]⟩
theorem tkS_get {b : Bk} {i : Int} (h0 : 0 ≤ i) (h1 : i < b.taken.length) : (sumsA b.taken).getD i.toNat .undef = sumA (tkS b i) := by
 have h : i.toNat < b.taken.length := by omega
 rw [sums_get h]; simp [tkS, List.getD_eq_getElem?_getD, List.getElem?_eq_getElem h]
attribute [local go_sem] nb_u8s u8s_length nb_sum List.length_replicate zero_sum sum_h u8s_nil sum_csz sum_agg sumA_good sums_len nb_sums Option.isSome_some Option.isSome_none txA_good txA_csz txA_agg nb_tx
section
variable (nx N : Nat) (b : Bk) (hN : N + 16 < nx) (ht : b.taken.length ≤ 1000) (n : LN) (x : LS) (hn : n.ok nx) (hD : DnOk x) (h1 : N + 16 ≠ n.l) (h2 : N + 16 ≠ n.d) (s : Sts) (fee : Int)
include hN ht hn hD h1 h2
theorem cj_spec : FnSpec Tryz.prog 6 nx [.ref n.l 0 [], .ref (N + 16) 0 [], stsA s, n64 fee] [(N + 16, some (.robj (bookA b N))), (n.l, some (.robj (ledA n x))), (n.d, some (.rmp (donesE x.done)))] (.tup [cjA x b s fee, n64 (cjE x b s fee)]) [] 0 := by
 have hx := bkN hN
 have xf := hn.xf
 have yf := hn.nf
 have z1 := neF h1
 have z2 := neF h2
 have hch := fun nc (h : nx ≤ nc) => bchan_spec nc N b (by omega)
 have hdn := fun nc (h : nx ≤ nc) => ldone_spec nc n x s.commit (hn.up h)
 have htk := fun nc (h : nx ≤ nc) => taken_spec nc N b (by omega) ht
 have hct := fun nc (h : nx ≤ nc) => cheat_spec nc N s b (by omega) ht
 simp only [chanA, refA, stsA] at hch hct
 cases hd : lookM s.commit x.done with
 | none =>
  have hP : ¬ cjP x b s := fun q => by have := q.1; rw [hd] at this; exact absurd this (by decide)
  rw [cjE_n hP, cjA_n hP]
  rw [hd] at hdn
  simp only [optD] at hdn
  refine FnSpec.of_code (cx := cx) (an := {}) (rs := [.cell 8 40, .tmp 9]) mo Tryz.func6 rfl rfl (by kernel_rfl) (by kernel_rfl) (by show 4 ≤ _; decide) (.inr ⟨_, rfl, by simp [AV.good, txZA]⟩) (by simp [allWr, keys, Res.wr]) ?_
  repeat' (first | omega | assumption | (show AL.ahead _ _ _ = true; rfl) | (first | apply brF | apply brT | apply brVF | apply brVT) <;> intro _ | (with_reducible refine And.intro ?_ ?_) | (refine callK_by (hch _ (by omega)) ?_) | (refine callK_by (hdn _ (by omega)) ?_) | (refine callK_by (htk _ (by omega)) ?_) | (simp -dsimp -implicitDefEqProofs only [go_sem, stsA, txZA, chanA, refA, xf, yf, z1, z2, hx]))
  all_goals rfl
 | some d =>
  rw [hd] at hdn
  simp only [optD, doneA] at hdn
  by_cases hC : cheatP s b
  ·have hP : cjP x b s := ⟨by rw [hd]; rfl, hC⟩
   rw [cjE_y hP, cjA_y hP]
   have e : doneT x s.commit = d.tx := by unfold doneT; rw [hd]
   rw [e]
   simp only [decide_eq_true hC] at hct
   have hjb := fun nc => doneV_jb nc b.chan x d s.commit (tkS b s.state) fee hD hd
   simp only [chanA, refA] at hjb
   obtain ⟨c1, c2, c3, c4⟩ := id hC
   have q1 := tkS_get c3 c4
   obtain ⟨g1, g2, g3, g4⟩ := jbA_g b.chan d.tx (tkS b s.state) fee
   have c5 : ¬ (b.taken.length : Int) ≤ s.state := by omega
   generalize jbA b.chan d.tx (tkS b s.state) fee = J at *
   generalize jbE b.chan d.tx (tkS b s.state) fee = E at *
   refine FnSpec.of_code (cx := cx) (an := {}) (rs := [.cell 8 40, .tmp 9]) mo Tryz.func6 rfl rfl (by kernel_rfl) (by kernel_rfl) (by show 4 ≤ _; decide) (.inr ⟨_, rfl, by simp [AV.good]; exact .inr g1⟩) (by simp [allWr, keys, Res.wr]) ?_
   repeat' (first | omega | assumption | (show AL.ahead _ _ _ = true; rfl) | (first | apply brF | apply brT | apply brVF | apply brVT) <;> intro _ | (with_reducible refine And.intro ?_ ?_) | (refine callK_by (hch _ (by omega)) ?_) | (refine callK_by (hdn _ (by omega)) ?_) | (refine callK_by (htk _ (by omega)) ?_) | (refine callK_by (hct _ (by omega)) ?_) | (refine callK_by (hjb _) ?_) | (simp -dsimp -implicitDefEqProofs only [go_sem, stsA, chanA, refA, c3, c4, c5, q1, g1, g2, g3, g4, ge_iff_le, xf, yf, z1, z2, hx]))
   all_goals first | rfl | omega
  ·have hP : ¬ cjP x b s := fun q => hC q.2
   rw [cjE_n hP, cjA_n hP]
   simp only [decide_eq_false hC] at hct
   refine FnSpec.of_code (cx := cx) (an := {}) (rs := [.cell 8 40, .tmp 9]) mo Tryz.func6 rfl rfl (by kernel_rfl) (by kernel_rfl) (by show 4 ≤ _; decide) (.inr ⟨_, rfl, by simp [AV.good, txZA]⟩) (by simp [allWr, keys, Res.wr]) ?_
   repeat' (first | omega | assumption | (show AL.ahead _ _ _ = true; rfl) | (first | apply brF | apply brT | apply brVF | apply brVT) <;> intro _ | (with_reducible refine And.intro ?_ ?_) | (refine callK_by (hch _ (by omega)) ?_) | (refine callK_by (hdn _ (by omega)) ?_) | (refine callK_by (htk _ (by omega)) ?_) | (refine callK_by (hct _ (by omega)) ?_) | (simp -dsimp -implicitDefEqProofs only [go_sem, stsA, txZA, chanA, refA, xf, yf, z1, z2, hx]))
   all_goals rfl
end
end Go.Proofs.YtaghcjbpjnpkbaaGreat

namespace Go.Proofs.YtaghcjbpjnpkbaaGreat
open Go Go.AL Go.Proofs.YtaghcjbpjnpkbaaGreat.T
attribute [local go_sem] nb_u8s u8s_length nb_sum List.length_replicate zero_sum sum_h u8s_nil sum_csz sum_agg sumA_good outs_len nb_outs nb_out1 outA_good outA_agg outA_csz txA_good txA_csz txA_agg nb_tx sums_len nb_sums nbK_ref nbK_int nbK_pair nbK_sum nbV_coin nbV_tow nbV_hold nbV_done nbV_spend
theorem newNo_spec (nx tok : Nat) (os : List Out_) (hE : newE 0 os ≠ 0) (hl : os.length ≤ 16) (hL : ∀ o ∈ os, o.ways.length < 2 ^ 40 ∧ ∀ w ∈ o.ways, w.keys.length < 2 ^ 32) (ht : tok < 2 ∨ tok - 2 < nx) :
  FnSpec Tryz.prog 17 nx [.sl 2 (outsA os) tok] [] (.tup [nilP, sumA zeroS, n64 (newE 0 os)]) [] 0 := by
 obtain ⟨E, hR⟩ : ∃ E, E = newE 0 os := ⟨_, rfl⟩
 rw [← hR] at hE ⊢
 refine FnSpec.of_code (cx := cx) (an := {tk := [(45, [([4], 32)])], mt := [46]}) (rs := [.tmp 2, .cell 3 26, .tmp 4]) mo Tryz.func17 rfl rfl (by kernel_rfl) (by kernel_rfl) (by show 1 ≤ _; decide) (.inr ⟨_, rfl, by simp [AV.good, sumA]⟩) (by simp [allWr, keys, Res.wr]) ?_
 repeat' (first | omega | assumption | (show AL.ahead _ _ _ = true; rfl) | (first | apply brF | apply brT | apply brVF | apply brVT) <;> intro _ | (with_reducible refine And.intro ?_ ?_) | (simp -dsimp -implicitDefEqProofs only [go_sem]))
 apply loop_keep [0, 3, 13, 14] (fun p : { p : Nat × Int // p.1 ≤ os.length ∧ E = newE p.2 (os.drop p.1) } => [(5, n64 p.1.2), (15, n64 p.1.1)]) (fun p => [(nx + 8, some (.obj (sumA zeroS)))]) (fun p => os.length - p.1.1) ⟨(0, 0), Nat.zero_le _, hR⟩
 ·simp -dsimp -implicitDefEqProofs only [go_sem]; try rfl
 ·simp -dsimp -implicitDefEqProofs only [go_sem]; try rfl
 ·simp -dsimp -implicitDefEqProofs only [go_sem]; try rfl
 ·intro s
  simp -dsimp -implicitDefEqProofs only [go_sem]
  try omega
 ·rintro ⟨⟨i, s⟩, hi, hall⟩
  have hi : i ≤ os.length := hi
  simp only at hall
  simp -dsimp -implicitDefEqProofs only [go_sem]
  refine brT (fun hc => ?_) (fun hc => ?_)
  ·have hi2 : i < os.length := by omega
   have q1 := outs_get hi2
   have hd := List.drop_eq_getElem_cons hi2
   rw [hd] at hall
   obtain ⟨l1, l2⟩ := hL _ (List.getElem_mem hi2)
   generalize os[i] = y at *
   have w1 : IntKind.i64.wrap ((i : Int) + 1) = ((i + 1 : Nat) : Int) := wrapE (by omega) (by omega)
   have hob := fun nc => outR_spec nc y l1 (fun w hw => Nat.lt_trans (l2 w hw) (by decide))
   have had := fun nc => add_spec nc [s, y.amount] (by simp)
   simp only [vals, List.map_cons, List.map_nil] at had
   simp only [newE] at hall
   rcases Bool.eq_false_or_eq_true (outB y) with e1 | e1
   ·rw [if_neg (by rw [e1]; decide)] at hall
    rw [e1] at hob
    by_cases e2 : (addF 0 [s, y.amount]).2 = 0
    ·rw [if_neg (fun q => q e2)] at hall
     rw [e2] at had
     repeat' (first | omega | assumption | (show AL.ahead _ _ _ = true; rfl) | (first | apply brF | apply brT | apply brVF | apply brVT) <;> intro _ | (with_reducible refine And.intro ?_ ?_) | (refine callK_by (hob _) ?_) | (refine callK_by (had _) ?_) | (simp -dsimp -implicitDefEqProofs only [go_sem, q1, w1, outA]))
     all_goals first
      | exact ⟨⟨(i + 1, (addF 0 [s, y.amount]).1), hi2, hall⟩, by show os.length - (i + 1) < os.length - i; omega, rfl, rfl⟩
      
    ·rw [if_pos e2] at hall
     generalize addF 0 [s, y.amount] = A at *
     repeat' (first | omega | assumption | (show AL.ahead _ _ _ = true; rfl) | (first | apply brF | apply brT | apply brVF | apply brVT) <;> intro _ | (with_reducible refine And.intro ?_ ?_) | (refine callK_by (hob _) ?_) | (refine callK_by (had _) ?_) | (simp -dsimp -implicitDefEqProofs only [go_sem, q1, w1, outA, e2]))
     all_goals first | rfl | (subst hall; rfl)
   ·rw [if_pos e1] at hall
    rw [e1] at hob
    subst hall
    repeat' (first | omega | assumption | (show AL.ahead _ _ _ = true; rfl) | (first | apply brF | apply brT | apply brVF | apply brVT) <;> intro _ | (with_reducible refine And.intro ?_ ?_) | (refine callK_by (hob _) ?_) | (simp -dsimp -implicitDefEqProofs only [go_sem, q1, w1, outA]))
    all_goals rfl
  ·have e : i = os.length := by omega
   rw [e, List.drop_length] at hall
   exact absurd hall hE
end Go.Proofs.YtaghcjbpjnpkbaaGreat

namespace Go.Proofs.YtaghcjbpjnpkbaaGreat
open Go Go.AL Go.Proofs.YtaghcjbpjnpkbaaGreat.T
def t0 : Tx_ := ⟨[], [], op0, []⟩
noncomputable def stepL (t : Tx_) (h : Int) (x : LS) : Int × LS := apF (prvF unF) t h x
noncomputable def runL (hf : Nat → Int) (x0 : LS) (l : List Tx_) : Nat → LS
 | 0 => x0
 | i + 1 => (stepL (l.getD i t0) (hf i) (runL hf x0 l i)).2
noncomputable def nmL (hf : Nat → Int) (M : Nat → Nat) (n0 : LN) (x0 : LS) (l : List Tx_) : Nat → LN
 | 0 => n0
 | i + 1 => if (stepL (l.getD i t0) (hf i) (runL hf x0 l i)).1 = 0 then apN (M i) (nmL hf M n0 x0 l i) else nmL hf M n0 x0 l i
theorem getD_get {l : List Tx_} {i : Nat} (h : i < l.length) : l.getD i t0 = l[i] := by simp [List.getD_eq_getElem?_getD, List.getElem?_eq_getElem h]
theorem runL_succ (hf : Nat → Int) (x0 : LS) {l : List Tx_} {i : Nat} (h : i < l.length) : runL hf x0 l (i + 1) = (stepL l[i] (hf i) (runL hf x0 l i)).2 := by
 rw [← getD_get h]; rfl
theorem nmL_yes {hf : Nat → Int} {M : Nat → Nat} {n0 : LN} {x0 : LS} {l : List Tx_} {i : Nat} (h : i < l.length) (h0 : (stepL l[i] (hf i) (runL hf x0 l i)).1 = 0) : nmL hf M n0 x0 l (i + 1) = apN (M i) (nmL hf M n0 x0 l i) := by
 rw [← getD_get h] at h0
 show (if _ then _ else _) = _
 rw [if_pos h0]
theorem nmL_no {hf : Nat → Int} {M : Nat → Nat} {n0 : LN} {x0 : LS} {l : List Tx_} {i : Nat} (h : i < l.length) (h0 : (stepL l[i] (hf i) (runL hf x0 l i)).1 ≠ 0) : nmL hf M n0 x0 l (i + 1) = nmL hf M n0 x0 l i := by
 rw [← getD_get h] at h0
 show (if _ then _ else _) = _
 rw [if_neg h0]
theorem runL_ok {hf : Nat → Int} {x0 : LS} {l : List Tx_} {j : Nat} (h0 : LsOk x0 j) : ∀ i, i ≤ l.length → (∀ k (h : k < i) (h2 : k < l.length), TxOk l[k]) → LsOk (runL hf x0 l i) (j + i)
 | 0, _, _ => h0
 | i + 1, hi, h => by
  have h1 := runL_ok (hf := hf) h0 i (by omega) (fun k q q2 => h k (by omega) q2)
  have hi2 : i < l.length := hi
  rw [runL_succ hf x0 hi2]
  exact apF_ok _ h1 (h i (by omega) hi2)
theorem nmL_ok {hf : Nat → Int} {M N : Nat → Nat} {n0 : LN} {x0 : LS} {l : List Tx_} (h0 : n0.ok (N 0)) (hN : ∀ i, N i ≤ M i ∧ M i + 192 < N (i + 1)) : ∀ i, (nmL hf M n0 x0 l i).ok (N i)
 | 0 => h0
 | i + 1 => by
  have h1 := nmL_ok (hf := hf) (x0 := x0) (l := l) h0 hN i
  obtain ⟨a, b⟩ := hN i
  unfold nmL
  split
  ·exact apN_ok h1 a b
  ·exact h1.up (by omega)
theorem nmL_same (hf : Nat → Int) (M : Nat → Nat) (n0 : LN) (x0 : LS) (l : List Tx_) : ∀ i, (nmL hf M n0 x0 l i).l = n0.l ∧ (nmL hf M n0 x0 l i).v = n0.v ∧ (nmL hf M n0 x0 l i).vm = n0.vm ∧ (nmL hf M n0 x0 l i).d = n0.d ∧ (nmL hf M n0 x0 l i).s = n0.s ∧ (nmL hf M n0 x0 l i).o = n0.o
 | 0 => ⟨rfl, rfl, rfl, rfl, rfl, rfl⟩
 | i + 1 => by
  have h1 := nmL_same hf M n0 x0 l i
  unfold nmL
  split
  ·exact h1
  ·exact h1
theorem nmL_ge {B : Nat} {hf : Nat → Int} {M : Nat → Nat} {n0 : LN} {x0 : LS} {l : List Tx_} (h0 : B ≤ n0.b ∧ B ≤ n0.tm ∧ B ≤ n0.hm) (hM : ∀ i, B ≤ M i) : ∀ i, B ≤ (nmL hf M n0 x0 l i).b ∧ B ≤ (nmL hf M n0 x0 l i).tm ∧ B ≤ (nmL hf M n0 x0 l i).hm
 | 0 => h0
 | i + 1 => by
  have h1 := nmL_ge (hf := hf) (x0 := x0) (l := l) h0 hM i
  have h2 := hM i
  unfold nmL
  split
  ·exact ⟨by simp only [apN]; omega, by simp only [apN]; omega, by simp only [apN]; omega⟩
  ·exact h1
theorem step_spec (nx : Nat) (n : LN) (x : LS) (t : Tx_) (h : Int) (j : Nat) (hn : n.ok nx) (hT : TxOk t) (hx : LsOk x j) (hj : j < 2 ^ 40) :
  ((stepL t h x).1 = 0 → FnSpec Tryz.prog 18 nx [.ref n.l 0 [], txA t, n64 h] (ledI n x) (n64 0) (ledH (apN (nx + 408) n) (stepL t h x).2) 3000) ∧
  ((stepL t h x).1 ≠ 0 → (stepL t h x).2 = x ∧ FnSpec Tryz.prog 18 nx [.ref n.l 0 [], txA t, n64 h] (ledR n x) (n64 (stepL t h x).1) [] 0) :=
 apF_spec (prvF unF) (prv_spec unF unF_ok) nx n x t h hn hT hx.c hx.d (Nat.lt_of_le_of_lt hx.o hj)
end Go.Proofs.YtaghcjbpjnpkbaaGreat

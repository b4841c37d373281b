/-
 Ledgers: how much all ins are.
-/
import Derived.Test.YtaghcjbpjnpkbaaGreatEP70
import Derived.Test.YtaghcjbpjnpkbaaGreatEP20
set_option linter.unusedSimpArgs false
set_option linter.unusedVariables false
set_option maxRecDepth 100000
set_option maxHeartbeats 8000000
namespace Go.Proofs.YtaghcjbpjnpkbaaGreat
open Go Go.AL Go.Proofs.YtaghcjbpjnpkbaaGreat.T
def wayZ : Way_ := ⟨[], zeroS, 0, 0⟩
noncomputable def insF (ks : List Int) (h : Int) (cs : List (Ref_ × Coin_)) : Int → List In_ → Int × Int
 | s, [] => (s, 0)
 | s, x :: r => match lookM x.ref cs with
  | none => (0, 13)
  | some c => if (c.out.ways.length : Int) ≤ x.way ∨ opensB (c.out.ways.getD x.way.toNat wayZ) ks x.pre h (w64 (h - c.height)) = false then (0, 12)
    else if (addF 0 [s, c.out.amount]).2 = 0 then insF ks h cs (addF 0 [s, c.out.amount]).1 r else (0, (addF 0 [s, c.out.amount]).2)
theorem wayA_good (w : Way_) : (wayA w).good = true := rfl
theorem wayA_agg (w : Way_) : (wayA w).isAgg = true := rfl
theorem wayA_csz (w : Way_) : (wayA w).csize = 35 := rfl
theorem nb_way1 {m : Nat} (w : Way_) : AV.nb m (wayA w) = True := by simp [wayA, AV.nb, AV.nbs, nb_sum, nb_vals]
theorem iA_p0 (t : Tx_) : (txA t).parts.getD 0 .undef = .sl 35 (insA t.ins) 0 := rfl
theorem iA_off0 (t : Tx_) : (txA t).partOff 0 = 0 := rfl
attribute [local go_sem] nb_u8s u8s_length nb_sum List.length_replicate zero_sum sum_h u8s_nil nb_ref refA_good refA_agg refA_csz sum_csz sum_agg sumA_good nbK_ref nbV_coin kk_ref k1_ref ins_len nb_ins nb_coin coinA_good coinA_agg coinA_csz txA_good txA_csz txA_agg nb_tx iA_p0 iA_off0 tA_len nb_vals vals_len ways_len nb_ways wayA_good wayA_agg wayA_csz nb_way1
theorem ins_spec (nx : Nat) (n : LN) (x : LS) (t : Tx_) (h : Int) (hn : n.ok nx) (hb : (bodyL true t).length < 2 ^ 38) (hk : ∀ o ∈ t.outs, ∀ w ∈ o.ways, w.keys.length < 2 ^ 32) (hsl : t.signs.length < 2 ^ 40) (hil : t.ins.length < 2 ^ 40)
  (hin : ∀ y ∈ t.ins, 0 ≤ y.way ∧ y.pre.length < 2 ^ 39) (hC : ∀ p ∈ x.coins, p.2.out.ways.length < 2 ^ 40 ∧ ∀ w ∈ p.2.out.ways, w.keys.length < 2 ^ 40) :
  FnSpec Tryz.prog 48 nx [.ref n.l 0 [], txA t, n64 h] [(n.l, some (.robj (ledA n x))), (n.v, some (.robj (.agg 1 [.map n.vm]))), (n.vm, some (.rmp (coinsE x.coins)))]
   (.tup [n64 (insF (keysF t t.signs) h x.coins 0 t.ins).1, n64 (insF (keysF t t.signs) h x.coins 0 t.ins).2]) [] 0 := by
 have xf := hn.xf
 have yf := hn.nf
 have hlt := hn.lt
 have b1 := hn.ne.2.1.1
 have hkl := keysF_len t t.signs
 obtain ⟨R, hR⟩ : ∃ R, R = insF (keysF t t.signs) h x.coins 0 t.ins := ⟨_, rfl⟩
 rw [← hR]
 generalize hks : keysF t t.signs = ks at *
 have hkeys := fun nc => keysA_spec nc t hb hk hsl
 rw [hks] at hkeys
 refine FnSpec.of_code (cx := cx) (an := {}) (rs := [.tmp 6, .tmp 7]) mo Tryz.func48 rfl rfl (by kernel_rfl) (by kernel_rfl) (by show 3 ≤ _; decide) (.inr ⟨_, rfl, by simp [AV.good]⟩) (by simp [allWr, keys, Res.wr]) ?_
 repeat' (first | omega | assumption | (show AL.ahead _ _ _ = true; rfl) | (first | apply brF | apply brT | apply brVF | apply brVT) <;> intro _ | (with_reducible refine And.intro ?_ ?_) | (refine callK_by (hkeys _) ?_) | (simp -dsimp -implicitDefEqProofs only [go_sem, xf, yf]))
 apply loop_keep [0, 2, 9, 19, 20] (fun p : { p : Nat × Int // p.1 ≤ t.ins.length ∧ insF ks h x.coins p.2 (t.ins.drop p.1) = R } => [(8, n64 p.1.2), (21, n64 p.1.1)]) (fun p => [(n.l, some (.robj (ledA n x))), (n.v, some (.robj (.agg 1 [.map n.vm]))), (n.vm, some (.rmp (coinsE x.coins)))]) (fun p => t.ins.length - p.1.1) ⟨(0, 0), Nat.zero_le _, hR.symm⟩
 ·simp -dsimp -implicitDefEqProofs only [go_sem]; try rfl
 ·simp -dsimp -implicitDefEqProofs only [go_sem]; try rfl
 ·simp -dsimp -implicitDefEqProofs only [go_sem, xf, yf]; try rfl
 ·intro s
  simp -dsimp -implicitDefEqProofs only [go_sem, ledA, sums_len, nb_sums]
  try omega
 ·rintro ⟨⟨i, s⟩, hi, hall⟩
  have hi : i ≤ t.ins.length := hi
  simp only at hall
  simp -dsimp -implicitDefEqProofs only [go_sem]
  refine brT (fun hc => ?_) (fun hc => ?_)
  ·have hi2 : i < t.ins.length := by omega
   have q1 := ins_get hi2
   have hd := List.drop_eq_getElem_cons hi2
   rw [hd] at hall
   obtain ⟨y1, y2⟩ := hin _ (List.getElem_mem hi2)
   generalize t.ins[i] = y at *
   obtain ⟨wn, hwn⟩ : ∃ wn : Nat, y.way = (wn : Int) := ⟨y.way.toNat, by omega⟩
   have w1 : IntKind.i64.wrap ((i : Int) + 1) = ((i + 1 : Nat) : Int) := wrapE (by omega) (by omega)
   have hvg := fun nc (q1 : n.v < nc) (q2 : n.vm < nc) => vget_spec nc n.v n.vm x.coins y.ref q1 q2 b1
   cases hf : lookM y.ref x.coins with
   | none =>
    simp only [hf, optC, Option.isSome_none] at hvg
    simp only [insF, hf] at hall
    repeat' (first | omega | assumption | (show AL.ahead _ _ _ = true; rfl) | (first | apply brF | apply brT | apply brVF | apply brVT) <;> intro _ | (with_reducible refine And.intro ?_ ?_) | (refine callK_by (hvg _ (by omega) (by omega)) ?_) | (simp -dsimp -implicitDefEqProofs only [go_sem, q1, w1, xf, yf, inA, ledA, sums_len, nb_sums]))
    all_goals first | (rw [← hall]; exact ⟨rfl, rfl⟩) | (rw [← hall])
   | some c =>
    simp only [hf, optC, Option.isSome_some] at hvg
    obtain ⟨c1, c2⟩ := hC _ (lookM_mem hf)
    simp only at c1 c2
    simp only [insF, hf] at hall
    by_cases hwl : (c.out.ways.length : Int) ≤ y.way
    ·rw [if_pos (.inl hwl)] at hall
     rw [hwn] at hwl
     have hge : (c.out.ways.length ≤ wn) = True := eq_true (by omega)
     repeat' (first | omega | assumption | (show AL.ahead _ _ _ = true; rfl) | (first | apply brF | apply brT | apply brVF | apply brVT) <;> intro _ | (with_reducible refine And.intro ?_ ?_) | (refine callK_by (hvg _ (by omega) (by omega)) ?_) | (simp -dsimp -implicitDefEqProofs only [go_sem, q1, w1, xf, yf, inA, ledA, coinA, outA, hwn, ge_iff_le, hge, sums_len, nb_sums]))
     all_goals first | (rw [← hall]; exact ⟨rfl, rfl⟩) | (rw [← hall])
    ·have hwl2 : wn < c.out.ways.length := by omega
     have hge : (c.out.ways.length ≤ wn) = False := eq_false (by omega)
     have q2 := ways_get hwl2
     have q3 : c.out.ways.getD y.way.toNat wayZ = c.out.ways[wn] := by rw [hwn, Int.toNat_natCast, List.getD_eq_getElem?_getD, List.getElem?_eq_getElem hwl2]; rfl
     have hkw := c2 _ (List.getElem_mem hwl2)
     rw [q3] at hall
     generalize c.out.ways[wn] = wy at *
     have hop := fun nc => opens_spec nc 0 0 wy ks y.pre h (w64 (h - c.height)) hkw (by omega) y2 (.inl (by omega)) (.inl (by omega))
     have had := fun nc => add_spec nc [s, c.out.amount] (by simp)
     simp only [vals, List.map_cons, List.map_nil] at had
     rcases Bool.eq_false_or_eq_true (opensB wy ks y.pre h (w64 (h - c.height))) with ho | ho
     ·rw [ho] at hop
      rw [if_neg (by rw [ho]; simp; omega)] at hall
      by_cases ha : (addF 0 [s, c.out.amount]).2 = 0
      ·rw [if_pos ha] at hall
       rw [ha] at had
       repeat' (first | omega | assumption | (show AL.ahead _ _ _ = true; rfl) | (first | apply brF | apply brT | apply brVF | apply brVT) <;> intro _ | (with_reducible refine And.intro ?_ ?_) | (refine callK_by (hvg _ (by omega) (by omega)) ?_) | (refine callK_by (hop _) ?_) | (refine callK_by (had _) ?_) | (simp -dsimp -implicitDefEqProofs only [go_sem, q1, q2, w1, xf, yf, inA, ledA, coinA, outA, hwn, ge_iff_le, hge, sums_len, nb_sums]))
       all_goals first
        | exact ⟨⟨(i + 1, (addF 0 [s, c.out.amount]).1), hi2, hall⟩, by show t.ins.length - (i + 1) < t.ins.length - i; omega, rfl, rfl⟩
        
      ·rw [if_neg ha] at hall
       repeat' (first | omega | assumption | (show AL.ahead _ _ _ = true; rfl) | (first | apply brF | apply brT | apply brVF | apply brVT) <;> intro _ | (with_reducible refine And.intro ?_ ?_) | (refine callK_by (hvg _ (by omega) (by omega)) ?_) | (refine callK_by (hop _) ?_) | (refine callK_by (had _) ?_) | (simp -dsimp -implicitDefEqProofs only [go_sem, q1, q2, w1, xf, yf, inA, ledA, coinA, outA, hwn, ge_iff_le, hge, ha, sums_len, nb_sums]))
       all_goals first | (rw [← hall]; exact ⟨rfl, rfl⟩) | (rw [← hall])
     ·rw [ho] at hop
      rw [if_pos (.inr ho)] at hall
      repeat' (first | omega | assumption | (show AL.ahead _ _ _ = true; rfl) | (first | apply brF | apply brT | apply brVF | apply brVT) <;> intro _ | (with_reducible refine And.intro ?_ ?_) | (refine callK_by (hvg _ (by omega) (by omega)) ?_) | (refine callK_by (hop _) ?_) | (simp -dsimp -implicitDefEqProofs only [go_sem, q1, q2, w1, xf, yf, inA, ledA, coinA, outA, hwn, ge_iff_le, hge, sums_len, nb_sums]))
      all_goals first | (rw [← hall]; exact ⟨rfl, rfl⟩) | (rw [← hall])
  ·have e : i = t.ins.length := by omega
   subst e
   rw [List.drop_length, insF] at hall
   repeat' (first | omega | assumption | (show AL.ahead _ _ _ = true; rfl) | (first | apply brF | apply brT | apply brVF | apply brVT) <;> intro _ | (with_reducible refine And.intro ?_ ?_) | (simp -dsimp -implicitDefEqProofs only [go_sem]))
   all_goals first | (rw [← hall]; exact ⟨rfl, rfl⟩) | (rw [← hall])
end Go.Proofs.YtaghcjbpjnpkbaaGreat

namespace Go.Proofs.YtaghcjbpjnpkbaaGreat
open Go Go.AL Go.Proofs.YtaghcjbpjnpkbaaGreat.T
attribute [local go_sem] nb_u8s u8s_length nb_sum List.length_replicate zero_sum sum_h nb_vals vals_len u8s_nil txA_good txA_csz txA_agg nb_tx tA_len
theorem addG_spec (nx tok : Nat) (l : List Int) (hl : l.length < 2 ^ 40) (ht : tok < 2 ∨ tok - 2 < nx) : FnSpec Tryz.prog 43 nx [.sl 1 (vals .i64 l) tok] [] (.tup [n64 (addF 0 l).1, n64 (addF 0 l).2]) [] 0 := by
 obtain ⟨R, hR⟩ : ∃ R, R = addF 0 l := ⟨_, rfl⟩
 rw [← hR]
 refine FnSpec.of_code (cx := cx) (an := {}) (rs := [.tmp 2, .tmp 3]) mo Tryz.func43 rfl rfl (by kernel_rfl) (by kernel_rfl) (by show 1 ≤ _; decide) (.inr ⟨_, rfl, by simp [AV.good]⟩) (by simp [allWr, keys, Res.wr]) ?_
 repeat' (first | omega | assumption | (show AL.ahead _ _ _ = true; rfl) | (first | apply brF | apply brT | apply brVF | apply brVT) <;> intro _ | (with_reducible refine And.intro ?_ ?_) | (simp -dsimp -implicitDefEqProofs only [go_sem]))
 apply loop_keep [7, 8] (fun p : { p : Nat × Int // p.1 ≤ l.length ∧ 0 ≤ p.2 ∧ p.2 ≤ 1125899906842624 ∧ addF p.2 (l.drop p.1) = R } => [(4, n64 p.1.2), (9, n64 p.1.1)]) (fun _ => []) (fun p => l.length - p.1.1) ⟨(0, 0), Nat.zero_le _, Int.le_refl _, by decide, by rw [hR]; rfl⟩
 ·simp -dsimp -implicitDefEqProofs only [go_sem]; try rfl
 ·simp -dsimp -implicitDefEqProofs only [go_sem]; try rfl
 ·simp -dsimp -implicitDefEqProofs only [go_sem]; try rfl
 ·intro s
  simp -dsimp -implicitDefEqProofs only [go_sem]
  try omega
 ·rintro ⟨⟨i, x⟩, hi, hx0, hx1, hall⟩
  have hi : i ≤ l.length := hi
  simp only at hx0 hx1 hall
  simp -dsimp -implicitDefEqProofs only [go_sem]
  refine brT (fun hc => ?_) (fun hc => ?_)
  ·have hi2 : i < l.length := by omega
   have q1 := vals_get (k := .i64) hi2
   have hd := List.drop_eq_getElem_cons hi2
   have hg : l.getD i 0 = l[i] := by rw [List.getD_eq_getElem?_getD, List.getElem?_eq_getElem hi2]; rfl
   rw [hd] at hall
   rw [hg] at q1
   generalize l[i] = y at *
   have w1 : IntKind.i64.wrap ((i : Int) + 1) = ((i + 1 : Nat) : Int) := wrapE (by omega) (by omega)
   by_cases hy : 0 ≤ y ∧ y ≤ 1125899906842624
   ·have w2 : IntKind.i64.wrap (x + y) = x + y := by rw [IntKind.wrap_i64]; omega
    rw [addF, if_pos hy] at hall
    repeat' (first | omega | assumption | (show AL.ahead _ _ _ = true; rfl) | (first | apply brF | apply brT | apply brVF | apply brVT) <;> intro _ | (with_reducible refine And.intro ?_ ?_) | (refine callK_by (coinRight_spec _ y) ?_) | (simp -dsimp -implicitDefEqProofs only [go_sem, q1, w1, w2, decide_eq_true hy]))
    ·rename_i hx
     rw [if_pos hx] at hall
     rw [← hall]
    ·rename_i hx
     rw [if_neg hx] at hall
     exact ⟨⟨(i + 1, x + y), hi2, by show 0 ≤ x + y; omega, by show x + y ≤ _; omega, hall⟩, by show l.length - (i + 1) < l.length - i; omega, ⟨rfl, rfl⟩⟩
   ·rw [addF, if_neg hy] at hall
    repeat' (first | omega | assumption | (show AL.ahead _ _ _ = true; rfl) | (first | apply brF | apply brT | apply brVF | apply brVT) <;> intro _ | (with_reducible refine And.intro ?_ ?_) | (refine callK_by (coinRight_spec _ y) ?_) | (simp -dsimp -implicitDefEqProofs only [go_sem, q1, w1, decide_eq_false hy]))
    rw [← hall]
  ·have e : i = l.length := by omega
   subst e
   rw [List.drop_length, addF] at hall
   repeat' (first | omega | assumption | (show AL.ahead _ _ _ = true; rfl) | (first | apply brF | apply brT | apply brVF | apply brVT) <;> intro _ | (with_reducible refine And.intro ?_ ?_) | (simp -dsimp -implicitDefEqProofs only [go_sem]))
   rw [← hall]
def subF (a : Int) (l : List Int) : Int × Int :=
 if ¬ (0 ≤ a ∧ a ≤ 1125899906842624) then (0, 5) else if (addF 0 l).2 ≠ 0 then (0, (addF 0 l).2) else if a < (addF 0 l).1 then (0, 14) else (w64 (a - (addF 0 l).1), 0)
theorem sub_spec (nx tok : Nat) (a : Int) (l : List Int) (hl : l.length < 2 ^ 40) (ht : tok < 2 ∨ tok - 2 < nx) : FnSpec Tryz.prog 51 nx [n64 a, .sl 1 (vals .i64 l) tok] [] (.tup [n64 (subF a l).1, n64 (subF a l).2]) [] 0 := by
 have had := fun nc (q : nx ≤ nc) => addG_spec nc tok l hl (by omega)
 have hcr := fun nc => coinRight_spec nc a
 by_cases h1 : 0 ≤ a ∧ a ≤ 1125899906842624
 ·rw [decide_eq_true h1] at hcr
  by_cases h2 : (addF 0 l).2 = 0
  ·rw [h2] at had
   by_cases h3 : a < (addF 0 l).1
   ·have e : subF a l = (0, 14) := by unfold subF; rw [if_neg (fun q => q h1), if_neg (fun q => q h2), if_pos h3]
    rw [e]
    have e2 := eq_true h3
    refine FnSpec.of_code (cx := cx) (an := {}) (rs := [.tmp 4, .tmp 5]) mo Tryz.func51 rfl rfl (by kernel_rfl) (by kernel_rfl) (by show 2 ≤ _; decide) (.inr ⟨_, rfl, by simp [AV.good]⟩) (by simp [allWr, keys, Res.wr]) ?_
    repeat' (first | omega | assumption | (show AL.ahead _ _ _ = true; rfl) | (first | apply brF | apply brT | apply brVF | apply brVT) <;> intro _ | (with_reducible refine And.intro ?_ ?_) | (refine callK_by (had _ (by omega)) ?_) | (refine callK_by (hcr _) ?_) | (simp -dsimp -implicitDefEqProofs only [go_sem, e2, gt_iff_lt]))
   ·have e : subF a l = (w64 (a - (addF 0 l).1), 0) := by unfold subF; rw [if_neg (fun q => q h1), if_neg (fun q => q h2), if_neg h3]
    rw [e]
    have e2 := eq_false h3
    refine FnSpec.of_code (cx := cx) (an := {}) (rs := [.tmp 4, .tmp 5]) mo Tryz.func51 rfl rfl (by kernel_rfl) (by kernel_rfl) (by show 2 ≤ _; decide) (.inr ⟨_, rfl, by simp [AV.good]⟩) (by simp [allWr, keys, Res.wr]) ?_
    repeat' (first | omega | assumption | (show AL.ahead _ _ _ = true; rfl) | (first | apply brF | apply brT | apply brVF | apply brVT) <;> intro _ | (with_reducible refine And.intro ?_ ?_) | (refine callK_by (had _ (by omega)) ?_) | (refine callK_by (hcr _) ?_) | (simp -dsimp -implicitDefEqProofs only [go_sem, e2, gt_iff_lt]))
  ·have e : subF a l = (0, (addF 0 l).2) := by unfold subF; rw [if_neg (fun q => q h1), if_pos h2]
   rw [e]
   have e2 := eq_false h2
   refine FnSpec.of_code (cx := cx) (an := {}) (rs := [.tmp 4, .tmp 5]) mo Tryz.func51 rfl rfl (by kernel_rfl) (by kernel_rfl) (by show 2 ≤ _; decide) (.inr ⟨_, rfl, by simp [AV.good]⟩) (by simp [allWr, keys, Res.wr]) ?_
   repeat' (first | omega | assumption | (show AL.ahead _ _ _ = true; rfl) | (first | apply brF | apply brT | apply brVF | apply brVT) <;> intro _ | (with_reducible refine And.intro ?_ ?_) | (refine callK_by (had _ (by omega)) ?_) | (refine callK_by (hcr _) ?_) | (simp -dsimp -implicitDefEqProofs only [go_sem, e2]))
 ·have e : subF a l = (0, 5) := by unfold subF; rw [if_pos h1]
  rw [e]
  rw [decide_eq_false h1] at hcr
  refine FnSpec.of_code (cx := cx) (an := {}) (rs := [.tmp 4, .tmp 5]) mo Tryz.func51 rfl rfl (by kernel_rfl) (by kernel_rfl) (by show 2 ≤ _; decide) (.inr ⟨_, rfl, by simp [AV.good]⟩) (by simp [allWr, keys, Res.wr]) ?_
  repeat' (first | omega | assumption | (show AL.ahead _ _ _ = true; rfl) | (first | apply brF | apply brT | apply brVF | apply brVT) <;> intro _ | (with_reducible refine And.intro ?_ ?_) | (refine callK_by (had _ (by omega)) ?_) | (refine callK_by (hcr _) ?_) | (simp -dsimp -implicitDefEqProofs only [go_sem]))
theorem oA_p2 (t : Tx_) : (txA t).parts.getD 2 .undef = opT t.op := rfl
theorem oA_off2 (t : Tx_) : (txA t).partOff 2 = 2 := rfl
end Go.Proofs.YtaghcjbpjnpkbaaGreat

namespace Go.Proofs.YtaghcjbpjnpkbaaGreat
open Go Go.AL Go.Proofs.YtaghcjbpjnpkbaaGreat.T
def opZ : Op_ := ⟨0, 0, 0, 0, zeroS, []⟩
def txO (os : List Out_) : Tx_ := ⟨[], os, opZ, []⟩
def txOA (os : List Out_) : AV := .agg 40 [.sl 35 [] 1, .sl 2 (outsA os) 0, .agg 37 [n64 0, n64 0, n64 0, n64 0, sumA zeroS, .sl 1 [] 1], .sl 33 [] 1]
theorem txO_le (os : List Out_) : AV.le (txOA os) (txA (txO os)) :=
 ⟨_, rfl, _, _, rfl, ⟨_, _, rfl, AV.les_refl _, .inr (.inl rfl)⟩, _, _, rfl, AV.le_refl _, _, _, rfl, ⟨_, rfl, _, _, rfl, AV.le_refl _, _, _, rfl, AV.le_refl _, _, _, rfl, AV.le_refl _, _, _, rfl, AV.le_refl _, _, _, rfl, AV.le_refl _, _, _, rfl, ⟨_, _, rfl, AV.les_refl _, .inr (.inl rfl)⟩, rfl⟩, _, _, rfl, ⟨_, _, rfl, AV.les_refl _, .inr (.inl rfl)⟩, rfl⟩
noncomputable def newE : Int → List Out_ → Int
 | _, [] => 0
 | s, o :: r => if outB o = false then 1 else if (addF 0 [s, o.amount]).2 ≠ 0 then (addF 0 [s, o.amount]).2 else newE (addF 0 [s, o.amount]).1 r
noncomputable def newS (os : List Out_) : LS := comeS (txS (txO os)) (txO os) 0 ⟨[], [], [], [], [], [], 0⟩
def newN (N : Nat) : LN := ⟨N + 40, N + 80, N + 64, N + 128, N + 104, N + 112, N + 16, N + 24, N + 33⟩
theorem newN_ok {N nx : Nat} (h : N + 128 < nx) : (newN N).ok nx := by
 refine ⟨?_, ?_, ?_, ?_, ?_, ?_, ?_, ?_, ?_, ?_⟩
 all_goals first | (simp only [newN]; omega) | skip
 simp [newN]
attribute [local go_sem] nb_u8s u8s_length nb_sum List.length_replicate zero_sum sum_h u8s_nil sum_csz sum_agg sumA_good outs_len nb_outs nb_out1 outA_good outA_agg outA_csz txA_good txA_csz txA_agg nb_tx sums_len nb_sums nbK_ref nbK_int nbK_pair nbK_sum nbV_coin nbV_tow nbV_hold nbV_done nbV_spend
theorem cloneO_nil (nx t : Nat) : FnSpec Tryz.prog 46 nx [.sl 2 [] t] [] (.sl 2 [] 0) [] 0 := by
 refine FnSpec.empty fun b n => ?_
 cases b with
 | none =>
  have h : FnSpec Tryz.prog 46 nx [.val (.slice none 0 n)] [] (.sl 0 [] 1) [] 0 := by
   refine FnSpec.of_code (cx := cx) (an := {}) (rs := [.tmp 2]) mo Tryz.func46 rfl rfl (by kernel_rfl) (by kernel_rfl) (by show 1 ≤ _; decide) (.inl rfl) (by simp [allWr, keys, Res.wr]) ?_
   repeat' (first | omega | assumption | (show AL.ahead _ _ _ = true; rfl) | (first | apply brF | apply brT | apply brVF | apply brVT) <;> intro _ | (with_reducible refine And.intro ?_ ?_) | (simp -dsimp -implicitDefEqProofs only [go_sem, Option.isNone_none]))
  exact h.forget0 ⟨rfl, .inr ⟨.inr rfl, .inl rfl⟩⟩ (by simp [AV.nb, AV.nbs]) (by simp [keys])
 | some a =>
  have h : FnSpec Tryz.prog 46 nx [.val (.slice (some a) 0 n)] [] (.sl 2 [] (nx + 42)) [(nx + 40, some (.tail 0))] 60 := by
   refine FnSpec.of_code (cx := cx) (an := {}) (rs := [.tmp 2]) mo Tryz.func46 rfl rfl (by kernel_rfl) (by kernel_rfl) (by show 1 ≤ _; decide) (.inl rfl) (by simp [allWr, keys, Res.wr]) ?_
   repeat' (first | omega | assumption | (show AL.ahead _ _ _ = true; rfl) | (first | apply brF | apply brT | apply brVF | apply brVT) <;> intro _ | (with_reducible refine And.intro ?_ ?_) | (simp -dsimp -implicitDefEqProofs only [go_sem, Option.isNone_some]))
  exact h.forget0 ⟨rfl, .inr ⟨.inl rfl, .inl rfl⟩⟩ (by simp [AV.nb, AV.nbs]) (by simp [keys])
theorem cloneO_spec (nx t : Nat) (l : List Out_) (hl : l.length < 2 ^ 40) (ht : t < 2 ∨ t - 2 < nx) : FnSpec Tryz.prog 46 nx [.sl 2 (outsA l) t] [] (.sl 2 (outsA l) 0) [] 0 := by
 cases l with
 | nil => exact cloneO_nil nx t
 | cons a l =>
  have e : outsA (a :: l) = outA a :: outsA l := rfl
  simp only [List.length_cons] at hl
  have h : FnSpec Tryz.prog 46 nx [.sl 2 (outsA (a :: l)) t] [] (.sl 2 (outsA (a :: l)) (nx + 42)) [(nx + 40, some (.tail (outsA (a :: l)).length))] 60 := by
   rw [e]
   refine FnSpec.of_code (cx := cx) (an := {}) (rs := [.tmp 2]) mo Tryz.func46 rfl rfl (by kernel_rfl) (by kernel_rfl) (by show 1 ≤ _; decide) (.inl rfl) (by simp [allWr, keys, Res.wr]) ?_
   repeat' (first | omega | assumption | (show AL.ahead _ _ _ = true; rfl) | (first | apply brF | apply brT | apply brVF | apply brVT) <;> intro _ | (with_reducible refine And.intro ?_ ?_) | (simp -dsimp -implicitDefEqProofs only [go_sem]))
  exact h.forget0 ⟨rfl, .inr ⟨.inl rfl, .inl rfl⟩⟩ (by simp [AV.nb, nb_outs]) (by simp [keys])
theorem newOk_spec (nx tok : Nat) (os : List Out_) (hE : newE 0 os = 0) (hl : os.length ≤ 16) (hL : ∀ o ∈ os, o.ways.length < 2 ^ 40 ∧ ∀ w ∈ o.ways, w.keys.length < 2 ^ 32) (hb : (bodyL true (txO os)).length < 2 ^ 38) (ht : tok < 2 ∨ tok - 2 < nx) :
  FnSpec Tryz.prog 17 nx [.sl 2 (outsA os) tok] [] (.tup [.ref (newN (nx + 88)).l 0 [], sumA (txS (txO os)), n64 0]) (ledH (newN (nx + 88)) (newS os)) 4000 := by
 have hcl := fun nc (q : nx ≤ nc) => cloneO_spec nc tok os (by omega) (by omega)
 have hsm := fun nc => (txSum_spec nc (txO os) hb (fun o ho w hw => (hL o ho).2 w hw)).le (args := [txOA os]) ⟨_, _, rfl, txO_le os, rfl⟩
 refine FnSpec.of_code (cx := cx) (an := {tk := [(45, [([4], 32)])], mt := [46]}) (rs := [.tmp 2, .cell 3 26, .tmp 4]) mo Tryz.func17 rfl rfl (by kernel_rfl) (by kernel_rfl) (by show 1 ≤ _; decide) (.inr ⟨_, rfl, by simp [AV.good, sumA]⟩) (by simp [allWr, keys, Res.wr]) ?_
 repeat' (first | omega | assumption | (show AL.ahead _ _ _ = true; rfl) | (first | apply brF | apply brT | apply brVF | apply brVT) <;> intro _ | (with_reducible refine And.intro ?_ ?_) | (simp -dsimp -implicitDefEqProofs only [go_sem]))
 apply loop_keep [0, 3, 13, 14] (fun p : { p : Nat × Int // p.1 ≤ os.length ∧ newE p.2 (os.drop p.1) = 0 } => [(5, n64 p.1.2), (15, n64 p.1.1)]) (fun p => [(nx + 8, some (.obj (sumA zeroS)))]) (fun p => os.length - p.1.1) ⟨(0, 0), Nat.zero_le _, hE⟩
 ·simp -dsimp -implicitDefEqProofs only [go_sem]; try rfl
 ·simp -dsimp -implicitDefEqProofs only [go_sem]; try rfl
 ·simp -dsimp -implicitDefEqProofs only [go_sem]; try rfl
 ·intro s
  simp -dsimp -implicitDefEqProofs only [go_sem]
  try omega
 ·rintro ⟨⟨i, s⟩, hi, hall⟩
  have hi : i ≤ os.length := hi
  simp only at hall
  simp -dsimp -implicitDefEqProofs only [go_sem]
  refine brT (fun hc => ?_) (fun hc => ?_)
  ·have hi2 : i < os.length := by omega
   have q1 := outs_get hi2
   have hd := List.drop_eq_getElem_cons hi2
   rw [hd] at hall
   obtain ⟨l1, l2⟩ := hL _ (List.getElem_mem hi2)
   generalize os[i] = y at *
   have w1 : IntKind.i64.wrap ((i : Int) + 1) = ((i + 1 : Nat) : Int) := wrapE (by omega) (by omega)
   have hob := fun nc => outR_spec nc y l1 (fun w hw => Nat.lt_trans (l2 w hw) (by decide))
   have had := fun nc => add_spec nc [s, y.amount] (by simp)
   simp only [vals, List.map_cons, List.map_nil] at had
   simp only [newE] at hall
   have e1 : outB y = true := by
    rcases Bool.eq_false_or_eq_true (outB y) with q | q
    ·exact q
    ·rw [if_pos q] at hall; exact absurd hall (by decide)
   rw [if_neg (by rw [e1]; decide)] at hall
   have e2 : (addF 0 [s, y.amount]).2 = 0 := by
    rcases Classical.em ((addF 0 [s, y.amount]).2 = 0) with q | q
    ·exact q
    ·rw [if_pos q] at hall; exact hall
   rw [if_neg (fun q => q e2)] at hall
   rw [e1] at hob
   rw [e2] at had
   repeat' (first | omega | assumption | (show AL.ahead _ _ _ = true; rfl) | (first | apply brF | apply brT | apply brVF | apply brVT) <;> intro _ | (with_reducible refine And.intro ?_ ?_) | (refine callK_by (hob _) ?_) | (refine callK_by (had _) ?_) | (simp -dsimp -implicitDefEqProofs only [go_sem, q1, w1, outA]))
   all_goals first
    | exact ⟨⟨(i + 1, (addF 0 [s, y.amount]).1), hi2, hall⟩, by show os.length - (i + 1) < os.length - i; omega, rfl, rfl⟩
    
  ·have hgt : ((16 : Int) < (os.length : Int)) = False := eq_false (by omega)
   have hcm := fun nc (q : nx + 300 ≤ nc) => (come_spec nc (newN (nx + 88)) ⟨[], [], [], [], [], [], 0⟩ (txS (txO os)) (txO os) 0 (newN_ok (by omega)) (show os.length < 2 ^ 40 by omega) (fun o ho => ⟨(hL o ho).1, fun w hw => Nat.lt_trans ((hL o ho).2 w hw) (by decide)⟩) (by show 0 < _; decide)).le (args := [.ref (newN (nx + 88)).l 0 [], sumA (txS (txO os)), txOA os, n64 0]) ⟨_, _, rfl, AV.le_refl _, _, _, rfl, AV.le_refl _, _, _, rfl, txO_le os, _, _, rfl, AV.le_refl _, rfl⟩
   simp only [newN, ledA, txOA, Nat.add_assoc, Nat.reduceAdd, sumsA, List.map_nil, enc_nil, List.length_nil] at hcm
   repeat' (first | omega | assumption | (show AL.ahead _ _ _ = true; rfl) | (first | apply brF | apply brT | apply brVF | apply brVT) <;> intro _ | (with_reducible refine And.intro ?_ ?_) | (refine callK_by (newv_spec _) ?_) | (refine callK_by (newb_spec _) ?_) | (refine callK_by (hcl _ (by omega)) ?_) | (refine callK_by (hsm _) ?_) | (refine callK_by (hcm _ (by omega)) ?_) | (simp -dsimp -implicitDefEqProofs only [go_sem, hgt, gt_iff_lt, enc_nil, newN, ledA, newS, boardA]))
   all_goals rfl
end Go.Proofs.YtaghcjbpjnpkbaaGreat

namespace Go.Proofs.YtaghcjbpjnpkbaaGreat
open Go Go.AL Go.Proofs.YtaghcjbpjnpkbaaGreat.T
end Go.Proofs.YtaghcjbpjnpkbaaGreat

namespace Go.Proofs.YtaghcjbpjnpkbaaGreat
open Go Go.AL Go.Proofs.YtaghcjbpjnpkbaaGreat.T
noncomputable def takeAll : List In_ → List (Ref_ × Coin_) → List (Ref_ × Coin_)
 | [], cs => cs
 | y :: r, cs => takeAll r (delM y.ref cs)
noncomputable def spendAll (id : Sum) (h : Int) : List In_ → List (Ref_ × Spend_) → List (Ref_ × Spend_)
 | [], s => s
 | y :: r, s => spendAll id h r (setM y.ref ⟨id, y.way, h⟩ s)
theorem takeAll_snoc (y : In_) : ∀ (l : List In_) (cs : List (Ref_ × Coin_)), takeAll (l ++ [y]) cs = delM y.ref (takeAll l cs)
 | [], cs => rfl
 | a :: l, cs => by simp only [List.cons_append, takeAll]; exact takeAll_snoc y l _
theorem spendAll_snoc (id : Sum) (h : Int) (y : In_) : ∀ (l : List In_) (s : List (Ref_ × Spend_)), spendAll id h (l ++ [y]) s = setM y.ref ⟨id, y.way, h⟩ (spendAll id h l s)
 | [], s => rfl
 | a :: l, s => by simp only [List.cons_append, spendAll]; exact spendAll_snoc id h y l _
noncomputable def applyS (t : Tx_) (h fee : Int) (ts : List (Int × Tw_)) (hs : List ((Int × Int) × Hold_)) (x : LS) : LS :=
 comeS (txS t) t h { x with coins := takeAll t.ins x.coins, towers := ts, holds := hs, spent := spendAll (txS t) h t.ins x.spent, fees := w64 (x.fees + fee) }
structure TxOk (t : Tx_) : Prop where
 l : txL t
 b : (bodyL true t).length < 2 ^ 38
 k : ∀ o ∈ t.outs, ∀ w ∈ o.ways, w.keys.length < 2 ^ 32
 p : ∀ y ∈ t.ins, y.pre.length < 2 ^ 39
def CoOk (cs : List (Ref_ × Coin_)) : Prop := ∀ p ∈ cs, p.2.out.ways.length < 2 ^ 40 ∧ ∀ w ∈ p.2.out.ways, w.keys.length < 2 ^ 32
theorem setM_mem {K V : Type} {k : K} {v : V} : ∀ {l : List (K × V)} {p : K × V}, p ∈ setM k v l → p = (k, v) ∨ p ∈ l
 | [], p, h => by simp [setM] at h; exact .inl h
 | (a, u) :: r, p, h => by
  simp only [setM] at h
  split at h
  ·rcases List.mem_cons.1 h with q | q
   ·exact .inl q
   ·exact .inr (List.mem_cons_of_mem _ q)
  ·rcases List.mem_cons.1 h with q | q
   ·exact .inr (by rw [q]; exact List.mem_cons_self)
   ·rcases setM_mem q with q | q
    ·exact .inl q
    ·exact .inr (List.mem_cons_of_mem _ q)
theorem putAll_ok (id : Sum) (h : Int) : ∀ (os : List Out_) (i : Nat) (cs : List (Ref_ × Coin_)), CoOk cs → (∀ o ∈ os, o.ways.length < 2 ^ 40 ∧ ∀ w ∈ o.ways, w.keys.length < 2 ^ 32) → CoOk (putAll id h os i cs)
 | [], _, cs, h1, _ => h1
 | o :: r, i, cs, h1, h2 => by
  refine putAll_ok id h r (i + 1) _ (fun p hp => ?_) (fun q hq => h2 q (List.mem_cons_of_mem _ hq))
  unfold putL at hp
  split at hp
  ·rcases setM_mem hp with q | q
   ·rw [q]; exact h2 o List.mem_cons_self
   ·exact h1 p q
  ·exact h1 p hp
theorem takeAll_sub : ∀ (l : List In_) (cs : List (Ref_ × Coin_)) (p : Ref_ × Coin_), p ∈ takeAll l cs → p ∈ cs
 | [], _, _, h => h
 | y :: r, cs, p, h => (delM_sub cs).subset (takeAll_sub r _ p h)
theorem applyS_ok {t : Tx_} {h fee : Int} {ts : List (Int × Tw_)} {hs : List ((Int × Int) × Hold_)} {x : LS} (hx : CoOk x.coins) (ht : TxOk t) : CoOk (applyS t h fee ts hs x).coins :=
 putAll_ok _ _ _ _ _ (fun p hp => hx p (takeAll_sub _ _ _ hp)) (fun o ho => ⟨(ht.l.2.2.2.2.2 o ho).1, ht.k o ho⟩)
theorem applyS_order (t : Tx_) (h fee : Int) (ts : List (Int × Tw_)) (hs : List ((Int × Int) × Hold_)) (x : LS) : (applyS t h fee ts hs x).order = x.order ++ [txS t] := rfl
abbrev effH (n : LN) (x : LS) (b tm hm : Nat) : Heap := [(n.l, some (.robj (ledA n x))), (n.d, some (.rmp (donesE x.done))), (n.s, some (.rmp (spentE x.spent))), (b, some (.robj (boardA tm hm))), (tm, some (.mp (towsE x.towers))), (hm, some (.mp (holdsE x.holds)))]
def EffSpec (t : Tx_) (h : Int) (x : LS) (i o e : Int) (ts : List (Int × Tw_)) (hs : List ((Int × Int) × Hold_)) : Prop :=
 ∀ nx n b tm hm, n.ok nx → b < nx → tm < nx → hm < nx → n.l < b ∧ n.d < b ∧ n.s < b ∧ b < tm ∧ tm < hm →
  FnSpec Tryz.prog 50 nx [.ref n.l 0 [], .ref b 0 [], txA t, n64 h] (effH n x b tm hm) (.tup [n64 i, n64 o, n64 e]) [(tm, some (.mp (towsE ts))), (hm, some (.mp (holdsE hs)))] 0
attribute [local go_sem] nb_u8s u8s_length nb_sum List.length_replicate zero_sum sum_h nb_vals vals_len u8s_nil txA_good txA_csz txA_agg nb_tx tA_len
theorem eff_none (t : Tx_) (h : Int) (x : LS) (h0 : t.op.kind = 0) : EffSpec t h x 0 0 0 x.towers x.holds := by
 intro nx n b tm hm hn hb ht hh hlt
 have xf := hn.xf
 have yf := hn.nf
 have x0 := ltF hb
 have x1 := ltF ht
 have x2 := ltF hh
 have z1 := neF (show tm ≠ hm by omega)
 have z2 := neF (show b ≠ hm by omega)
 have z3 := neF (show b ≠ tm by omega)
 have z4 := neF (show n.l ≠ b by omega)
 have z5 := neF (show n.l ≠ tm by omega)
 have z6 := neF (show n.l ≠ hm by omega)
 have z7 := neF (show n.d ≠ b by omega)
 have z8 := neF (show n.d ≠ tm by omega)
 have z9 := neF (show n.d ≠ hm by omega)
 have z10 := neF (show n.s ≠ b by omega)
 have z11 := neF (show n.s ≠ tm by omega)
 have z12 := neF (show n.s ≠ hm by omega)
 refine FnSpec.of_code (cx := cx) (an := {}) (rs := [.tmp 8, .tmp 9, .tmp 10]) mo Tryz.func50 rfl rfl (by kernel_rfl) (by kernel_rfl) (by show 4 ≤ _; decide) (.inr ⟨_, rfl, by simp [AV.good]⟩) (by simp [allWr, keys, Res.wr]) ?_
 repeat' (first | omega | assumption | (show AL.ahead _ _ _ = true; rfl) | (first | apply brF | apply brT | apply brVF | apply brVT) <;> intro _ | (with_reducible refine And.intro ?_ ?_) | (simp -dsimp -implicitDefEqProofs only [go_sem, oA_p2, oA_off2, opT, h0, xf, yf, x0, x1, x2, z1, z2, z3, z4, z5, z6, z7, z8, z9, z10, z11, z12, nbK_int, nbK_pair, nbV_tow, nbV_hold]))
end Go.Proofs.YtaghcjbpjnpkbaaGreat

namespace Go.Proofs.YtaghcjbpjnpkbaaGreat
open Go Go.AL
theorem numI_lit (n : Int) (h : 0 ≤ n) (h2 : n < 128) : numI n = [UInt8.ofNat n.toNat] := by
 have e : numV n = n.toNat := by simp only [numV, IntKind.wrap_u64]; omega
 rw [numI, e, numN_small (by omega)]

theorem n0 : numI 0 = [0] := numI_lit 0 (by decide) (by decide)
theorem n1 : numI 1 = [1] := numI_lit 1 (by decide) (by decide)
theorem n2 : numI 2 = [2] := numI_lit 2 (by decide) (by decide)
theorem n4 : numI 4 = [4] := numI_lit 4 (by decide) (by decide)
theorem n5 : numI 5 = [5] := numI_lit 5 (by decide) (by decide)
end Go.Proofs.YtaghcjbpjnpkbaaGreat

namespace Go.Proofs.YtaghcjbpjnpkbaaGreat
open Go Go.AL Go.Proofs.YtaghcjbpjnpkbaaGreat.T
attribute [local go_sem] nb_u8s u8s_length nb_sum List.length_replicate zero_sum sum_h u8s_nil txA_good txA_csz txA_agg nb_tx sum_csz sum_agg sumA_good nb_ref refA_good refA_agg refA_csz
def facZ : AV := .agg 43 [.agg 40 [.sl 35 [] 1, .sl 2 [] 1, .agg 37 [n64 0, n64 0, n64 0, n64 0, sumA zeroS, .sl 1 [] 1], .sl 33 [] 1], n64 0, bA false, n64 0]
theorem jkeyW_spec (nx : Nat) (n : Int) : FnSpec Tryz.prog 31 nx [n64 n] [] (n64 (w64 (100 + n))) [] 0 := by
 refine FnSpec.of_code (cx := cx) (an := {}) (rs := [.tmp 2]) mo Tryz.func31 rfl rfl (by kernel_rfl) (by kernel_rfl) (by show 1 ≤ _; decide) (.inl rfl) (by simp [allWr, keys, Res.wr]) ?_
 repeat' (first | omega | assumption | (show AL.ahead _ _ _ = true; rfl) | (first | apply brF | apply brT | apply brVF | apply brVT) <;> intro _ | (with_reducible refine And.intro ?_ ?_) | (simp -dsimp -implicitDefEqProofs only [go_sem]))
 all_goals rfl
end Go.Proofs.YtaghcjbpjnpkbaaGreat

namespace Go.Proofs.YtaghcjbpjnpkbaaGreat
open Go Go.AL Go.Proofs.YtaghcjbpjnpkbaaGreat.T
attribute [local go_sem] nb_u8s u8s_length nb_sum List.length_replicate zero_sum sum_h u8s_nil nb_vals vals_len ways_len nb_ways sumA outA_good outA_agg outA_csz nb_out1 txA_good txA_csz txA_agg nb_tx
def soleP (o : Out_) (k : Int) : Prop := ∃ w, o.ways = [w] ∧ w.keys = [k] ∧ w.hash = zeroS ∧ w.after = 0 ∧ w.wait = 0
noncomputable def soleB (o : Out_) (k : Int) : Bool := @decide (soleP o k) (Classical.propDecidable _)
theorem soleB_t {o : Out_} {k : Int} (h : soleP o k) : soleB o k = true := @decide_eq_true _ (Classical.propDecidable _) h
theorem soleB_f {o : Out_} {k : Int} (h : ¬ soleP o k) : soleB o k = false := @decide_eq_false _ (Classical.propDecidable _) h
theorem sole_spec (nx : Nat) (o : Out_) (k : Int) (hl : o.ways.length < 2 ^ 40) (hk : ∀ w ∈ o.ways, w.keys.length < 2 ^ 40) : FnSpec Tryz.prog 61 nx [outA o, n64 k] [] (bA (soleB o k)) [] 0 := by
 obtain ⟨am, ws⟩ := o
 simp only at hl hk
 match ws, hl, hk with
 | [], _, _ =>
  rw [soleB_f (fun ⟨w, h, _⟩ => by simp at h)]
  refine FnSpec.of_code (cx := cx) (an := {}) (rs := [.tmp 4]) mo Tryz.func61 rfl rfl (by kernel_rfl) (by kernel_rfl) (by show 2 ≤ _; decide) (.inl rfl) (by simp [allWr, keys, Res.wr]) ?_
  repeat' (first | omega | assumption | (show AL.ahead _ _ _ = true; rfl) | (first | apply brF | apply brT | apply brVF | apply brVT) <;> intro _ | (with_reducible refine And.intro ?_ ?_) | (simp -dsimp -implicitDefEqProofs only [go_sem, outA, waysA, List.map_nil, List.length_nil]))
  all_goals rfl
 | w :: v :: r, hl, _ =>
  rw [soleB_f (fun ⟨w, h, _⟩ => by simp at h)]
  simp only [List.length_cons] at hl
  have e : ¬ (((r.length + 1 + 1 : Nat) : Int) = 1) := by omega
  refine FnSpec.of_code (cx := cx) (an := {}) (rs := [.tmp 4]) mo Tryz.func61 rfl rfl (by kernel_rfl) (by kernel_rfl) (by show 2 ≤ _; decide) (.inl rfl) (by simp [allWr, keys, Res.wr]) ?_
  repeat' (first | omega | assumption | (show AL.ahead _ _ _ = true; rfl) | (first | apply brF | apply brT | apply brVF | apply brVT) <;> intro _ | (with_reducible refine And.intro ?_ ?_) | (simp -dsimp -implicitDefEqProofs only [go_sem, outA, waysA, List.map_cons, List.length_cons, List.length_map, e]))
  all_goals first | rfl | omega
 | [w], _, hk =>
  have hkw := hk w (by simp)
  obtain ⟨ks, hs, af, wt⟩ := w
  simp only at hkw
  match ks, hkw with
  | [], _ =>
   rw [soleB_f (fun ⟨w, h, h2, _⟩ => by simp at h; subst h; simp at h2)]
   refine FnSpec.of_code (cx := cx) (an := {}) (rs := [.tmp 4]) mo Tryz.func61 rfl rfl (by kernel_rfl) (by kernel_rfl) (by show 2 ≤ _; decide) (.inl rfl) (by simp [allWr, keys, Res.wr]) ?_
   repeat' (first | omega | assumption | (show AL.ahead _ _ _ = true; rfl) | (first | apply brF | apply brT | apply brVF | apply brVT) <;> intro _ | (with_reducible refine And.intro ?_ ?_) | (simp -dsimp -implicitDefEqProofs only [go_sem, outA, waysA, wayA, List.map_cons, List.map_nil, List.length_cons, List.length_nil, vals, List.getD_cons_zero]))
   all_goals rfl
  | a :: b :: r, hkw =>
   rw [soleB_f (fun ⟨w, h, h2, _⟩ => by simp at h; subst h; simp at h2)]
   simp only [List.length_cons] at hkw
   have e : ¬ (((r.length + 1 + 1 : Nat) : Int) = 1) := by omega
   refine FnSpec.of_code (cx := cx) (an := {}) (rs := [.tmp 4]) mo Tryz.func61 rfl rfl (by kernel_rfl) (by kernel_rfl) (by show 2 ≤ _; decide) (.inl rfl) (by simp [allWr, keys, Res.wr]) ?_
   repeat' (first | omega | assumption | (show AL.ahead _ _ _ = true; rfl) | (first | apply brF | apply brT | apply brVF | apply brVT) <;> intro _ | (with_reducible refine And.intro ?_ ?_) | (simp -dsimp -implicitDefEqProofs only [go_sem, outA, waysA, wayA, List.map_cons, List.map_nil, List.length_cons, List.length_nil, List.length_map, vals, List.getD_cons_zero, e]))
   all_goals first | rfl | omega
  | [a], _ =>
   by_cases h1 : a = k
   ·by_cases h2 : hs = zeroS
    ·by_cases h3 : af = 0
     ·by_cases h4 : wt = 0
      ·rw [soleB_t ⟨_, rfl, by rw [h1], h2, h3, h4⟩]
       have e1 : eqB (AV.vec 1 (u8s hs.b)) (AV.vec 1 (u8s zeroS.b)) = true := by rw [h2]; exact eqB_yes rfl
       refine FnSpec.of_code (cx := cx) (an := {}) (rs := [.tmp 4]) mo Tryz.func61 rfl rfl (by kernel_rfl) (by kernel_rfl) (by show 2 ≤ _; decide) (.inl rfl) (by simp [allWr, keys, Res.wr]) ?_
       repeat' (first | omega | assumption | (show AL.ahead _ _ _ = true; rfl) | (first | apply brF | apply brT | apply brVF | apply brVT) <;> intro _ | (with_reducible refine And.intro ?_ ?_) | (simp -dsimp -implicitDefEqProofs only [go_sem, outA, waysA, wayA, List.map_cons, List.map_nil, List.length_cons, List.length_nil, List.length_map, vals, List.getD_cons_zero, h1, e1, h3, h4, ↓cmp_sum, isSumT]))
       all_goals first | rfl | omega
      ·rw [soleB_f (fun ⟨w, h, _, _, _, q⟩ => by simp at h; subst h; exact h4 q)]
       have e1 : eqB (AV.vec 1 (u8s hs.b)) (AV.vec 1 (u8s zeroS.b)) = true := by rw [h2]; exact eqB_yes rfl
       refine FnSpec.of_code (cx := cx) (an := {}) (rs := [.tmp 4]) mo Tryz.func61 rfl rfl (by kernel_rfl) (by kernel_rfl) (by show 2 ≤ _; decide) (.inl rfl) (by simp [allWr, keys, Res.wr]) ?_
       repeat' (first | omega | assumption | (show AL.ahead _ _ _ = true; rfl) | (first | apply brF | apply brT | apply brVF | apply brVT) <;> intro _ | (with_reducible refine And.intro ?_ ?_) | (simp -dsimp -implicitDefEqProofs only [go_sem, outA, waysA, wayA, List.map_cons, List.map_nil, List.length_cons, List.length_nil, List.length_map, vals, List.getD_cons_zero, h1, e1, h3, h4, ↓cmp_sum, isSumT]))
       all_goals first | rfl | omega
     ·rw [soleB_f (fun ⟨w, h, _, _, q, _⟩ => by simp at h; subst h; exact h3 q)]
      have e1 : eqB (AV.vec 1 (u8s hs.b)) (AV.vec 1 (u8s zeroS.b)) = true := by rw [h2]; exact eqB_yes rfl
      refine FnSpec.of_code (cx := cx) (an := {}) (rs := [.tmp 4]) mo Tryz.func61 rfl rfl (by kernel_rfl) (by kernel_rfl) (by show 2 ≤ _; decide) (.inl rfl) (by simp [allWr, keys, Res.wr]) ?_
      repeat' (first | omega | assumption | (show AL.ahead _ _ _ = true; rfl) | (first | apply brF | apply brT | apply brVF | apply brVT) <;> intro _ | (with_reducible refine And.intro ?_ ?_) | (simp -dsimp -implicitDefEqProofs only [go_sem, outA, waysA, wayA, List.map_cons, List.map_nil, List.length_cons, List.length_nil, List.length_map, vals, List.getD_cons_zero, h1, e1, h3, ↓cmp_sum, isSumT]))
      all_goals first | rfl | omega
    ·rw [soleB_f (fun ⟨w, h, _, q, _, _⟩ => by simp at h; subst h; exact h2 q)]
     have e1 : eqB (AV.vec 1 (u8s hs.b)) (AV.vec 1 (u8s zeroS.b)) = false := eqB_no (fun q => h2 (sumA_inj _ _ q))
     refine FnSpec.of_code (cx := cx) (an := {}) (rs := [.tmp 4]) mo Tryz.func61 rfl rfl (by kernel_rfl) (by kernel_rfl) (by show 2 ≤ _; decide) (.inl rfl) (by simp [allWr, keys, Res.wr]) ?_
     repeat' (first | omega | assumption | (show AL.ahead _ _ _ = true; rfl) | (first | apply brF | apply brT | apply brVF | apply brVT) <;> intro _ | (with_reducible refine And.intro ?_ ?_) | (simp -dsimp -implicitDefEqProofs only [go_sem, outA, waysA, wayA, List.map_cons, List.map_nil, List.length_cons, List.length_nil, List.length_map, vals, List.getD_cons_zero, h1, e1, ↓cmp_sum, isSumT]))
     all_goals first | rfl | omega
   ·rw [soleB_f (fun ⟨w, h, q, _⟩ => by simp at h; subst h; simp at q; exact h1 q)]
    refine FnSpec.of_code (cx := cx) (an := {}) (rs := [.tmp 4]) mo Tryz.func61 rfl rfl (by kernel_rfl) (by kernel_rfl) (by show 2 ≤ _; decide) (.inl rfl) (by simp [allWr, keys, Res.wr]) ?_
    repeat' (first | omega | assumption | (show AL.ahead _ _ _ = true; rfl) | (first | apply brF | apply brT | apply brVF | apply brVT) <;> intro _ | (with_reducible refine And.intro ?_ ?_) | (simp -dsimp -implicitDefEqProofs only [go_sem, outA, waysA, wayA, List.map_cons, List.map_nil, List.length_cons, List.length_nil, List.length_map, vals, List.getD_cons_zero, h1]))
    all_goals first | rfl | omega
theorem cref_spec (nx : Nat) (t : Tx_) (hb : (bodyL true t).length < 2 ^ 38) (hk : ∀ o ∈ t.outs, ∀ w ∈ o.ways, w.keys.length < 2 ^ 32) : FnSpec Tryz.prog 29 nx [txA t] [] (refA ⟨txS t, 0⟩) [] 0 := by
 have hsm := fun nc => txSum_spec nc t hb hk
 simp only [sumA] at hsm
 refine FnSpec.of_code (cx := cx) (an := {}) (rs := [.cell 2 45]) mo Tryz.func29 rfl rfl (by kernel_rfl) (by kernel_rfl) (by show 1 ≤ _; decide) (.inl rfl) (by simp [allWr, keys, Res.wr]) ?_
 repeat' (first | omega | assumption | (show AL.ahead _ _ _ = true; rfl) | (first | apply brF | apply brT | apply brVF | apply brVT) <;> intro _ | (with_reducible refine And.intro ?_ ?_) | (refine callK_by (hsm _) ?_) | (simp -dsimp -implicitDefEqProofs only [go_sem, refA]))
 all_goals rfl
end Go.Proofs.YtaghcjbpjnpkbaaGreat

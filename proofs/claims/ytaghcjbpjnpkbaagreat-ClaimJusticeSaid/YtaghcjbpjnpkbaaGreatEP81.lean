/-
 Boards: locked, held, let go, asked for, taken, proved, settled.
-/
import Derived.Test.YtaghcjbpjnpkbaaGreatEP94
set_option linter.unusedSimpArgs false
set_option linter.unusedVariables false
set_option maxRecDepth 100000
set_option maxHeartbeats 8000000
namespace Go.Proofs.YtaghcjbpjnpkbaaGreat
open Go Go.AL Go.Proofs.YtaghcjbpjnpkbaaGreat.T
noncomputable abbrev twO (t : Int) (ts : List (Int × Tw_)) : Tw_ := (lookM t ts).getD twZ
noncomputable abbrev hdO (t c : Int) (hs : List ((Int × Int) × Hold_)) : Hold_ := (lookM (t, c) hs).getD hdZ
noncomputable def lockF (t n : Int) (root : Sum) (ts : List (Int × Tw_)) : Int × List (Int × Tw_) :=
 @ite _ (t < 0 ∨ 16 ≤ t ∨ n < 1 ∨ root = zeroS) (Classical.propDecidable _) (1, ts)
  (@ite _ ((lookM t ts).isSome = true ∧ (twO t ts).root ≠ root) (Classical.propDecidable _) (8, ts)
   (if (addF 0 [totT ts, n]).2 ≠ 0 then ((addF 0 [totT ts, n]).2, ts) else (0, setM t ⟨root, w64 ((twO t ts).locked + n), (twO t ts).asked, (twO t ts).at_⟩ ts)))
noncomputable def holdF (t : Int) (c : Chan) (ts : List (Int × Tw_)) (hs : List ((Int × Int) × Hold_)) : Int × List ((Int × Int) × Hold_) :=
 if ¬ (0 ≤ c.cap ∧ c.cap ≤ 1125899906842624) ∨ c.cap < 1 then (1, hs)
 else if (lookM t ts).isSome = false then (21, hs)
 else if (lookM (t, c.id) hs).isSome = true then (8, hs)
 else if freeT t ts hs < c.cap then (20, hs)
 else (0, setM (t, c.id) ⟨c, c.cap, false, 0, zeroS⟩ hs)
noncomputable def letF (t c : Int) (hs : List ((Int × Int) × Hold_)) : Int × List ((Int × Int) × Hold_) :=
 if (lookM (t, c) hs).isSome = false then (7, hs) else if (hdO t c hs).proved = true then (9, hs) else (0, delM (t, c) hs)
noncomputable def askF (t n h : Int) (ts : List (Int × Tw_)) (hs : List ((Int × Int) × Hold_)) : Int × List (Int × Tw_) :=
 if (lookM t ts).isSome = false then (21, ts) else if 0 < (twO t ts).asked then (9, ts)
 else if n < 1 ∨ freeT t ts hs < n then (20, ts) else (0, setM t ⟨(twO t ts).root, (twO t ts).locked, n, h⟩ ts)
noncomputable def takeF (t h : Int) (ts : List (Int × Tw_)) : (Int × Int) × List (Int × Tw_) :=
 if (lookM t ts).isSome = false then ((0, 21), ts) else if (twO t ts).asked = 0 then ((0, 7), ts)
 else if w64 (h - (twO t ts).at_) < 12 then ((0, 17), ts) else (((twO t ts).asked, 0), setM t ⟨(twO t ts).root, w64 ((twO t ts).locked - (twO t ts).asked), 0, 0⟩ ts)
noncomputable def proveF (t c h : Int) (m : Sum) (hs : List ((Int × Int) × Hold_)) : Int × List ((Int × Int) × Hold_) :=
 if (lookM (t, c) hs).isSome = false then (7, hs) else if (hdO t c hs).proved = true then (9, hs)
 else (0, setM (t, c) ⟨(hdO t c hs).chan, (hdO t c hs).amount, true, h, m⟩ hs)
noncomputable def settleF (t c h : Int) (ts : List (Int × Tw_)) (hs : List ((Int × Int) × Hold_)) : (Int × Int) × List (Int × Tw_) × List ((Int × Int) × Hold_) :=
 if (lookM (t, c) hs).isSome = false ∨ (hdO t c hs).proved = false then ((0, 7), ts, hs)
 else if w64 (h - (hdO t c hs).at_) < 3 then ((0, 17), ts, hs)
 else (((hdO t c hs).amount, 0), setM t ⟨(twO t ts).root, w64 ((twO t ts).locked - (hdO t c hs).amount), (twO t ts).asked, (twO t ts).at_⟩ ts, delM (t, c) hs)
attribute [local go_sem] nb_u8s u8s_length nb_sum List.length_replicate zero_sum sum_h u8s_nil towA_good towA_agg towA_csz holdA_good holdA_agg holdA_csz nbK_int nbK_pair nbV_tow nbV_hold nb_tow nb_hold kk_int kk_pair k2_pair o_some o_none Option.getD_some Option.getD_none Option.isSome_some Option.isSome_none sum_csz sum_agg sumA_good
theorem let_spec (nx b tm hm : Nat) (ts : List (Int × Tw_)) (hs : List ((Int × Int) × Hold_)) (hb : b < nx) (ht : tm < nx) (hh : hm < nx) (h1 : b < tm) (h2 : tm < hm) (t c : Int) : FnSpec Tryz.prog 104 nx [.ref b 0 [], n64 t, n64 c] [(b, some (.robj (boardA tm hm))), (hm, some (.mp (holdsE hs)))] (n64 (letF t c hs).1) [(hm, some (.mp (holdsE (letF t c hs).2)))] 0 := by
 have x1 := ltF hb
 have x3 := ltF hh
 have y2 := neF (show b ≠ hm by omega)
 have hl := fun nc (q1 : b < nc) (q2 : hm < nc) => bholds_spec nc b tm hm hs t c q1 q2 (by omega)
 simp only [optH_eq] at hl
 have hdel : delA (.vec 1 [n64 t, n64 c]) (holdsE hs) = holdsE (delM (t, c) hs) := delA_enc (vA := holdA) pairKA_inj (t, c) hs
 rcases Bool.eq_false_or_eq_true (lookM (t, c) hs).isSome with c1 | c1
 ·rcases Bool.eq_false_or_eq_true (hdO t c hs).proved with c2 | c2
  ·have e : letF t c hs = (9, hs) := by unfold letF; rw [if_neg (by rw [c1]; decide), if_pos c2]
   rw [e]
   refine FnSpec.of_code (cx := cx) (an := {}) (rs := [.tmp 6]) mo Tryz.func104 rfl rfl (by kernel_rfl) (by kernel_rfl) (by show 3 ≤ _; decide) (.inl rfl) (by simp [allWr, keys, Res.wr]) ?_
   repeat' (first | omega | assumption | (show AL.ahead _ _ _ = true; rfl) | (first | apply brF | apply brT | apply brVF | apply brVT) <;> intro _ | (with_reducible refine And.intro ?_ ?_) | (refine callK_by (hl _ (by omega) (by omega)) ?_) | (simp -dsimp -implicitDefEqProofs only [go_sem, x1, x3, y2, c1, c2, holdA, chanA, refA]))
  ·have e : letF t c hs = (0, delM (t, c) hs) := by unfold letF; rw [if_neg (by rw [c1]; decide), if_neg (by rw [c2]; decide)]
   rw [e]
   refine FnSpec.of_code (cx := cx) (an := {}) (rs := [.tmp 6]) mo Tryz.func104 rfl rfl (by kernel_rfl) (by kernel_rfl) (by show 3 ≤ _; decide) (.inl rfl) (by simp [allWr, keys, Res.wr]) ?_
   repeat' (first | omega | assumption | (show AL.ahead _ _ _ = true; rfl) | (first | apply brF | apply brT | apply brVF | apply brVT) <;> intro _ | (with_reducible refine And.intro ?_ ?_) | (refine callK_by (hl _ (by omega) (by omega)) ?_) | (simp -dsimp -implicitDefEqProofs only [go_sem, x1, x3, y2, c1, c2, holdA, chanA, refA, hdel, boardA, rep2, List.set_cons_zero, List.set_cons_succ]))
 ·have e : letF t c hs = (7, hs) := by unfold letF; rw [if_pos c1]
  rw [e]
  refine FnSpec.of_code (cx := cx) (an := {}) (rs := [.tmp 6]) mo Tryz.func104 rfl rfl (by kernel_rfl) (by kernel_rfl) (by show 3 ≤ _; decide) (.inl rfl) (by simp [allWr, keys, Res.wr]) ?_
  repeat' (first | omega | assumption | (show AL.ahead _ _ _ = true; rfl) | (first | apply brF | apply brT | apply brVF | apply brVT) <;> intro _ | (with_reducible refine And.intro ?_ ?_) | (refine callK_by (hl _ (by omega) (by omega)) ?_) | (simp -dsimp -implicitDefEqProofs only [go_sem, x1, x3, y2, c1, holdA, chanA, refA]))
theorem ask_spec (nx b tm hm : Nat) (ts : List (Int × Tw_)) (hs : List ((Int × Int) × Hold_)) (hb : b < nx) (ht : tm < nx) (hh : hm < nx) (h1 : b < tm) (h2 : tm < hm) (t n h : Int) : FnSpec Tryz.prog 105 nx [.ref b 0 [], n64 t, n64 n, n64 h] [(b, some (.robj (boardA tm hm))), (tm, some (.mp (towsE ts))), (hm, some (.rmp (holdsE hs)))] (n64 (askF t n h ts hs).1) [(tm, some (.mp (towsE (askF t n h ts hs).2)))] 0 := by
 have x1 := ltF hb
 have x2 := ltF ht
 have x3 := ltF hh
 have y1 := neF (show b ≠ tm by omega)
 have y2 := neF (show b ≠ hm by omega)
 have y3 := neF (show tm ≠ hm by omega)
 have hl := fun nc (q1 : b < nc) (q2 : tm < nc) => bget_spec nc b tm hm ts t q1 q2 (by omega)
 simp only [optT_eq] at hl
 have hf := fun nc (q1 : b < nc) (q2 : tm < nc) (q3 : hm < nc) => bfree_spec nc b tm hm ts hs t q1 q2 q3 (by omega) (by omega) (by omega)
 have hset := fun r l a m => setA_enc (vA := towA) n64_inj t (⟨r, l, a, m⟩ : Tw_) ts
 rcases Bool.eq_false_or_eq_true (lookM t ts).isSome with c1 | c1
 ·by_cases c2 : 0 < (twO t ts).asked
  ·have e : askF t n h ts hs = (9, ts) := by unfold askF; rw [if_neg (by rw [c1]; decide), if_pos c2]
   rw [e]
   refine FnSpec.of_code (cx := cx) (an := {}) (rs := [.tmp 8]) mo Tryz.func105 rfl rfl (by kernel_rfl) (by kernel_rfl) (by show 4 ≤ _; decide) (.inl rfl) (by simp [allWr, keys, Res.wr]) ?_
   repeat' (first | omega | assumption | (show AL.ahead _ _ _ = true; rfl) | (first | apply brF | apply brT | apply brVF | apply brVT) <;> intro _ | (with_reducible refine And.intro ?_ ?_) | (refine callK_by (hl _ (by omega) (by omega)) ?_) | (simp -dsimp -implicitDefEqProofs only [go_sem, x1, x2, x3, y1, y2, y3, c1, c2, towA]))
  ·by_cases c3 : n < 1 ∨ freeT t ts hs < n
   ·have e : askF t n h ts hs = (20, ts) := by unfold askF; rw [if_neg (by rw [c1]; decide), if_neg c2, if_pos c3]
    rw [e]
    by_cases c4 : n < 1
    ·refine FnSpec.of_code (cx := cx) (an := {}) (rs := [.tmp 8]) mo Tryz.func105 rfl rfl (by kernel_rfl) (by kernel_rfl) (by show 4 ≤ _; decide) (.inl rfl) (by simp [allWr, keys, Res.wr]) ?_
     repeat' (first | omega | assumption | (show AL.ahead _ _ _ = true; rfl) | (first | apply brF | apply brT | apply brVF | apply brVT) <;> intro _ | (with_reducible refine And.intro ?_ ?_) | (refine callK_by (hl _ (by omega) (by omega)) ?_) | (refine callK_by (hf _ (by omega) (by omega) (by omega)) ?_) | (simp -dsimp -implicitDefEqProofs only [go_sem, x1, x2, x3, y1, y2, y3, c1, c2, c4, towA]))
    ·have c5 := c3.resolve_left c4
     refine FnSpec.of_code (cx := cx) (an := {}) (rs := [.tmp 8]) mo Tryz.func105 rfl rfl (by kernel_rfl) (by kernel_rfl) (by show 4 ≤ _; decide) (.inl rfl) (by simp [allWr, keys, Res.wr]) ?_
     repeat' (first | omega | assumption | (show AL.ahead _ _ _ = true; rfl) | (first | apply brF | apply brT | apply brVF | apply brVT) <;> intro _ | (with_reducible refine And.intro ?_ ?_) | (refine callK_by (hl _ (by omega) (by omega)) ?_) | (refine callK_by (hf _ (by omega) (by omega) (by omega)) ?_) | (simp -dsimp -implicitDefEqProofs only [go_sem, x1, x2, x3, y1, y2, y3, c1, c2, c4, c5, gt_iff_lt, towA]))
   ·have e : askF t n h ts hs = (0, setM t ⟨(twO t ts).root, (twO t ts).locked, n, h⟩ ts) := by unfold askF; rw [if_neg (by rw [c1]; decide), if_neg c2, if_neg c3]
    rw [e]
    have c4 : ¬ n < 1 := fun q => c3 (.inl q)
    have c5 : ¬ freeT t ts hs < n := fun q => c3 (.inr q)
    simp only [towA] at hset
    refine FnSpec.of_code (cx := cx) (an := {}) (rs := [.tmp 8]) mo Tryz.func105 rfl rfl (by kernel_rfl) (by kernel_rfl) (by show 4 ≤ _; decide) (.inl rfl) (by simp [allWr, keys, Res.wr]) ?_
    repeat' (first | omega | assumption | (show AL.ahead _ _ _ = true; rfl) | (first | apply brF | apply brT | apply brVF | apply brVT) <;> intro _ | (with_reducible refine And.intro ?_ ?_) | (refine callK_by (hl _ (by omega) (by omega)) ?_) | (refine callK_by (hf _ (by omega) (by omega) (by omega)) ?_) | (simp -dsimp -implicitDefEqProofs only [go_sem, x1, x2, x3, y1, y2, y3, c1, c2, c4, c5, gt_iff_lt, towA, boardA, hset]))
 ·have e : askF t n h ts hs = (21, ts) := by unfold askF; rw [if_pos c1]
  rw [e]
  refine FnSpec.of_code (cx := cx) (an := {}) (rs := [.tmp 8]) mo Tryz.func105 rfl rfl (by kernel_rfl) (by kernel_rfl) (by show 4 ≤ _; decide) (.inl rfl) (by simp [allWr, keys, Res.wr]) ?_
  repeat' (first | omega | assumption | (show AL.ahead _ _ _ = true; rfl) | (first | apply brF | apply brT | apply brVF | apply brVT) <;> intro _ | (with_reducible refine And.intro ?_ ?_) | (refine callK_by (hl _ (by omega) (by omega)) ?_) | (simp -dsimp -implicitDefEqProofs only [go_sem, x1, x2, x3, y1, y2, y3, c1, towA]))
theorem take_spec (nx b tm hm : Nat) (ts : List (Int × Tw_)) (hs : List ((Int × Int) × Hold_)) (hb : b < nx) (ht : tm < nx) (hh : hm < nx) (h1 : b < tm) (h2 : tm < hm) (t h : Int) : FnSpec Tryz.prog 106 nx [.ref b 0 [], n64 t, n64 h] [(b, some (.robj (boardA tm hm))), (tm, some (.mp (towsE ts)))] (.tup [n64 (takeF t h ts).1.1, n64 (takeF t h ts).1.2]) [(tm, some (.mp (towsE (takeF t h ts).2)))] 0 := by
 have x1 := ltF hb
 have x2 := ltF ht
 have y1 := neF (show b ≠ tm by omega)
 have hl := fun nc (q1 : b < nc) (q2 : tm < nc) => bget_spec nc b tm hm ts t q1 q2 (by omega)
 simp only [optT_eq] at hl
 have hset := fun r l a m => setA_enc (vA := towA) n64_inj t (⟨r, l, a, m⟩ : Tw_) ts
 rcases Bool.eq_false_or_eq_true (lookM t ts).isSome with c1 | c1
 ·by_cases c2 : (twO t ts).asked = 0
  ·have e : takeF t h ts = ((0, 7), ts) := by unfold takeF; rw [if_neg (by rw [c1]; decide), if_pos c2]
   rw [e]
   refine FnSpec.of_code (cx := cx) (an := {}) (rs := [.tmp 6, .tmp 7]) mo Tryz.func106 rfl rfl (by kernel_rfl) (by kernel_rfl) (by show 3 ≤ _; decide) (.inr ⟨_, rfl, by simp [AV.good]⟩) (by simp [allWr, keys, Res.wr]) ?_
   repeat' (first | omega | assumption | (show AL.ahead _ _ _ = true; rfl) | (first | apply brF | apply brT | apply brVF | apply brVT) <;> intro _ | (with_reducible refine And.intro ?_ ?_) | (refine callK_by (hl _ (by omega) (by omega)) ?_) | (simp -dsimp -implicitDefEqProofs only [go_sem, x1, x2, y1, c1, c2, towA]))
  ·by_cases c3 : w64 (h - (twO t ts).at_) < 12
   ·have e : takeF t h ts = ((0, 17), ts) := by unfold takeF; rw [if_neg (by rw [c1]; decide), if_neg c2, if_pos c3]
    rw [e]
    refine FnSpec.of_code (cx := cx) (an := {}) (rs := [.tmp 6, .tmp 7]) mo Tryz.func106 rfl rfl (by kernel_rfl) (by kernel_rfl) (by show 3 ≤ _; decide) (.inr ⟨_, rfl, by simp [AV.good]⟩) (by simp [allWr, keys, Res.wr]) ?_
    repeat' (first | omega | assumption | (show AL.ahead _ _ _ = true; rfl) | (first | apply brF | apply brT | apply brVF | apply brVT) <;> intro _ | (with_reducible refine And.intro ?_ ?_) | (refine callK_by (hl _ (by omega) (by omega)) ?_) | (simp -dsimp -implicitDefEqProofs only [go_sem, x1, x2, y1, c1, c2, c3, towA]))
   ·have e : takeF t h ts = (((twO t ts).asked, 0), setM t ⟨(twO t ts).root, w64 ((twO t ts).locked - (twO t ts).asked), 0, 0⟩ ts) := by unfold takeF; rw [if_neg (by rw [c1]; decide), if_neg c2, if_neg c3]
    rw [e]
    simp only [towA] at hset
    refine FnSpec.of_code (cx := cx) (an := {}) (rs := [.tmp 6, .tmp 7]) mo Tryz.func106 rfl rfl (by kernel_rfl) (by kernel_rfl) (by show 3 ≤ _; decide) (.inr ⟨_, rfl, by simp [AV.good]⟩) (by simp [allWr, keys, Res.wr]) ?_
    repeat' (first | omega | assumption | (show AL.ahead _ _ _ = true; rfl) | (first | apply brF | apply brT | apply brVF | apply brVT) <;> intro _ | (with_reducible refine And.intro ?_ ?_) | (refine callK_by (hl _ (by omega) (by omega)) ?_) | (simp -dsimp -implicitDefEqProofs only [go_sem, x1, x2, y1, c1, c2, c3, towA, boardA, hset]))
 ·have e : takeF t h ts = ((0, 21), ts) := by unfold takeF; rw [if_pos c1]
  rw [e]
  refine FnSpec.of_code (cx := cx) (an := {}) (rs := [.tmp 6, .tmp 7]) mo Tryz.func106 rfl rfl (by kernel_rfl) (by kernel_rfl) (by show 3 ≤ _; decide) (.inr ⟨_, rfl, by simp [AV.good]⟩) (by simp [allWr, keys, Res.wr]) ?_
  repeat' (first | omega | assumption | (show AL.ahead _ _ _ = true; rfl) | (first | apply brF | apply brT | apply brVF | apply brVT) <;> intro _ | (with_reducible refine And.intro ?_ ?_) | (refine callK_by (hl _ (by omega) (by omega)) ?_) | (simp -dsimp -implicitDefEqProofs only [go_sem, x1, x2, y1, c1, towA]))
theorem bprove_spec (nx b tm hm : Nat) (ts : List (Int × Tw_)) (hs : List ((Int × Int) × Hold_)) (hb : b < nx) (ht : tm < nx) (hh : hm < nx) (h1 : b < tm) (h2 : tm < hm) (t c h : Int) (m : Sum) : FnSpec Tryz.prog 143 nx [.ref b 0 [], n64 t, n64 c, n64 h, sumA m] [(b, some (.robj (boardA tm hm))), (hm, some (.mp (holdsE hs)))] (n64 (proveF t c h m hs).1) [(hm, some (.mp (holdsE (proveF t c h m hs).2)))] 0 := by
 have x1 := ltF hb
 have x3 := ltF hh
 have y2 := neF (show b ≠ hm by omega)
 have hl := fun nc (q1 : b < nc) (q2 : hm < nc) => bholds_spec nc b tm hm hs t c q1 q2 (by omega)
 simp only [optH_eq] at hl
 have hset := setA_enc (vA := holdA) pairKA_inj (t, c) (⟨(hdO t c hs).chan, (hdO t c hs).amount, true, h, m⟩ : Hold_) hs
 simp only [pairKA, holdA, chanA, refA] at hset
 rcases Bool.eq_false_or_eq_true (lookM (t, c) hs).isSome with c1 | c1
 ·rcases Bool.eq_false_or_eq_true (hdO t c hs).proved with c2 | c2
  ·have e : proveF t c h m hs = (9, hs) := by unfold proveF; rw [if_neg (by rw [c1]; decide), if_pos c2]
   rw [e]
   refine FnSpec.of_code (cx := cx) (an := {}) (rs := [.tmp 10]) mo Tryz.func143 rfl rfl (by kernel_rfl) (by kernel_rfl) (by show 5 ≤ _; decide) (.inl rfl) (by simp [allWr, keys, Res.wr]) ?_
   repeat' (first | omega | assumption | (show AL.ahead _ _ _ = true; rfl) | (first | apply brF | apply brT | apply brVF | apply brVT) <;> intro _ | (with_reducible refine And.intro ?_ ?_) | (refine callK_by (hl _ (by omega) (by omega)) ?_) | (simp -dsimp -implicitDefEqProofs only [go_sem, x1, x3, y2, c1, c2, holdA, chanA, refA]))
  ·have e : proveF t c h m hs = (0, setM (t, c) ⟨(hdO t c hs).chan, (hdO t c hs).amount, true, h, m⟩ hs) := by unfold proveF; rw [if_neg (by rw [c1]; decide), if_neg (by rw [c2]; decide)]
   rw [e]
   refine FnSpec.of_code (cx := cx) (an := {}) (rs := [.tmp 10]) mo Tryz.func143 rfl rfl (by kernel_rfl) (by kernel_rfl) (by show 5 ≤ _; decide) (.inl rfl) (by simp [allWr, keys, Res.wr]) ?_
   repeat' (first | omega | assumption | (show AL.ahead _ _ _ = true; rfl) | (first | apply brF | apply brT | apply brVF | apply brVT) <;> intro _ | (with_reducible refine And.intro ?_ ?_) | (refine callK_by (hl _ (by omega) (by omega)) ?_) | (simp -dsimp -implicitDefEqProofs only [go_sem, x1, x3, y2, c1, c2, holdA, chanA, refA, hset, boardA, rep2, List.set_cons_zero, List.set_cons_succ]))
 ·have e : proveF t c h m hs = (7, hs) := by unfold proveF; rw [if_pos c1]
  rw [e]
  refine FnSpec.of_code (cx := cx) (an := {}) (rs := [.tmp 10]) mo Tryz.func143 rfl rfl (by kernel_rfl) (by kernel_rfl) (by show 5 ≤ _; decide) (.inl rfl) (by simp [allWr, keys, Res.wr]) ?_
  repeat' (first | omega | assumption | (show AL.ahead _ _ _ = true; rfl) | (first | apply brF | apply brT | apply brVF | apply brVT) <;> intro _ | (with_reducible refine And.intro ?_ ?_) | (refine callK_by (hl _ (by omega) (by omega)) ?_) | (simp -dsimp -implicitDefEqProofs only [go_sem, x1, x3, y2, c1, holdA, chanA, refA]))
theorem bsettle_spec (nx b tm hm : Nat) (ts : List (Int × Tw_)) (hs : List ((Int × Int) × Hold_)) (hb : b < nx) (ht : tm < nx) (hh : hm < nx) (h1 : b < tm) (h2 : tm < hm) (t c h : Int) : FnSpec Tryz.prog 144 nx [.ref b 0 [], n64 t, n64 c, n64 h] [(b, some (.robj (boardA tm hm))), (tm, some (.mp (towsE ts))), (hm, some (.mp (holdsE hs)))] (.tup [n64 (settleF t c h ts hs).1.1, n64 (settleF t c h ts hs).1.2]) [(tm, some (.mp (towsE (settleF t c h ts hs).2.1))), (hm, some (.mp (holdsE (settleF t c h ts hs).2.2)))] 0 := by
 have x1 := ltF hb
 have x2 := ltF ht
 have x3 := ltF hh
 have y1 := neF (show b ≠ tm by omega)
 have y2 := neF (show b ≠ hm by omega)
 have y3 := neF (show tm ≠ hm by omega)
 have hl := fun nc (q1 : b < nc) (q2 : hm < nc) => bholds_spec nc b tm hm hs t c q1 q2 (by omega)
 simp only [optH_eq] at hl
 have hset := setA_enc (vA := towA) n64_inj t (⟨(twO t ts).root, w64 ((twO t ts).locked - (hdO t c hs).amount), (twO t ts).asked, (twO t ts).at_⟩ : Tw_) ts
 simp only [towA] at hset
 have hdel : delA (.vec 1 [n64 t, n64 c]) (holdsE hs) = holdsE (delM (t, c) hs) := delA_enc (vA := holdA) pairKA_inj (t, c) hs
 have hlk : (lookA (n64 t) (towsE ts)).getD (towA twZ) = towA (twO t ts) := by
  rw [lookA_enc n64_inj]
  unfold twO
  cases lookM t ts <;> rfl
 simp only [towA, twZ] at hlk
 rcases Bool.eq_false_or_eq_true (lookM (t, c) hs).isSome with c1 | c1
 ·rcases Bool.eq_false_or_eq_true (hdO t c hs).proved with c2 | c2
  ·by_cases c3 : w64 (h - (hdO t c hs).at_) < 3
   ·have e : settleF t c h ts hs = ((0, 17), ts, hs) := by unfold settleF; rw [if_neg (by rw [c1, c2]; decide), if_pos c3]
    rw [e]
    refine FnSpec.of_code (cx := cx) (an := {}) (rs := [.tmp 8, .tmp 9]) mo Tryz.func144 rfl rfl (by kernel_rfl) (by kernel_rfl) (by show 4 ≤ _; decide) (.inr ⟨_, rfl, by simp [AV.good]⟩) (by simp [allWr, keys, Res.wr]) ?_
    repeat' (first | omega | assumption | (show AL.ahead _ _ _ = true; rfl) | (first | apply brF | apply brT | apply brVF | apply brVT) <;> intro _ | (with_reducible refine And.intro ?_ ?_) | (refine callK_by (hl _ (by omega) (by omega)) ?_) | (simp -dsimp -implicitDefEqProofs only [go_sem, x1, x2, x3, y1, y2, y3, c1, c2, c3, holdA, chanA, refA]))
   ·have e : settleF t c h ts hs = (((hdO t c hs).amount, 0), setM t ⟨(twO t ts).root, w64 ((twO t ts).locked - (hdO t c hs).amount), (twO t ts).asked, (twO t ts).at_⟩ ts, delM (t, c) hs) := by unfold settleF; rw [if_neg (by rw [c1, c2]; decide), if_neg c3]
    rw [e]
    refine FnSpec.of_code (cx := cx) (an := {}) (rs := [.tmp 8, .tmp 9]) mo Tryz.func144 rfl rfl (by kernel_rfl) (by kernel_rfl) (by show 4 ≤ _; decide) (.inr ⟨_, rfl, by simp [AV.good]⟩) (by simp [allWr, keys, Res.wr]) ?_
    repeat' (first | omega | assumption | (show AL.ahead _ _ _ = true; rfl) | (first | apply brF | apply brT | apply brVF | apply brVT) <;> intro _ | (with_reducible refine And.intro ?_ ?_) | (refine callK_by (hl _ (by omega) (by omega)) ?_) | (simp -dsimp -implicitDefEqProofs only [go_sem, x1, x2, x3, y1, y2, y3, c1, c2, c3, holdA, chanA, refA, hlk, hset, hdel, boardA, rep2, List.set_cons_zero, List.set_cons_succ]))
  ·have e : settleF t c h ts hs = ((0, 7), ts, hs) := by unfold settleF; rw [if_pos (.inr c2)]
   rw [e]
   refine FnSpec.of_code (cx := cx) (an := {}) (rs := [.tmp 8, .tmp 9]) mo Tryz.func144 rfl rfl (by kernel_rfl) (by kernel_rfl) (by show 4 ≤ _; decide) (.inr ⟨_, rfl, by simp [AV.good]⟩) (by simp [allWr, keys, Res.wr]) ?_
   repeat' (first | omega | assumption | (show AL.ahead _ _ _ = true; rfl) | (first | apply brF | apply brT | apply brVF | apply brVT) <;> intro _ | (with_reducible refine And.intro ?_ ?_) | (refine callK_by (hl _ (by omega) (by omega)) ?_) | (simp -dsimp -implicitDefEqProofs only [go_sem, x1, x2, x3, y1, y2, y3, c1, c2, holdA, chanA, refA]))
 ·have e : settleF t c h ts hs = ((0, 7), ts, hs) := by unfold settleF; rw [if_pos (.inl c1)]
  rw [e]
  refine FnSpec.of_code (cx := cx) (an := {}) (rs := [.tmp 8, .tmp 9]) mo Tryz.func144 rfl rfl (by kernel_rfl) (by kernel_rfl) (by show 4 ≤ _; decide) (.inr ⟨_, rfl, by simp [AV.good]⟩) (by simp [allWr, keys, Res.wr]) ?_
  repeat' (first | omega | assumption | (show AL.ahead _ _ _ = true; rfl) | (first | apply brF | apply brT | apply brVF | apply brVT) <;> intro _ | (with_reducible refine And.intro ?_ ?_) | (refine callK_by (hl _ (by omega) (by omega)) ?_) | (simp -dsimp -implicitDefEqProofs only [go_sem, x1, x2, x3, y1, y2, y3, c1, holdA, chanA, refA]))
end Go.Proofs.YtaghcjbpjnpkbaaGreat

namespace Go.Proofs.YtaghcjbpjnpkbaaGreat
open Go Go.AL Go.Proofs.YtaghcjbpjnpkbaaGreat.T
attribute [local go_sem] nb_u8s u8s_length nb_sum List.length_replicate zero_sum sum_h u8s_nil towA_good towA_agg towA_csz holdA_good holdA_agg holdA_csz nbK_int nbK_pair nbV_tow nbV_hold nb_tow nb_hold kk_int kk_pair k2_pair o_some o_none Option.getD_some Option.getD_none Option.isSome_some Option.isSome_none sum_csz sum_agg sumA_good
theorem lockErr_spec (nx b tm hm : Nat) (ts : List (Int × Tw_)) (hs : List ((Int × Int) × Hold_)) (hb : b < nx) (ht : tm < nx) (hh : hm < nx) (h1 : b < tm) (h2 : tm < hm) (t n : Int) (root : Sum) (h : t < 0 ∨ 16 ≤ t ∨ n < 1 ∨ root = zeroS) : FnSpec Tryz.prog 101 nx [.ref b 0 [], n64 t, n64 n, sumA root] [(b, some (.robj (boardA tm hm))), (tm, some (.mp (towsE ts)))] (n64 1) [(tm, some (.mp (towsE ts)))] 0 := by
 have x1 := ltF hb
 have x2 := ltF ht
 have y1 := neF (show b ≠ tm by omega)
 by_cases c1 : t < 0
 ·refine FnSpec.of_code (cx := cx) (an := {}) (rs := [.tmp 8]) mo Tryz.func101 rfl rfl (by kernel_rfl) (by kernel_rfl) (by show 4 ≤ _; decide) (.inl rfl) (by simp [allWr, keys, Res.wr]) ?_
  repeat' (first | omega | assumption | (show AL.ahead _ _ _ = true; rfl) | (first | apply brF | apply brT | apply brVF | apply brVT) <;> intro _ | (with_reducible refine And.intro ?_ ?_) | (refine callK_by (bnone2_spec _ b tm hm (by omega)) ?_) | (simp -dsimp -implicitDefEqProofs only [go_sem, x1, x2, y1, c1]))
 ·by_cases c2 : 16 ≤ t
  ·refine FnSpec.of_code (cx := cx) (an := {}) (rs := [.tmp 8]) mo Tryz.func101 rfl rfl (by kernel_rfl) (by kernel_rfl) (by show 4 ≤ _; decide) (.inl rfl) (by simp [allWr, keys, Res.wr]) ?_
   repeat' (first | omega | assumption | (show AL.ahead _ _ _ = true; rfl) | (first | apply brF | apply brT | apply brVF | apply brVT) <;> intro _ | (with_reducible refine And.intro ?_ ?_) | (refine callK_by (bnone2_spec _ b tm hm (by omega)) ?_) | (simp -dsimp -implicitDefEqProofs only [go_sem, x1, x2, y1, c1, c2, ge_iff_le]))
  ·by_cases c3 : n < 1
   ·refine FnSpec.of_code (cx := cx) (an := {}) (rs := [.tmp 8]) mo Tryz.func101 rfl rfl (by kernel_rfl) (by kernel_rfl) (by show 4 ≤ _; decide) (.inl rfl) (by simp [allWr, keys, Res.wr]) ?_
    repeat' (first | omega | assumption | (show AL.ahead _ _ _ = true; rfl) | (first | apply brF | apply brT | apply brVF | apply brVT) <;> intro _ | (with_reducible refine And.intro ?_ ?_) | (refine callK_by (bnone2_spec _ b tm hm (by omega)) ?_) | (simp -dsimp -implicitDefEqProofs only [go_sem, x1, x2, y1, c1, c2, c3, ge_iff_le]))
   ·have c4 : root = zeroS := by rcases h with h | h | h | h <;> first | exact h | omega
    have e1 : eqB (AV.vec 1 (u8s root.b)) (AV.vec 1 (u8s zeroS.b)) = true := by rw [c4]; exact eqB_yes rfl
    refine FnSpec.of_code (cx := cx) (an := {}) (rs := [.tmp 8]) mo Tryz.func101 rfl rfl (by kernel_rfl) (by kernel_rfl) (by show 4 ≤ _; decide) (.inl rfl) (by simp [allWr, keys, Res.wr]) ?_
    repeat' (first | omega | assumption | (show AL.ahead _ _ _ = true; rfl) | (first | apply brF | apply brT | apply brVF | apply brVT) <;> intro _ | (with_reducible refine And.intro ?_ ?_) | (refine callK_by (bnone2_spec _ b tm hm (by omega)) ?_) | (simp -dsimp -implicitDefEqProofs only [go_sem, x1, x2, y1, c1, c2, c3, ge_iff_le, sumA, e1, ↓cmp_sum, isSumT, decide_eq_true_eq, Bool.and_self]))
theorem lock_spec (nx b tm hm : Nat) (ts : List (Int × Tw_)) (hs : List ((Int × Int) × Hold_)) (hb : b < nx) (ht : tm < nx) (hh : hm < nx) (h1 : b < tm) (h2 : tm < hm) (t n : Int) (root : Sum) : FnSpec Tryz.prog 101 nx [.ref b 0 [], n64 t, n64 n, sumA root] [(b, some (.robj (boardA tm hm))), (tm, some (.mp (towsE ts)))] (n64 (lockF t n root ts).1) [(tm, some (.mp (towsE (lockF t n root ts).2)))] 0 := by
 by_cases c0 : t < 0 ∨ 16 ≤ t ∨ n < 1 ∨ root = zeroS
 ·have e : lockF t n root ts = (1, ts) := by unfold lockF; rw [if_pos c0]
  rw [e]
  exact lockErr_spec nx b tm hm ts hs hb ht hh h1 h2 t n root c0
 ·have c1 : ¬ t < 0 := fun q => c0 (.inl q)
  have c2 : ¬ 16 ≤ t := fun q => c0 (.inr (.inl q))
  have c3 : ¬ n < 1 := fun q => c0 (.inr (.inr (.inl q)))
  have c4 : ¬ root = zeroS := fun q => c0 (.inr (.inr (.inr q)))
  have e1 : eqB (AV.vec 1 (u8s root.b)) (AV.vec 1 (u8s zeroS.b)) = false := eqB_no (fun q => c4 (sumA_inj _ _ q))
  have x1 := ltF hb
  have x2 := ltF ht
  have y1 := neF (show b ≠ tm by omega)
  have hset := fun r l a m => setA_enc (vA := towA) n64_inj t (⟨r, l, a, m⟩ : Tw_) ts
  simp only [towA, sumA] at hset
  have htot := fun nc (q1 : b < nc) (q2 : tm < nc) => btotal_spec nc b tm hm ts q1 q2 (by omega)
  have had := fun nc => add_spec nc [totT ts, n] (by simp)
  simp only [vals, List.map_cons, List.map_nil] at had
  cases hl : lookM t ts with
  | none =>
   have htw : twO t ts = twZ := by simp [twO, hl]
   by_cases c6 : (addF 0 [totT ts, n]).2 = 0
   ·have e : lockF t n root ts = (0, setM t ⟨root, w64 (0 + n), 0, 0⟩ ts) := by unfold lockF; rw [if_neg c0, if_neg (by rw [hl]; simp), if_neg (fun q => q c6), htw]; rfl
    rw [e]
    rw [c6] at had
    refine FnSpec.of_code (cx := cx) (an := {}) (rs := [.tmp 8]) mo Tryz.func101 rfl rfl (by kernel_rfl) (by kernel_rfl) (by show 4 ≤ _; decide) (.inl rfl) (by simp [allWr, keys, Res.wr]) ?_
    repeat' (first | omega | assumption | (show AL.ahead _ _ _ = true; rfl) | (first | apply brF | apply brT | apply brVF | apply brVT) <;> intro _ | (with_reducible refine And.intro ?_ ?_) | (refine callK_by (bnone2_spec _ b tm hm (by omega)) ?_) | (refine callK_by (htot _ (by omega) (by omega)) ?_) | (refine callK_by (had _) ?_) | (simp -dsimp -implicitDefEqProofs only [go_sem, x1, x2, y1, c1, c2, c3, ge_iff_le, sumA, e1, ↓cmp_sum, isSumT, decide_eq_true_eq, Bool.and_self, hl, lookA_enc n64_inj, boardA, hset, Int.zero_add]))
   ·have e : lockF t n root ts = ((addF 0 [totT ts, n]).2, ts) := by unfold lockF; rw [if_neg c0, if_neg (by rw [hl]; simp), if_pos c6]
    rw [e]
    refine FnSpec.of_code (cx := cx) (an := {}) (rs := [.tmp 8]) mo Tryz.func101 rfl rfl (by kernel_rfl) (by kernel_rfl) (by show 4 ≤ _; decide) (.inl rfl) (by simp [allWr, keys, Res.wr]) ?_
    repeat' (first | omega | assumption | (show AL.ahead _ _ _ = true; rfl) | (first | apply brF | apply brT | apply brVF | apply brVT) <;> intro _ | (with_reducible refine And.intro ?_ ?_) | (refine callK_by (bnone2_spec _ b tm hm (by omega)) ?_) | (refine callK_by (htot _ (by omega) (by omega)) ?_) | (refine callK_by (had _) ?_) | (simp -dsimp -implicitDefEqProofs only [go_sem, x1, x2, y1, c1, c2, c3, c6, ge_iff_le, sumA, e1, ↓cmp_sum, isSumT, decide_eq_true_eq, Bool.and_self, hl, lookA_enc n64_inj, boardA]))
  | some w =>
   have htw : twO t ts = w := by simp [twO, hl]
   by_cases c5 : w.root = root
   ·have e2 : eqB (AV.vec 1 (u8s w.root.b)) (AV.vec 1 (u8s root.b)) = true := by rw [c5]; exact eqB_yes rfl
    by_cases c6 : (addF 0 [totT ts, n]).2 = 0
    ·have e : lockF t n root ts = (0, setM t ⟨root, w64 (w.locked + n), w.asked, w.at_⟩ ts) := by unfold lockF; rw [if_neg c0, if_neg (by rw [htw]; exact fun q => q.2 c5), if_neg (fun q => q c6), htw]
     rw [e]
     rw [c6] at had
     refine FnSpec.of_code (cx := cx) (an := {}) (rs := [.tmp 8]) mo Tryz.func101 rfl rfl (by kernel_rfl) (by kernel_rfl) (by show 4 ≤ _; decide) (.inl rfl) (by simp [allWr, keys, Res.wr]) ?_
     repeat' (first | omega | assumption | (show AL.ahead _ _ _ = true; rfl) | (first | apply brF | apply brT | apply brVF | apply brVT) <;> intro _ | (with_reducible refine And.intro ?_ ?_) | (refine callK_by (bnone2_spec _ b tm hm (by omega)) ?_) | (refine callK_by (htot _ (by omega) (by omega)) ?_) | (refine callK_by (had _) ?_) | (simp -dsimp -implicitDefEqProofs only [go_sem, x1, x2, y1, c1, c2, c3, ge_iff_le, towA, sumA, e1, e2, ↓cmp_sum, isSumT, decide_eq_true_eq, Bool.and_self, hl, lookA_enc n64_inj, boardA, hset]))
    ·have e : lockF t n root ts = ((addF 0 [totT ts, n]).2, ts) := by unfold lockF; rw [if_neg c0, if_neg (by rw [htw]; exact fun q => q.2 c5), if_pos c6]
     rw [e]
     refine FnSpec.of_code (cx := cx) (an := {}) (rs := [.tmp 8]) mo Tryz.func101 rfl rfl (by kernel_rfl) (by kernel_rfl) (by show 4 ≤ _; decide) (.inl rfl) (by simp [allWr, keys, Res.wr]) ?_
     repeat' (first | omega | assumption | (show AL.ahead _ _ _ = true; rfl) | (first | apply brF | apply brT | apply brVF | apply brVT) <;> intro _ | (with_reducible refine And.intro ?_ ?_) | (refine callK_by (bnone2_spec _ b tm hm (by omega)) ?_) | (refine callK_by (htot _ (by omega) (by omega)) ?_) | (refine callK_by (had _) ?_) | (simp -dsimp -implicitDefEqProofs only [go_sem, x1, x2, y1, c1, c2, c3, c6, ge_iff_le, towA, sumA, e1, e2, ↓cmp_sum, isSumT, decide_eq_true_eq, Bool.and_self, hl, lookA_enc n64_inj, boardA]))
   ·have e2 : eqB (AV.vec 1 (u8s w.root.b)) (AV.vec 1 (u8s root.b)) = false := eqB_no (fun q => c5 (sumA_inj _ _ q))
    have e : lockF t n root ts = (8, ts) := by unfold lockF; rw [if_neg c0, if_pos ⟨by rw [hl]; rfl, by rw [htw]; exact c5⟩]
    rw [e]
    refine FnSpec.of_code (cx := cx) (an := {}) (rs := [.tmp 8]) mo Tryz.func101 rfl rfl (by kernel_rfl) (by kernel_rfl) (by show 4 ≤ _; decide) (.inl rfl) (by simp [allWr, keys, Res.wr]) ?_
    repeat' (first | omega | assumption | (show AL.ahead _ _ _ = true; rfl) | (first | apply brF | apply brT | apply brVF | apply brVT) <;> intro _ | (with_reducible refine And.intro ?_ ?_) | (refine callK_by (bnone2_spec _ b tm hm (by omega)) ?_) | (simp -dsimp -implicitDefEqProofs only [go_sem, x1, x2, y1, c1, c2, c3, ge_iff_le, towA, sumA, e1, e2, ↓cmp_sum, isSumT, decide_eq_true_eq, Bool.and_self, hl, lookA_enc n64_inj, boardA]))
theorem hold_spec (nx b tm hm : Nat) (ts : List (Int × Tw_)) (hs : List ((Int × Int) × Hold_)) (hb : b < nx) (ht : tm < nx) (hh : hm < nx) (h1 : b < tm) (h2 : tm < hm) (t : Int) (c : Chan) : FnSpec Tryz.prog 103 nx [.ref b 0 [], n64 t, chanA c] [(b, some (.robj (boardA tm hm))), (tm, some (.rmp (towsE ts))), (hm, some (.mp (holdsE hs)))] (n64 (holdF t c ts hs).1) [(hm, some (.mp (holdsE (holdF t c ts hs).2)))] 0 := by
 have x1 := ltF hb
 have x2 := ltF ht
 have x3 := ltF hh
 have y1 := neF (show b ≠ tm by omega)
 have y2 := neF (show b ≠ hm by omega)
 have y3 := neF (show tm ≠ hm by omega)
 have hf := fun nc (q1 : b < nc) (q2 : tm < nc) (q3 : hm < nc) => bfree_spec nc b tm hm ts hs t q1 q2 q3 (by omega) (by omega) (by omega)
 have hset := setA_enc (vA := holdA) pairKA_inj (t, c.id) (⟨c, c.cap, false, 0, zeroS⟩ : Hold_) hs
 simp only [pairKA, holdA, chanA, refA] at hset
 have hcr := fun nc => coinRight_spec nc c.cap
 by_cases c1 : 0 ≤ c.cap ∧ c.cap ≤ 1125899906842624
 ·rw [decide_eq_true c1] at hcr
  by_cases c2 : c.cap < 1
  ·have e : holdF t c ts hs = (1, hs) := by unfold holdF; rw [if_pos (.inr c2)]
   rw [e]
   refine FnSpec.of_code (cx := cx) (an := {}) (rs := [.tmp 6]) mo Tryz.func103 rfl rfl (by kernel_rfl) (by kernel_rfl) (by show 3 ≤ _; decide) (.inl rfl) (by simp [allWr, keys, Res.wr]) ?_
   repeat' (first | omega | assumption | (show AL.ahead _ _ _ = true; rfl) | (first | apply brF | apply brT | apply brVF | apply brVT) <;> intro _ | (with_reducible refine And.intro ?_ ?_) | (refine callK_by (bnone2_spec _ b tm hm (by omega)) ?_) | (refine callK_by (hcr _) ?_) | (simp -dsimp -implicitDefEqProofs only [go_sem, x1, x2, x3, y1, y2, y3, c2, chanA, refA]))
  ·have c3 : ¬ (¬ (0 ≤ c.cap ∧ c.cap ≤ 1125899906842624) ∨ c.cap < 1) := by omega
   cases hl : lookM t ts with
   | none =>
    have e : holdF t c ts hs = (21, hs) := by unfold holdF; rw [if_neg c3, if_pos (by rw [hl]; rfl)]
    rw [e]
    refine FnSpec.of_code (cx := cx) (an := {}) (rs := [.tmp 6]) mo Tryz.func103 rfl rfl (by kernel_rfl) (by kernel_rfl) (by show 3 ≤ _; decide) (.inl rfl) (by simp [allWr, keys, Res.wr]) ?_
    repeat' (first | omega | assumption | (show AL.ahead _ _ _ = true; rfl) | (first | apply brF | apply brT | apply brVF | apply brVT) <;> intro _ | (with_reducible refine And.intro ?_ ?_) | (refine callK_by (bnone2_spec _ b tm hm (by omega)) ?_) | (refine callK_by (hcr _) ?_) | (simp -dsimp -implicitDefEqProofs only [go_sem, x1, x2, x3, y1, y2, y3, c2, hl, lookA_enc n64_inj, boardA, chanA, refA]))
   | some w =>
    cases hk : lookM (t, c.id) hs with
    | some k =>
     have e : holdF t c ts hs = (8, hs) := by unfold holdF; rw [if_neg c3, if_neg (by rw [hl]; simp), if_pos (by rw [hk]; rfl)]
     rw [e]
     refine FnSpec.of_code (cx := cx) (an := {}) (rs := [.tmp 6]) mo Tryz.func103 rfl rfl (by kernel_rfl) (by kernel_rfl) (by show 3 ≤ _; decide) (.inl rfl) (by simp [allWr, keys, Res.wr]) ?_
     repeat' (first | omega | assumption | (show AL.ahead _ _ _ = true; rfl) | (first | apply brF | apply brT | apply brVF | apply brVT) <;> intro _ | (with_reducible refine And.intro ?_ ?_) | (refine callK_by (bnone2_spec _ b tm hm (by omega)) ?_) | (refine callK_by (hcr _) ?_) | (simp -dsimp -implicitDefEqProofs only [go_sem, x1, x2, x3, y1, y2, y3, c2, hl, hk, lookA_enc n64_inj, look_pair, rep2, List.set_cons_zero, List.set_cons_succ, List.getD_cons_zero, List.getD_cons_succ, boardA, chanA, refA]))
    | none =>
     by_cases c4 : freeT t ts hs < c.cap
     ·have e : holdF t c ts hs = (20, hs) := by unfold holdF; rw [if_neg c3, if_neg (by rw [hl]; simp), if_neg (by rw [hk]; simp), if_pos c4]
      rw [e]
      refine FnSpec.of_code (cx := cx) (an := {}) (rs := [.tmp 6]) mo Tryz.func103 rfl rfl (by kernel_rfl) (by kernel_rfl) (by show 3 ≤ _; decide) (.inl rfl) (by simp [allWr, keys, Res.wr]) ?_
      repeat' (first | omega | assumption | (show AL.ahead _ _ _ = true; rfl) | (first | apply brF | apply brT | apply brVF | apply brVT) <;> intro _ | (with_reducible refine And.intro ?_ ?_) | (refine callK_by (bnone2_spec _ b tm hm (by omega)) ?_) | (refine callK_by (hcr _) ?_) | (refine callK_by (hf _ (by omega) (by omega) (by omega)) ?_) | (simp -dsimp -implicitDefEqProofs only [go_sem, x1, x2, x3, y1, y2, y3, c2, c4, hl, hk, lookA_enc n64_inj, look_pair, rep2, List.set_cons_zero, List.set_cons_succ, List.getD_cons_zero, List.getD_cons_succ, boardA, chanA, refA]))
     ·have e : holdF t c ts hs = (0, setM (t, c.id) ⟨c, c.cap, false, 0, zeroS⟩ hs) := by unfold holdF; rw [if_neg c3, if_neg (by rw [hl]; simp), if_neg (by rw [hk]; simp), if_neg c4]
      rw [e]
      refine FnSpec.of_code (cx := cx) (an := {}) (rs := [.tmp 6]) mo Tryz.func103 rfl rfl (by kernel_rfl) (by kernel_rfl) (by show 3 ≤ _; decide) (.inl rfl) (by simp [allWr, keys, Res.wr]) ?_
      repeat' (first | omega | assumption | (show AL.ahead _ _ _ = true; rfl) | (first | apply brF | apply brT | apply brVF | apply brVT) <;> intro _ | (with_reducible refine And.intro ?_ ?_) | (refine callK_by (bnone2_spec _ b tm hm (by omega)) ?_) | (refine callK_by (hcr _) ?_) | (refine callK_by (hf _ (by omega) (by omega) (by omega)) ?_) | (simp -dsimp -implicitDefEqProofs only [go_sem, x1, x2, x3, y1, y2, y3, c2, c4, hl, hk, hset, lookA_enc n64_inj, look_pair, rep2, List.set_cons_zero, List.set_cons_succ, List.getD_cons_zero, List.getD_cons_succ, boardA, chanA, refA]))
 ·rw [decide_eq_false c1] at hcr
  have e : holdF t c ts hs = (1, hs) := by unfold holdF; rw [if_pos (.inl c1)]
  rw [e]
  refine FnSpec.of_code (cx := cx) (an := {}) (rs := [.tmp 6]) mo Tryz.func103 rfl rfl (by kernel_rfl) (by kernel_rfl) (by show 3 ≤ _; decide) (.inl rfl) (by simp [allWr, keys, Res.wr]) ?_
  repeat' (first | omega | assumption | (show AL.ahead _ _ _ = true; rfl) | (first | apply brF | apply brT | apply brVF | apply brVT) <;> intro _ | (with_reducible refine And.intro ?_ ?_) | (refine callK_by (bnone2_spec _ b tm hm (by omega)) ?_) | (refine callK_by (hcr _) ?_) | (simp -dsimp -implicitDefEqProofs only [go_sem, x1, x2, x3, y1, y2, y3, chanA, refA]))
end Go.Proofs.YtaghcjbpjnpkbaaGreat

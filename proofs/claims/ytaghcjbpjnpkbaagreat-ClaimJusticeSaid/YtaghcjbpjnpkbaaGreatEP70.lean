/-
 Boards: how much all towers have locked, what a tower holds, and what is free.
-/
import Derived.Test.YtaghcjbpjnpkbaaGreatEP65
import Derived.Test.YtaghcjbpjnpkbaaGreatEP20
set_option linter.unusedSimpArgs false
set_option linter.unusedVariables false
set_option maxRecDepth 100000
set_option maxHeartbeats 8000000
namespace Go.Proofs.YtaghcjbpjnpkbaaGreat
open Go Go.AL Go.Proofs.YtaghcjbpjnpkbaaGreat.T
abbrev w64 (n : Int) : Int := IntKind.i64.wrap n
def sumI : List Int → Int
 | [] => 0
 | a :: r => a + sumI r
theorem sumI_perm {l l' : List Int} (h : l.Perm l') : sumI l = sumI l' := by
 induction h with
 | nil => rfl
 | cons _ _ ih => simp only [sumI, ih]
 | swap _ _ _ => simp only [sumI]; omega
 | trans _ _ h1 h2 => rw [h1, h2]
theorem seen_perm {n : Nat} {se : List Nat} (h1 : se.Nodup) (h2 : ∀ i ∈ se, i < n) (h3 : ∀ i, i < n → i ∈ se) : se.Perm (List.range n) := by
 rw [List.perm_iff_count]
 intro a
 rw [List.Nodup.count h1, List.Nodup.count List.nodup_range]
 by_cases h : a < n
 ·rw [if_pos (h3 a h), if_pos (List.mem_range.2 h)]
 ·rw [if_neg (fun q => h (h2 a q)), if_neg (fun q => h (List.mem_range.1 q))]
theorem seen_sum {α : Type} {d : α} (f : α → Int) {l l' : List α} {se : List Nat} (hp : l'.Perm l) (h1 : se.Nodup) (h2 : ∀ i ∈ se, i < l'.length) (h3 : ∀ i, i < l'.length → i ∈ se) : sumI (se.map fun i => f (l'.getD i d)) = sumI (l.map f) := by
 rw [sumI_perm ((seen_perm h1 h2 h3).map _), ← sumI_perm (hp.map f)]
 congr 1
 refine List.ext_getElem (by simp) fun i a b => ?_
 simp only [List.length_map] at b
 simp [List.getD_eq_getElem?_getD, List.getElem?_eq_getElem b]
theorem w64_add (a b : Int) : w64 (w64 a + b) = w64 (b + a) := by
 simp only [w64, IntKind.wrap_i64]; omega
theorem enc_get {K V : Type} {kA : K → AV} {vA : V → AV} {l : List (K × V)} {d : K × V} {i : Nat} (h : i < l.length) : (encM kA vA l).getD i (.undef, .undef) = (kA (l.getD i d).1, vA (l.getD i d).2) := by
 simp [encM, List.getD_eq_getElem?_getD, List.getElem?_map, List.getElem?_eq_getElem h]
abbrev Seen (n : Nat) : Type := { se : List Nat // se.Nodup ∧ ∀ i ∈ se, i < n }
def Seen.nil {n : Nat} : Seen n := ⟨[], .nil, fun _ h => by simp at h⟩
theorem Seen.consOk {n : Nat} (s : Seen n) (i : Nat) (h : i < n) (hi : i ∉ s.1) : (i :: s.1).Nodup ∧ ∀ j ∈ i :: s.1, j < n := by
 refine ⟨List.nodup_cons.2 ⟨hi, s.2.1⟩, fun j hj => ?_⟩
 rcases List.mem_cons.1 hj with rfl | q
 ·exact h
 ·exact s.2.2 j q
def Seen.cons {n : Nat} (s : Seen n) (i : Nat) (h : i < n) (hi : i ∉ s.1) : Seen n := ⟨i :: s.1, s.consOk i h hi⟩
theorem Seen.lt {n : Nat} (s : Seen n) {i : Nat} (h : i < n) (hi : i ∉ s.1) : s.1.length < n := by
 obtain ⟨h1, h2⟩ := s.consOk i h hi
 have h3 : (i :: s.1) ⊆ List.range n := fun j hj => List.mem_range.2 (h2 j hj)
 have h4 := h1.length_le_of_subset h3
 simp only [List.length_cons, List.length_range] at h4
 omega
theorem view_enc {H : Heap} {X : Heap → Prop} {lx : Lock X} {K V : Type} {kA : K → AV} {vA : V → AV} (m : Nat) (l : List (K × V)) (h : H.get m = some (.rmp (encM kA vA l))) (hX : ∀ (l' : List (K × V)) (bs : List Nat) (clk : Nat), l'.Perm l → X ((m, some (.xmp (encM kA vA l') bs clk)) :: H)) : viewK X H lx :=
 view_pin m (fun p : K × V => (kA p.1, vA p.2)) l h (fun l' bs clk hp _ _ => hX l' bs clk hp)
attribute [local go_sem] nb_u8s u8s_length nb_sum List.length_replicate zero_sum sum_h u8s_nil towA_good towA_agg towA_csz holdA_good holdA_agg holdA_csz nbK_int nbK_pair nbV_tow nbV_hold nb_tow nb_hold kk_int kk_pair k1_pair o_some o_none Option.getD_some Option.getD_none Option.isSome_some Option.isSome_none enc_len sum_csz sum_agg
def tw0 : Int × Tw_ := (0, ⟨zeroS, 0, 0, 0⟩)
def hd0 : (Int × Int) × Hold_ := ((0, 0), ⟨⟨0, 0, 0, ⟨zeroS, 0⟩, 0, 0, 0⟩, 0, false, 0, zeroS⟩)
def totT (ts : List (Int × Tw_)) : Int := w64 (sumI (ts.map fun p => p.2.locked))
theorem btotal_spec (nx b tm hm : Nat) (ts : List (Int × Tw_)) (hb : b < nx) (ht : tm < nx) (h1 : b ≠ tm) :
  FnSpec Tryz.prog 133 nx [.ref b 0 []] [(b, some (.robj (boardA tm hm))), (tm, some (.rmp (towsE ts)))] (n64 (totT ts)) [] 0 := by
 have x1 := ltF hb
 have x2 := ltF ht
 have y1 := neF h1
 refine FnSpec.of_code (cx := cx) (an := {vw := [4], nxt := [5]}) (rs := [.tmp 2]) mo Tryz.func133 rfl rfl (by kernel_rfl) (by kernel_rfl) (by show 1 ≤ _; decide) (.inl rfl) (by simp [allWr, keys, Res.wr]) ?_
 repeat' (first | omega | assumption | (show AL.ahead _ _ _ = true; rfl) | (first | apply brF | apply brT | apply brVF | apply brVT) <;> intro _ | (with_reducible refine And.intro ?_ ?_) | (refine callK_by (bnone2_spec _ b tm hm (by omega)) ?_) | (simp -dsimp -implicitDefEqProofs only [go_sem, x1, x2, y1, boardA]))
 refine view_enc (kA := n64) (vA := towA) tm ts (by simp only [Heap.get, y1, if_true, if_false]) (fun l' bs clk hp => ?_)
 repeat' (first | omega | assumption | (show AL.ahead _ _ _ = true; rfl) | (first | apply brF | apply brT | apply brVF | apply brVT) <;> intro _ | (with_reducible refine And.intro ?_ ?_) | (simp -dsimp -implicitDefEqProofs only [go_sem, x1, x2, y1, boardA]))
 apply loop_keep [13] (fun se : Seen l'.length => [(3, n64 (w64 (sumI (se.1.map fun i => (l'.getD i tw0).2.locked))))]) (fun se => [(nx + 64, some (.itr tm bs clk se.1)), (tm, some (.xmp (towsE l') bs clk))]) (fun se => l'.length - se.1.length) Seen.nil
 ·simp -dsimp -implicitDefEqProofs only [go_sem]; try rfl
 ·simp -dsimp -implicitDefEqProofs only [go_sem]; try rfl
 ·simp -dsimp -implicitDefEqProofs only [go_sem, x1, x2, y1]; try rfl
 ·intro s
  simp -dsimp -implicitDefEqProofs only [go_sem]
  try omega
 ·intro se
  simp -dsimp -implicitDefEqProofs only [go_sem, x1, x2, y1]
  refine steps_by (fun j hj => se.2.2 j hj) (fun hall => ?_) (fun i hi hni => ?_)
  ·repeat' (first | omega | assumption | (show AL.ahead _ _ _ = true; rfl) | (first | apply brF | apply brT | apply brVF | apply brVT) <;> intro _ | (with_reducible refine And.intro ?_ ?_) | (simp -dsimp -implicitDefEqProofs only [go_sem]))
   all_goals (rw [totT, ← seen_sum (d := tw0) (fun p : Int × Tw_ => p.2.locked) hp se.2.1 se.2.2 hall])
  ·have hg := enc_get (kA := n64) (vA := towA) (d := tw0) hi
   repeat' (first | omega | assumption | (show AL.ahead _ _ _ = true; rfl) | (first | apply brF | apply brT | apply brVF | apply brVT) <;> intro _ | (with_reducible refine And.intro ?_ ?_) | (simp -dsimp -implicitDefEqProofs only [go_sem, x1, x2, y1, hg, hi, towA, w64_add]))
   all_goals first
    | exact ⟨se.cons i hi hni, by have := se.lt hi hni; show l'.length - (se.1.length + 1) < l'.length - se.1.length; omega, rfl, rfl⟩
    
def hldF (t : Int) (p : (Int × Int) × Hold_) : Int := if p.1.1 = t then p.2.amount else 0
def heldT (t : Int) (hs : List ((Int × Int) × Hold_)) : Int := w64 (sumI (hs.map (hldF t)))
theorem bheld_spec (nx b tm hm : Nat) (hs : List ((Int × Int) × Hold_)) (t : Int) (hb : b < nx) (hh : hm < nx) (h1 : b ≠ hm) :
  FnSpec Tryz.prog 161 nx [.ref b 0 [], n64 t] [(b, some (.robj (boardA tm hm))), (hm, some (.rmp (holdsE hs)))] (n64 (heldT t hs)) [] 0 := by
 have x1 := ltF hb
 have x2 := ltF hh
 have y1 := neF h1
 refine FnSpec.of_code (cx := cx) (an := {vw := [4], nxt := [5]}) (rs := [.tmp 4]) mo Tryz.func161 rfl rfl (by kernel_rfl) (by kernel_rfl) (by show 2 ≤ _; decide) (.inl rfl) (by simp [allWr, keys, Res.wr]) ?_
 repeat' (first | omega | assumption | (show AL.ahead _ _ _ = true; rfl) | (first | apply brF | apply brT | apply brVF | apply brVT) <;> intro _ | (with_reducible refine And.intro ?_ ?_) | (refine callK_by (bnone2_spec _ b tm hm (by omega)) ?_) | (simp -dsimp -implicitDefEqProofs only [go_sem, x1, x2, y1, boardA]))
 refine view_enc (kA := pairKA) (vA := holdA) hm hs (by simp only [Heap.get, y1, if_true, if_false]) (fun l' bs clk hp => ?_)
 repeat' (first | omega | assumption | (show AL.ahead _ _ _ = true; rfl) | (first | apply brF | apply brT | apply brVF | apply brVT) <;> intro _ | (with_reducible refine And.intro ?_ ?_) | (simp -dsimp -implicitDefEqProofs only [go_sem, x1, x2, y1, boardA]))
 apply loop_keep [1, 15] (fun se : Seen l'.length => [(5, n64 (w64 (sumI (se.1.map fun i => hldF t (l'.getD i hd0)))))]) (fun se => [(nx + 64, some (.itr hm bs clk se.1)), (hm, some (.xmp (holdsE l') bs clk))]) (fun se => l'.length - se.1.length) Seen.nil
 ·simp -dsimp -implicitDefEqProofs only [go_sem]; try rfl
 ·simp -dsimp -implicitDefEqProofs only [go_sem]; try rfl
 ·simp -dsimp -implicitDefEqProofs only [go_sem, x1, x2, y1]; try rfl
 ·intro s
  simp -dsimp -implicitDefEqProofs only [go_sem]
  try omega
 ·intro se
  simp -dsimp -implicitDefEqProofs only [go_sem, x1, x2, y1]
  refine steps_by (fun j hj => se.2.2 j hj) (fun hall => ?_) (fun i hi hni => ?_)
  ·repeat' (first | omega | assumption | (show AL.ahead _ _ _ = true; rfl) | (first | apply brF | apply brT | apply brVF | apply brVT) <;> intro _ | (with_reducible refine And.intro ?_ ?_) | (simp -dsimp -implicitDefEqProofs only [go_sem]))
   all_goals (rw [heldT, ← seen_sum (d := hd0) (hldF t) hp se.2.1 se.2.2 hall])
  ·have hg := enc_get (kA := pairKA) (vA := holdA) (d := hd0) hi
   have hlt := se.lt hi hni
   by_cases e : (l'.getD i hd0).1.1 = t
   ·have e2 : ((l'.getD i hd0).1.1 = t) = True := eq_true e
    have e3 : hldF t (l'.getD i hd0) = (l'.getD i hd0).2.amount := by unfold hldF; rw [if_pos e]
    repeat' (first | omega | assumption | (show AL.ahead _ _ _ = true; rfl) | (first | apply brF | apply brT | apply brVF | apply brVT) <;> intro _ | (with_reducible refine And.intro ?_ ?_) | (simp -dsimp -implicitDefEqProofs only [go_sem, x1, x2, y1, hg, hi, pairKA, holdA, chanA, refA, w64_add, e2]))
    all_goals first
     | exact ⟨se.cons i hi hni, by show l'.length - (se.1.length + 1) < l'.length - se.1.length; omega, by show _ = n64 (w64 (hldF t _ + _)); rw [e3], rfl⟩
     
   ·have e2 : ((l'.getD i hd0).1.1 = t) = False := eq_false e
    have e3 : hldF t (l'.getD i hd0) = 0 := by unfold hldF; rw [if_neg e]
    repeat' (first | omega | assumption | (show AL.ahead _ _ _ = true; rfl) | (first | apply brF | apply brT | apply brVF | apply brVT) <;> intro _ | (with_reducible refine And.intro ?_ ?_) | (simp -dsimp -implicitDefEqProofs only [go_sem, x1, x2, y1, hg, hi, pairKA, holdA, chanA, refA, w64_add, e2]))
    all_goals first
     | exact ⟨se.cons i hi hni, by show l'.length - (se.1.length + 1) < l'.length - se.1.length; omega, by show _ = n64 (w64 (hldF t _ + _)); rw [e3, Int.zero_add], rfl⟩
     
def twZ : Tw_ := ⟨zeroS, 0, 0, 0⟩
def hdZ : Hold_ := ⟨⟨0, 0, 0, ⟨zeroS, 0⟩, 0, 0, 0⟩, 0, false, 0, zeroS⟩
theorem optT_eq (o : Option Tw_) : optT o = towA (o.getD twZ) := by cases o <;> rfl
theorem optH_eq (o : Option Hold_) : optH o = holdA (o.getD hdZ) := by cases o <;> rfl
noncomputable def freeT (t : Int) (ts : List (Int × Tw_)) (hs : List ((Int × Int) × Hold_)) : Int := w64 (w64 (((lookM t ts).getD twZ).locked - ((lookM t ts).getD twZ).asked) - heldT t hs)
theorem bfree_spec (nx b tm hm : Nat) (ts : List (Int × Tw_)) (hs : List ((Int × Int) × Hold_)) (t : Int) (hb : b < nx) (ht : tm < nx) (hh : hm < nx) (h1 : b ≠ tm) (h2 : b ≠ hm) (h3 : tm ≠ hm) :
  FnSpec Tryz.prog 138 nx [.ref b 0 [], n64 t] (boardR b tm hm ts hs) (n64 (freeT t ts hs)) [] 0 := by
 have x1 := ltF hb
 have x2 := ltF ht
 have x3 := ltF hh
 have y1 := neF h1
 have y2 := neF h2
 have y3 := neF h3
 have hg := fun nc (q1 : b < nc) (q2 : tm < nc) => bget_spec nc b tm hm ts t q1 q2 h1
 have hl := fun nc (q1 : b < nc) (q2 : hm < nc) => bheld_spec nc b tm hm hs t q1 q2 h2
 simp only [optT_eq] at hg
 refine FnSpec.of_code (cx := cx) (an := {}) (rs := [.tmp 4]) mo Tryz.func138 rfl rfl (by kernel_rfl) (by kernel_rfl) (by show 2 ≤ _; decide) (.inl rfl) (by simp [allWr, keys, Res.wr]) ?_
 repeat' (first | omega | assumption | (show AL.ahead _ _ _ = true; rfl) | (first | apply brF | apply brT | apply brVF | apply brVT) <;> intro _ | (with_reducible refine And.intro ?_ ?_) | (refine callK_by (hg _ (by omega) (by omega)) ?_) | (refine callK_by (hl _ (by omega) (by omega)) ?_) | (simp -dsimp -implicitDefEqProofs only [go_sem, x1, x2, x3, y1, y2, y3, boardA, towA]))
 all_goals rfl
end Go.Proofs.YtaghcjbpjnpkbaaGreat

namespace Go.Proofs.YtaghcjbpjnpkbaaGreat
open Go Go.AL Go.Proofs.YtaghcjbpjnpkbaaGreat.T
attribute [local go_sem] nb_u8s u8s_length nb_sum sumA List.length_replicate zero_sum sum_h nb_vals vals_len u8s_nil ways_len nb_ways ins_len outs_len signs_len nb_ins nb_outs nb_signs
def idxN (k : Int) : List Int → Int → Int
  | [], _ => -1
  | a :: r, i => if k = a then i else idxN k r (i + 1)
theorem idxN_ge (k : Int) : ∀ (l : List Int) (i : Int), 0 ≤ i → (0 ≤ idxN k l i ↔ k ∈ l) ∧ (idxN k l i < 0 ↔ k ∉ l)
  | [], i, h => by simp [idxN]
  | a :: r, i, h => by
    have ih := idxN_ge k r (i + 1) (by omega)
    by_cases e : k = a
    · subst e; simp [idxN]; omega
    · simp only [idxN, if_neg e, List.mem_cons, e, false_or]; exact ih
theorem idxI_spec2 (nx tok : Nat) (l : List Int) (k : Int) (hl : l.length < 2 ^ 40) (ht : tok < 2 ∨ tok - 2 < nx) : FnSpec Tryz.prog 132 nx [.sl 1 (vals .i64 l) tok, n64 k] [] (n64 (idxN k l 0)) [] 0 := by
  obtain ⟨R, hR⟩ : ∃ R, R = idxN k l 0 := ⟨_, rfl⟩
  rw [← hR]
  refine FnSpec.of_code (cx := cx) (an := {}) (rs := [.tmp 4]) mo Tryz.func132 rfl rfl (by kernel_rfl) (by kernel_rfl) (by show 2 ≤ _; decide) (.inl rfl) (by simp [allWr, keys, Res.wr]) ?_
  repeat' (first | omega | assumption | (show AL.ahead _ _ _ = true; rfl) | (first | apply brF | apply brT | apply brVF | apply brVT) <;> intro _ | (with_reducible refine And.intro ?_ ?_) | (simp -dsimp -implicitDefEqProofs only [go_sem]))
  apply loop_keep [0, 1, 7] (fun p : { p : Nat // p ≤ l.length ∧ idxN k (l.drop p) p = R } => [(8, n64 p.1)]) (fun _ => []) (fun p => l.length - p.1) ⟨0, Nat.zero_le _, by rw [hR]; rfl⟩
  · simp -dsimp -implicitDefEqProofs only [go_sem]; try rfl
  · simp -dsimp -implicitDefEqProofs only [go_sem]; try rfl
  · simp -dsimp -implicitDefEqProofs only [go_sem]; try rfl
  · intro s
    simp -dsimp -implicitDefEqProofs only [go_sem]
    try omega
  · rintro ⟨i, hi, hall⟩
    have hi : i ≤ l.length := hi
    simp -dsimp -implicitDefEqProofs only [go_sem]
    refine brT (fun hc => ?_) (fun hc => ?_)
    · have hi2 : i < l.length := by omega
      have q1 := vals_get (k := .i64) hi2
      have hd := List.drop_eq_getElem_cons hi2
      have hg : l.getD i 0 = l[i] := by rw [List.getD_eq_getElem?_getD, List.getElem?_eq_getElem hi2]; rfl
      rw [hd] at hall
      rw [hg] at q1
      generalize l[i] = y at *
      have w1 : IntKind.i64.wrap ((i : Int) + 1) = ((i + 1 : Nat) : Int) := wrapE (by omega) (by omega)
      by_cases e : k = y
      · rw [idxN, if_pos e] at hall
        subst e
        repeat' (first | omega | assumption | (show AL.ahead _ _ _ = true; rfl) | (first | apply brF | apply brT | apply brVF | apply brVT) <;> intro _ | (with_reducible refine And.intro ?_ ?_) | (simp -dsimp -implicitDefEqProofs only [go_sem, q1, w1]))
        all_goals first | (rw [← hall])
      · rw [idxN, if_neg e] at hall
        have e2 : (k = y) = False := by simp [e]
        repeat' (first | omega | assumption | (show AL.ahead _ _ _ = true; rfl) | (first | apply brF | apply brT | apply brVF | apply brVT) <;> intro _ | (with_reducible refine And.intro ?_ ?_) | (simp -dsimp -implicitDefEqProofs only [go_sem, q1, w1, e2]))
        all_goals first | exact ⟨⟨i + 1, hi2, by have : ((i + 1 : Nat) : Int) = (i : Int) + 1 := by omega
                                                 rw [this]; exact hall⟩, by show l.length - (i + 1) < l.length - i; omega, rfl⟩
    · have e : i = l.length := by omega
      subst e
      rw [List.drop_length, idxN] at hall
      repeat' (first | omega | assumption | (show AL.ahead _ _ _ = true; rfl) | (first | apply brF | apply brT | apply brVF | apply brVT) <;> intro _ | (with_reducible refine And.intro ?_ ?_) | (simp -dsimp -implicitDefEqProofs only [go_sem]))
      all_goals first | (rw [← hall])
theorem contN_spec (nx tok : Nat) (l : List Int) (k : Int) (hl : l.length < 2 ^ 40) (ht : tok < 2 ∨ tok - 2 < nx) : FnSpec Tryz.prog 99 nx [.sl 1 (vals .i64 l) tok, n64 k] [] (bA (decide (k ∈ l))) [] 0 := by
  have hi := fun nc (h : nx ≤ nc) => idxI_spec2 nc tok l k hl (by omega)
  obtain ⟨h1, h2⟩ := idxN_ge k l 0 (by omega)
  refine FnSpec.of_code (cx := cx) (an := {}) (rs := [.tmp 4]) mo Tryz.func99 rfl rfl (by kernel_rfl) (by kernel_rfl) (by show 2 ≤ _; decide) (.inl rfl) (by simp [allWr, keys, Res.wr]) ?_
  repeat' (first | omega | assumption | (show AL.ahead _ _ _ = true; rfl) | (first | apply brF | apply brT | apply brVF | apply brVT) <;> intro _ | (with_reducible refine And.intro ?_ ?_) | (refine callK_by (hi _ (by omega)) ?_) | (simp -dsimp -implicitDefEqProofs only [go_sem]))
  all_goals (simp only [bA]; congr 2; exact decide_eq_decide.2 h1)
theorem kB_p3 (t : Tx_) : (txA t).parts.getD 3 .undef = .sl 33 (signsA t.signs) 0 := rfl
theorem kB_len (t : Tx_) : (txA t).parts.length = 4 := rfl
theorem kB_off (t : Tx_) : (txA t).partOff 3 = 39 := rfl
noncomputable def keysF (t : Tx_) : List Sign_ → List Int
  | [] => []
  | s :: r => @ite _ (s.of_ = txS t) (Classical.propDecidable _) (s.key :: keysF t r) (keysF t r)
theorem keysF_snoc (t : Tx_) (s : Sign_) : ∀ l : List Sign_, keysF t (l ++ [s]) = keysF t l ++ keysF t [s]
  | [] => rfl
  | a :: l => by
    simp only [List.cons_append, keysF, keysF_snoc t s l]
    split <;> simp
theorem keysF_len (t : Tx_) : ∀ l : List Sign_, (keysF t l).length ≤ l.length
  | [] => Nat.le_refl _
  | a :: l => by have := keysF_len t l; simp only [keysF]; split <;> simp <;> omega
theorem keysG_spec (nx : Nat) (t : Tx_) (hb : (bodyL true t).length < 2 ^ 38) (hk : ∀ o ∈ t.outs, ∀ w ∈ o.ways, w.keys.length < 2 ^ 32) (hsl : t.signs.length < 2 ^ 40) :
    FnSpec Tryz.prog 92 nx [txA t] [] (.sl 1 (vals .i64 (keysF t t.signs)) (nx + 51)) [(nx + 49, some (.tail (keysF t t.signs).length))] 600 := by
  have hs := fun nc => txSum_spec nc t hb hk
  refine FnSpec.of_code (cx := cx) (an := {tk := [(4, [([], 1)])]}) (rs := [.tmp 2]) mo Tryz.func92 rfl rfl (by kernel_rfl) (by kernel_rfl) (by show 1 ≤ _; decide) (.inl rfl) (by simp [allWr, keys, Res.wr]) ?_
  repeat' (first | omega | assumption | (show AL.ahead _ _ _ = true; rfl) | (first | apply brF | apply brT | apply brVF | apply brVT) <;> intro _ | (with_reducible refine And.intro ?_ ?_) | (refine callK_by (hs _) ?_) | (simp -dsimp -implicitDefEqProofs only [go_sem, txA_good, txA_csz, txA_agg, nb_tx, kB_p3, kB_len, kB_off]))
  apply loop_keep [3, 10, 11] (fun p : { p : Nat // p ≤ t.signs.length } => [(4, .sl 1 (vals .i64 (keysF t (t.signs.take p.1))) (nx + 51)), (12, n64 p.1)]) (fun p => [(nx + 49, some (.tail (keysF t (t.signs.take p.1)).length)), (nx + 32, some (.obj (sumA (txS t))))]) (fun p => t.signs.length - p.1) ⟨0, Nat.zero_le _⟩
  · simp -dsimp -implicitDefEqProofs only [go_sem]; rfl
  · simp -dsimp -implicitDefEqProofs only [go_sem, List.take_zero, keysF]; try rfl
  · simp -dsimp -implicitDefEqProofs only [go_sem, List.take_zero, keysF]; try rfl
  · intro s
    simp -dsimp -implicitDefEqProofs only [go_sem]
    try omega
  · rintro ⟨i, hi⟩
    have hi : i ≤ t.signs.length := hi
    have hkl := keysF_len t (t.signs.take i)
    have htl : (t.signs.take i).length ≤ t.signs.length := List.length_take_le' _ _
    simp -dsimp -implicitDefEqProofs only [go_sem]
    refine brT (fun hc => ?_) (fun hc => ?_)
    · have hi2 : i < t.signs.length := by omega
      have q1 := signs_get hi2
      have htk : t.signs.take (i + 1) = t.signs.take i ++ [t.signs[i]] := by rw [List.take_succ_eq_append_getElem hi2]
      have hks := keysF_snoc t t.signs[i] (t.signs.take i)
      rw [← htk] at hks
      generalize t.signs[i] = y at *
      have w1 : IntKind.i64.wrap ((i : Int) + 1) = ((i + 1 : Nat) : Int) := wrapE (by omega) (by omega)
      by_cases e : y.of_ = txS t
      · have he : eqB (AV.vec 1 (u8s y.of_.b)) (AV.vec 1 (u8s (txS t).b)) = true := by rw [e]; exact eqB_yes rfl
        have hk1 : keysF t [y] = [y.key] := by simp only [keysF, if_pos e]
        rw [hk1] at hks
        have hva : vals .i64 (keysF t (t.signs.take i)) ++ [n64 y.key] = vals .i64 (keysF t (t.signs.take (i + 1))) := by rw [hks]; simp [vals]
        have hkl2 : (keysF t (t.signs.take i)).length + 1 = (keysF t (t.signs.take (i + 1))).length := by rw [hks]; simp
        repeat' (first | omega | assumption | (show AL.ahead _ _ _ = true; rfl) | (first | apply brF | apply brT | apply brVF | apply brVT) <;> intro _ | (with_reducible refine And.intro ?_ ?_) | (simp -dsimp -implicitDefEqProofs only [go_sem, q1, w1, signA, he, hva, hkl2, ↓cmp_sum, isSumT, decide_eq_true_eq, Bool.and_self, List.append_eq, List.cons_append, List.nil_append]))
        all_goals first
          | exact ⟨⟨i + 1, hi2⟩, by show t.signs.length - (i + 1) < t.signs.length - i; omega, ⟨rfl, rfl⟩, rfl⟩
         
      · have he : eqB (AV.vec 1 (u8s y.of_.b)) (AV.vec 1 (u8s (txS t).b)) = false := eqB_no (fun q => e (sumA_inj _ _ q))
        have hk1 : keysF t [y] = [] := by simp only [keysF, if_neg e]
        rw [hk1, List.append_nil] at hks
        repeat' (first | omega | assumption | (show AL.ahead _ _ _ = true; rfl) | (first | apply brF | apply brT | apply brVF | apply brVT) <;> intro _ | (with_reducible refine And.intro ?_ ?_) | (simp -dsimp -implicitDefEqProofs only [go_sem, q1, w1, signA, he, ↓cmp_sum, isSumT, decide_eq_true_eq, Bool.and_self, List.append_eq, List.cons_append, List.nil_append]))
        all_goals first
          | exact ⟨⟨i + 1, hi2⟩, by show t.signs.length - (i + 1) < t.signs.length - i; omega, ⟨by rw [hks], rfl⟩, by rw [hks]⟩
         
    · have e : t.signs.take i = t.signs := List.take_of_length_le (by omega)
      repeat' (first | omega | assumption | (show AL.ahead _ _ _ = true; rfl) | (first | apply brF | apply brT | apply brVF | apply brVT) <;> intro _ | (with_reducible refine And.intro ?_ ?_) | (simp -dsimp -implicitDefEqProofs only [go_sem, e]))
      all_goals first | exact ⟨rfl, rfl⟩ | rfl
theorem keysA_spec (nx : Nat) (t : Tx_) (hb : (bodyL true t).length < 2 ^ 38) (hk : ∀ o ∈ t.outs, ∀ w ∈ o.ways, w.keys.length < 2 ^ 32) (hsl : t.signs.length < 2 ^ 40) :
    FnSpec Tryz.prog 92 nx [txA t] [] (.sl 1 (vals .i64 (keysF t t.signs)) 0) [] 0 :=
  (keysG_spec nx t hb hk hsl).forget0 ⟨rfl, .inr ⟨.inl rfl, .inl rfl⟩⟩ (by simp [AV.nb, nb_vals]) (by simp [keys])
end Go.Proofs.YtaghcjbpjnpkbaaGreat

namespace Go.Proofs.YtaghcjbpjnpkbaaGreat
open Go Go.AL Go.Proofs.YtaghcjbpjnpkbaaGreat.T
structure LS where
 coins : List (Ref_ × Coin_)
 towers : List (Int × Tw_)
 holds : List ((Int × Int) × Hold_)
 done : List (Sum × Done_)
 spent : List (Ref_ × Spend_)
 order : List Sum
 fees : Int
structure LN where
 l : Nat
 v : Nat
 vm : Nat
 b : Nat
 tm : Nat
 hm : Nat
 d : Nat
 s : Nat
 o : Nat
def ledA (n : LN) (x : LS) : AV := .agg 6 [.ref n.v 0 [], .ref n.b 0 [], .map n.d, .map n.s, .sl 32 (sumsA x.order) (n.o + 2), n64 x.fees]
abbrev ledH (n : LN) (x : LS) : Heap := [(n.l, some (.obj (ledA n x))), (n.v, some (.obj (.agg 1 [.map n.vm]))), (n.vm, some (.mp (coinsE x.coins))), (n.b, some (.obj (boardA n.tm n.hm))), (n.tm, some (.mp (towsE x.towers))), (n.hm, some (.mp (holdsE x.holds))), (n.d, some (.mp (donesE x.done))), (n.s, some (.mp (spentE x.spent))), (n.o, some (.tail x.order.length))]
structure LN.ok (n : LN) (nx : Nat) : Prop where
 l : n.l < nx
 v : n.v < nx
 vm : n.vm < nx
 b : n.b < nx
 tm : n.tm < nx
 hm : n.hm < nx
 d : n.d < nx
 s : n.s < nx
 o : n.o < nx
 df : [n.l, n.v, n.vm, n.b, n.tm, n.hm, n.d, n.s, n.o].Nodup
theorem LN.ok.ne {n : LN} {nx : Nat} (h : n.ok nx) : (n.l ≠ n.v ∧ n.l ≠ n.vm ∧ n.l ≠ n.b ∧ n.l ≠ n.tm ∧ n.l ≠ n.hm ∧ n.l ≠ n.d ∧ n.l ≠ n.s ∧ n.l ≠ n.o) ∧ (n.v ≠ n.vm ∧ n.v ≠ n.b ∧ n.v ≠ n.tm ∧ n.v ≠ n.hm ∧ n.v ≠ n.d ∧ n.v ≠ n.s ∧ n.v ≠ n.o) ∧ (n.vm ≠ n.b ∧ n.vm ≠ n.tm ∧ n.vm ≠ n.hm ∧ n.vm ≠ n.d ∧ n.vm ≠ n.s ∧ n.vm ≠ n.o) ∧
  (n.b ≠ n.tm ∧ n.b ≠ n.hm ∧ n.b ≠ n.d ∧ n.b ≠ n.s ∧ n.b ≠ n.o) ∧ (n.tm ≠ n.hm ∧ n.tm ≠ n.d ∧ n.tm ≠ n.s ∧ n.tm ≠ n.o) ∧ (n.hm ≠ n.d ∧ n.hm ≠ n.s ∧ n.hm ≠ n.o) ∧ (n.d ≠ n.s ∧ n.d ≠ n.o) ∧ n.s ≠ n.o := by
 have h1 := h.df
 simp only [List.nodup_cons, List.mem_cons, not_or, List.not_mem_nil, not_false_eq_true, and_true, List.nodup_nil] at h1
 obtain ⟨a, b, c, d, e, f, g, i⟩ := h1
 exact ⟨⟨a.1, a.2.1, a.2.2.1, a.2.2.2.1, a.2.2.2.2.1, a.2.2.2.2.2.1, a.2.2.2.2.2.2.1, a.2.2.2.2.2.2.2⟩, b, c, d, e, f, g, i⟩
theorem LN.ok.nf {n : LN} {nx : Nat} (h : n.ok nx) : ((n.l = n.v) = False ∧ (n.v = n.l) = False) ∧ ((n.l = n.vm) = False ∧ (n.vm = n.l) = False) ∧ ((n.l = n.b) = False ∧ (n.b = n.l) = False) ∧ ((n.l = n.tm) = False ∧ (n.tm = n.l) = False) ∧ ((n.l = n.hm) = False ∧ (n.hm = n.l) = False) ∧ ((n.l = n.d) = False ∧ (n.d = n.l) = False) ∧ ((n.l = n.s) = False ∧ (n.s = n.l) = False) ∧ ((n.l = n.o) = False ∧ (n.o = n.l) = False) ∧ ((n.v = n.vm) = False ∧ (n.vm = n.v) = False) ∧ ((n.v = n.b) = False ∧ (n.b = n.v) = False) ∧ ((n.v = n.tm) = False ∧ (n.tm = n.v) = False) ∧ ((n.v = n.hm) = False ∧ (n.hm = n.v) = False) ∧ ((n.v = n.d) = False ∧ (n.d = n.v) = False) ∧ ((n.v = n.s) = False ∧ (n.s = n.v) = False) ∧ ((n.v = n.o) = False ∧ (n.o = n.v) = False) ∧ ((n.vm = n.b) = False ∧ (n.b = n.vm) = False) ∧ ((n.vm = n.tm) = False ∧ (n.tm = n.vm) = False) ∧ ((n.vm = n.hm) = False ∧ (n.hm = n.vm) = False) ∧ ((n.vm = n.d) = False ∧ (n.d = n.vm) = False) ∧ ((n.vm = n.s) = False ∧ (n.s = n.vm) = False) ∧ ((n.vm = n.o) = False ∧ (n.o = n.vm) = False) ∧ ((n.b = n.tm) = False ∧ (n.tm = n.b) = False) ∧ ((n.b = n.hm) = False ∧ (n.hm = n.b) = False) ∧ ((n.b = n.d) = False ∧ (n.d = n.b) = False) ∧ ((n.b = n.s) = False ∧ (n.s = n.b) = False) ∧ ((n.b = n.o) = False ∧ (n.o = n.b) = False) ∧ ((n.tm = n.hm) = False ∧ (n.hm = n.tm) = False) ∧ ((n.tm = n.d) = False ∧ (n.d = n.tm) = False) ∧ ((n.tm = n.s) = False ∧ (n.s = n.tm) = False) ∧ ((n.tm = n.o) = False ∧ (n.o = n.tm) = False) ∧ ((n.hm = n.d) = False ∧ (n.d = n.hm) = False) ∧ ((n.hm = n.s) = False ∧ (n.s = n.hm) = False) ∧ ((n.hm = n.o) = False ∧ (n.o = n.hm) = False) ∧ ((n.d = n.s) = False ∧ (n.s = n.d) = False) ∧ ((n.d = n.o) = False ∧ (n.o = n.d) = False) ∧ ((n.s = n.o) = False ∧ (n.o = n.s) = False) := by
 obtain ⟨⟨a1, a2, a3, a4, a5, a6, a7, a8⟩, ⟨b1, b2, b3, b4, b5, b6, b7⟩, ⟨c1, c2, c3, c4, c5, c6⟩, ⟨d1, d2, d3, d4, d5⟩, ⟨e1, e2, e3, e4⟩, ⟨f1, f2, f3⟩, ⟨g1, g2⟩, i1⟩ := h.ne
 exact ⟨neF a1, neF a2, neF a3, neF a4, neF a5, neF a6, neF a7, neF a8, neF b1, neF b2, neF b3, neF b4, neF b5, neF b6, neF b7, neF c1, neF c2, neF c3, neF c4, neF c5, neF c6, neF d1, neF d2, neF d3, neF d4, neF d5, neF e1, neF e2, neF e3, neF e4, neF f1, neF f2, neF f3, neF g1, neF g2, neF i1⟩
theorem LN.ok.xf {n : LN} {nx : Nat} (h : n.ok nx) : ((∀ k, (n.l = nx + k) = False) ∧ (∀ k, (nx + k = n.l) = False) ∧ (n.l = nx) = False ∧ (nx = n.l) = False) ∧ ((∀ k, (n.v = nx + k) = False) ∧ (∀ k, (nx + k = n.v) = False) ∧ (n.v = nx) = False ∧ (nx = n.v) = False) ∧ ((∀ k, (n.vm = nx + k) = False) ∧ (∀ k, (nx + k = n.vm) = False) ∧ (n.vm = nx) = False ∧ (nx = n.vm) = False) ∧ ((∀ k, (n.b = nx + k) = False) ∧ (∀ k, (nx + k = n.b) = False) ∧ (n.b = nx) = False ∧ (nx = n.b) = False) ∧ ((∀ k, (n.tm = nx + k) = False) ∧ (∀ k, (nx + k = n.tm) = False) ∧ (n.tm = nx) = False ∧ (nx = n.tm) = False) ∧ ((∀ k, (n.hm = nx + k) = False) ∧ (∀ k, (nx + k = n.hm) = False) ∧ (n.hm = nx) = False ∧ (nx = n.hm) = False) ∧ ((∀ k, (n.d = nx + k) = False) ∧ (∀ k, (nx + k = n.d) = False) ∧ (n.d = nx) = False ∧ (nx = n.d) = False) ∧ ((∀ k, (n.s = nx + k) = False) ∧ (∀ k, (nx + k = n.s) = False) ∧ (n.s = nx) = False ∧ (nx = n.s) = False) ∧ ((∀ k, (n.o = nx + k) = False) ∧ (∀ k, (nx + k = n.o) = False) ∧ (n.o = nx) = False ∧ (nx = n.o) = False) := ⟨ltF h.l, ltF h.v, ltF h.vm, ltF h.b, ltF h.tm, ltF h.hm, ltF h.d, ltF h.s, ltF h.o⟩
theorem LN.ok.lt {n : LN} {nx : Nat} (h : n.ok nx) : n.l < nx ∧ n.v < nx ∧ n.vm < nx ∧ n.b < nx ∧ n.tm < nx ∧ n.hm < nx ∧ n.d < nx ∧ n.s < nx ∧ n.o < nx := ⟨h.l, h.v, h.vm, h.b, h.tm, h.hm, h.d, h.s, h.o⟩
theorem LN.ok.up {n : LN} {nx nc : Nat} (h : n.ok nx) (hc : nx ≤ nc) : n.ok nc := ⟨by have := h.l; omega, by have := h.v; omega, by have := h.vm; omega, by have := h.b; omega, by have := h.tm; omega, by have := h.hm; omega, by have := h.d; omega, by have := h.s; omega, by have := h.o; omega, h.df⟩
attribute [local go_sem] nb_u8s u8s_length nb_sum List.length_replicate zero_sum sum_h u8s_nil nb_ref sums_len nb_sums refA_good refA_agg refA_csz doneA_good doneA_agg doneA_csz spendA_good spendA_agg spendA_csz sum_csz sum_agg sumA_good nbK_ref nbK_sum nbV_done nbV_spend nb_done nb_spend kk_ref kk_sum k1_ref k1_sum o_some o_none Option.getD_some Option.getD_none Option.isSome_some Option.isSome_none
theorem lnone_spec (nx : Nat) (n : LN) (x : LS) (hv : n.l < nx) : FnSpec Tryz.prog 24 nx [.ref n.l 0 []] [(n.l, some (.robj (ledA n x)))] (bA false) [] 0 := by
 have x1 := ltF hv
 refine FnSpec.of_code (cx := cx) (an := {}) (rs := [.tmp 2]) mo Tryz.func24 rfl rfl (by kernel_rfl) (by kernel_rfl) (by show 1 ≤ _; decide) (.inl rfl) (by simp [allWr, keys, Res.wr]) ?_
 repeat' (first | omega | assumption | (show AL.ahead _ _ _ = true; rfl) | (first | apply brF | apply brT | apply brVF | apply brVT) <;> intro _ | (with_reducible refine And.intro ?_ ?_) | (simp -dsimp -implicitDefEqProofs only [go_sem, x1, ledA]))
theorem ldone_spec (nx : Nat) (n : LN) (x : LS) (id : Sum) (hn : n.ok nx) :
  FnSpec Tryz.prog 8 nx [.ref n.l 0 [], sumA id] [(n.l, some (.robj (ledA n x))), (n.d, some (.rmp (donesE x.done)))] (.tup [optD (lookM id x.done), bA (lookM id x.done).isSome]) [] 0 := by
 have x1 := ltF hn.l
 have hnl := hn.l
 have x2 := ltF hn.d
 have x3 := neF hn.ne.1.2.2.2.2.2.1
 cases h : lookM id x.done with
 | none =>
  refine FnSpec.of_code (cx := cx) (an := {}) (rs := [.cell 4 51, .tmp 5]) mo Tryz.func8 rfl rfl (by kernel_rfl) (by kernel_rfl) (by show 2 ≤ _; decide) (.inr ⟨_, rfl, by simp [AV.good, optD, doneA]⟩) (by simp [allWr, keys, Res.wr]) ?_
  repeat' (first | omega | assumption | (show AL.ahead _ _ _ = true; rfl) | (first | apply brF | apply brT | apply brVF | apply brVT) <;> intro _ | (with_reducible refine And.intro ?_ ?_) | (refine callK_by (lnone_spec _ n x (by omega)) ?_) | (simp -dsimp -implicitDefEqProofs only [go_sem, x1, x2, x3, h, lookA_enc sumA_inj, optD, ledA]))
 | some c =>
  refine FnSpec.of_code (cx := cx) (an := {}) (rs := [.cell 4 51, .tmp 5]) mo Tryz.func8 rfl rfl (by kernel_rfl) (by kernel_rfl) (by show 2 ≤ _; decide) (.inr ⟨_, rfl, by simp [AV.good, optD, doneA]⟩) (by simp [allWr, keys, Res.wr]) ?_
  repeat' (first | omega | assumption | (show AL.ahead _ _ _ = true; rfl) | (first | apply brF | apply brT | apply brVF | apply brVT) <;> intro _ | (with_reducible refine And.intro ?_ ?_) | (refine callK_by (lnone_spec _ n x (by omega)) ?_) | (simp -dsimp -implicitDefEqProofs only [go_sem, x1, x2, x3, h, lookA_enc sumA_inj, optD, ledA]))
theorem lspent_spec (nx : Nat) (n : LN) (x : LS) (r : Ref_) (hn : n.ok nx) :
  FnSpec Tryz.prog 111 nx [.ref n.l 0 [], refA r] [(n.l, some (.robj (ledA n x))), (n.s, some (.rmp (spentE x.spent)))] (.tup [optS (lookM r x.spent), bA (lookM r x.spent).isSome]) [] 0 := by
 have x1 := ltF hn.l
 have hnl := hn.l
 have x2 := ltF hn.s
 have x3 := neF hn.ne.1.2.2.2.2.2.2.1
 cases h : lookM r x.spent with
 | none =>
  refine FnSpec.of_code (cx := cx) (an := {}) (rs := [.cell 4 133, .tmp 5]) mo Tryz.func111 rfl rfl (by kernel_rfl) (by kernel_rfl) (by show 2 ≤ _; decide) (.inr ⟨_, rfl, by simp [AV.good, optS, spendA]⟩) (by simp [allWr, keys, Res.wr]) ?_
  repeat' (first | omega | assumption | (show AL.ahead _ _ _ = true; rfl) | (first | apply brF | apply brT | apply brVF | apply brVT) <;> intro _ | (with_reducible refine And.intro ?_ ?_) | (refine callK_by (lnone_spec _ n x (by omega)) ?_) | (simp -dsimp -implicitDefEqProofs only [go_sem, x1, x2, x3, h, lookA_enc refA_inj, optS, spendA, ledA]))
 | some c =>
  refine FnSpec.of_code (cx := cx) (an := {}) (rs := [.cell 4 133, .tmp 5]) mo Tryz.func111 rfl rfl (by kernel_rfl) (by kernel_rfl) (by show 2 ≤ _; decide) (.inr ⟨_, rfl, by simp [AV.good, optS, spendA]⟩) (by simp [allWr, keys, Res.wr]) ?_
  repeat' (first | omega | assumption | (show AL.ahead _ _ _ = true; rfl) | (first | apply brF | apply brT | apply brVF | apply brVT) <;> intro _ | (with_reducible refine And.intro ?_ ?_) | (refine callK_by (lnone_spec _ n x (by omega)) ?_) | (simp -dsimp -implicitDefEqProofs only [go_sem, x1, x2, x3, h, lookA_enc refA_inj, optS, ledA]))
end Go.Proofs.YtaghcjbpjnpkbaaGreat

namespace Go.Proofs.YtaghcjbpjnpkbaaGreat
open Go Go.AL Go.Proofs.YtaghcjbpjnpkbaaGreat.T
noncomputable def putAll (id : Sum) (h : Int) : List Out_ → Nat → List (Ref_ × Coin_) → List (Ref_ × Coin_)
 | [], _, cs => cs
 | o :: r, i, cs => putAll id h r (i + 1) (putL ⟨id, (i : Int)⟩ o h cs)
theorem putAll_snoc (id : Sum) (h : Int) (o : Out_) : ∀ (l : List Out_) (i : Nat) (cs : List (Ref_ × Coin_)), putAll id h (l ++ [o]) i cs = putL ⟨id, ((i + l.length : Nat) : Int)⟩ o h (putAll id h l i cs)
 | [], i, cs => by simp [putAll]
 | a :: l, i, cs => by
  simp only [List.cons_append, putAll, List.length_cons]
  rw [putAll_snoc id h o l (i + 1)]
  have e : i + 1 + l.length = i + (l.length + 1) := by omega
  rw [e]
noncomputable def comeS (id : Sum) (t : Tx_) (h : Int) (x : LS) : LS := { x with done := setM id ⟨t, h⟩ x.done, order := x.order ++ [id], coins := putAll id h t.outs 0 x.coins }
theorem sums_snoc2 (l : List Sum) (s : Sum) : sumsA l ++ [sumA s] = sumsA (l ++ [s]) := by simp [sumsA]
theorem tA_p1 (t : Tx_) : (txA t).parts.getD 1 .undef = .sl 2 (outsA t.outs) 0 := rfl
theorem tA_off1 (t : Tx_) : (txA t).partOff 1 = 1 := rfl
theorem tA_len (t : Tx_) : (txA t).parts.length = 4 := rfl
attribute [local go_sem] nb_u8s u8s_length nb_sum List.length_replicate zero_sum sum_h u8s_nil nb_ref sums_len nb_sums refA_good refA_agg refA_csz doneA_good doneA_agg doneA_csz sum_csz sum_agg sumA_good nbK_ref nbK_sum nbV_done nbV_coin nb_done kk_ref kk_sum k1_ref k1_sum outs_len nb_outs nb_out1 outA_good outA_agg outA_csz txA_good txA_csz txA_agg nb_tx tA_p1 tA_off1 tA_len
theorem come_spec (nx : Nat) (n : LN) (x : LS) (id : Sum) (t : Tx_) (h : Int) (hn : n.ok nx) (ho : t.outs.length < 2 ^ 40) (hL : ∀ o ∈ t.outs, o.ways.length < 2 ^ 40 ∧ ∀ w ∈ o.ways, w.keys.length < 2 ^ 40) (hord : x.order.length < 2 ^ 40) :
  FnSpec Tryz.prog 47 nx [.ref n.l 0 [], sumA id, txA t, n64 h] [(n.l, some (.obj (ledA n x))), (n.v, some (.robj (.agg 1 [.map n.vm]))), (n.vm, some (.mp (coinsE x.coins))), (n.d, some (.mp (donesE x.done))), (n.o, some (.tail x.order.length))] (.tup [])
   [(n.l, some (.obj (ledA n (comeS id t h x)))), (n.vm, some (.mp (coinsE (comeS id t h x).coins))), (n.d, some (.mp (donesE (comeS id t h x).done))), (n.o, some (.tail (comeS id t h x).order.length))] 0 := by
 have xf := hn.xf
 have yf := hn.nf
 have hlt := hn.lt
 have b1 := hn.ne.2.1.1
 have hsl : (sumsA x.order).length + 1 = (x.order ++ [id]).length := by rw [sums_len]; simp
 have hset : setA (sumA id) (.agg 41 [txA t, n64 h]) (donesE x.done) = donesE (setM id ⟨t, h⟩ x.done) := setA_enc (vA := doneA) sumA_inj id (⟨t, h⟩ : Done_) x.done
 refine FnSpec.of_code (cx := cx) (an := {}) (rs := []) mo Tryz.func47 rfl rfl (by kernel_rfl) (by kernel_rfl) (by show 4 ≤ _; decide) (.inr ⟨_, rfl, by simp [AV.good]⟩) (by simp [allWr, keys, Res.wr]) ?_
 repeat' (first | omega | assumption | (show AL.ahead _ _ _ = true; rfl) | (first | apply brF | apply brT | apply brVF | apply brVT) <;> intro _ | (with_reducible refine And.intro ?_ ?_) | (simp -dsimp -implicitDefEqProofs only [go_sem, xf, yf, ledA, hset, sums_snoc2, hsl, List.append_eq, List.cons_append, List.nil_append]))
 apply loop_keep [0, 3, 5, 29, 30] (fun p : { p : Nat // p ≤ t.outs.length } => [(31, n64 p.1)]) (fun p => [(n.l, some (.obj (ledA n (comeS id t h x)))), (n.v, some (.robj (.agg 1 [.map n.vm]))), (n.vm, some (.mp (coinsE (putAll id h (t.outs.take p.1) 0 x.coins)))), (n.d, some (.mp (donesE (setM id ⟨t, h⟩ x.done)))), (n.o, some (.tail (x.order ++ [id]).length))]) (fun p => t.outs.length - p.1) ⟨0, Nat.zero_le _⟩
 ·simp -dsimp -implicitDefEqProofs only [go_sem]; try rfl
 ·simp -dsimp -implicitDefEqProofs only [go_sem]; try rfl
 ·simp -dsimp -implicitDefEqProofs only [go_sem, xf, yf, List.take_zero, putAll, ledA, comeS]; try rfl
 ·intro s
  simp -dsimp -implicitDefEqProofs only [go_sem, ledA, comeS]
  omega
 ·rintro ⟨i, hi⟩
  have hi : i ≤ t.outs.length := hi
  simp -dsimp -implicitDefEqProofs only [go_sem]
  refine brT (fun hc => ?_) (fun hc => ?_)
  ·have hi2 : i < t.outs.length := by omega
   have q1 := outs_get hi2
   have htk : t.outs.take (i + 1) = t.outs.take i ++ [t.outs[i]] := by rw [List.take_succ_eq_append_getElem hi2]
   have hpa := putAll_snoc id h t.outs[i] (t.outs.take i) 0 x.coins
   rw [← htk, List.length_take, Nat.min_eq_left hi, Nat.zero_add] at hpa
   obtain ⟨l1, l2⟩ := hL _ (List.getElem_mem hi2)
   generalize t.outs[i] = y at *
   have w1 : IntKind.i64.wrap ((i : Int) + 1) = ((i + 1 : Nat) : Int) := wrapE (by omega) (by omega)
   repeat' (first | omega | assumption | (show AL.ahead _ _ _ = true; rfl) | (first | apply brF | apply brT | apply brVF | apply brVT) <;> intro _ | (with_reducible refine And.intro ?_ ?_) | (refine callK_by (vput_spec _ n.v n.vm (putAll id h (t.outs.take i) 0 x.coins) ⟨id, (i : Int)⟩ y h (by omega) (by omega) b1 l1 l2) ?_) | (simp -dsimp -implicitDefEqProofs only [go_sem, q1, w1, xf, yf, ledA, comeS]))
   all_goals first
    | exact ⟨⟨i + 1, hi2⟩, by show t.outs.length - (i + 1) < t.outs.length - i; omega, rfl, by rw [hpa]⟩
    
  ·have e : t.outs.take i = t.outs := List.take_of_length_le (by omega)
   repeat' (first | omega | assumption | (show AL.ahead _ _ _ = true; rfl) | (first | apply brF | apply brT | apply brVF | apply brVT) <;> intro _ | (with_reducible refine And.intro ?_ ?_) | (simp -dsimp -implicitDefEqProofs only [go_sem, e, xf, yf, ledA, comeS]))
   all_goals rfl
end Go.Proofs.YtaghcjbpjnpkbaaGreat

namespace Go.Proofs.YtaghcjbpjnpkbaaGreat
open Go Go.AL Go.Proofs.YtaghcjbpjnpkbaaGreat.T
attribute [local go_sem] nb_u8s u8s_length nb_sum List.length_replicate zero_sum sum_h nb_vals vals_len u8s_nil sumA
abbrev opensP (w : Way_) (ks : List Int) (pre : List UInt8) (h age : Int) : Prop := (∀ k ∈ w.keys, k ∈ ks) ∧ (w.hash = zeroS ∨ joinS 31 [pre] = w.hash) ∧ w.after ≤ h ∧ w.wait ≤ age
noncomputable def opensB (w : Way_) (ks : List Int) (pre : List UInt8) (h age : Int) : Bool := @decide (opensP w ks pre h age) (Classical.propDecidable _)
theorem opensB_t {w : Way_} {ks : List Int} {pre : List UInt8} {h age : Int} (q : opensP w ks pre h age) : opensB w ks pre h age = true := @decide_eq_true _ (Classical.propDecidable _) q
theorem opensB_f {w : Way_} {ks : List Int} {pre : List UInt8} {h age : Int} (q : ¬ opensP w ks pre h age) : opensB w ks pre h age = false := @decide_eq_false _ (Classical.propDecidable _) q
theorem opens_spec (nx tk tp : Nat) (w : Way_) (ks : List Int) (pre : List UInt8) (h age : Int) (hw : w.keys.length < 2 ^ 40) (hl : ks.length < 2 ^ 40) (hp : pre.length < 2 ^ 39) (h1 : tk < 2 ∨ tk - 2 < nx) (h2 : tp < 2 ∨ tp - 2 < nx) :
  FnSpec Tryz.prog 94 nx [wayA w, .agg 4 [.sl 1 (vals .i64 ks) tk, .sl 1 (u8s pre) tp, n64 h, n64 age]] [] (bA (opensB w ks pre h age)) [] 0 := by
 have hcl := w.hash.h
 have hc := fun nc (q : nx ≤ nc) k => contN_spec nc tk ks k hl (by omega)
 have hh := fun nc (q : nx ≤ nc) => lhash_spec nc tp pre hp (by omega)
 refine FnSpec.of_code (cx := cx) (an := {}) (rs := [.tmp 4]) mo Tryz.func94 rfl rfl (by kernel_rfl) (by kernel_rfl) (by show 2 ≤ _; decide) (.inl rfl) (by simp [allWr, keys, Res.wr]) ?_
 repeat' (first | omega | assumption | (show AL.ahead _ _ _ = true; rfl) | (first | apply brF | apply brT | apply brVF | apply brVT) <;> intro _ | (with_reducible refine And.intro ?_ ?_) | (simp -dsimp -implicitDefEqProofs only [go_sem, wayA]))
 apply loop_keep [2, 3, 8, 9] (fun p : { p : Nat // p ≤ w.keys.length ∧ ∀ j (hj : j < w.keys.length), j < p → w.keys[j] ∈ ks } => [(10, n64 p.1)]) (fun _ => []) (fun p => w.keys.length - p.1) ⟨0, Nat.zero_le _, fun _ _ h => absurd h (Nat.not_lt_zero _)⟩
 ·simp -dsimp -implicitDefEqProofs only [go_sem]; try rfl
 ·simp -dsimp -implicitDefEqProofs only [go_sem]; try rfl
 ·simp -dsimp -implicitDefEqProofs only [go_sem]; try rfl
 ·intro s
  simp -dsimp -implicitDefEqProofs only [go_sem]
  try omega
 ·rintro ⟨i, hi, hall⟩
  have hi : i ≤ w.keys.length := hi
  simp -dsimp -implicitDefEqProofs only [go_sem]
  refine brT (fun hc1 => ?_) (fun hc1 => ?_)
  ·have hi2 : i < w.keys.length := by omega
   have q1 := vals_get (k := .i64) hi2
   have hg : w.keys.getD i 0 = w.keys[i] := by rw [List.getD_eq_getElem?_getD, List.getElem?_eq_getElem hi2]; rfl
   rw [hg] at q1
   have w1 : IntKind.i64.wrap ((i : Int) + 1) = ((i + 1 : Nat) : Int) := wrapE (by omega) (by omega)
   by_cases e : w.keys[i] ∈ ks
   ·have hc2 := fun nc (q : nx ≤ nc) => hc nc q w.keys[i]
    rw [decide_eq_true e] at hc2
    repeat' (first | omega | assumption | (show AL.ahead _ _ _ = true; rfl) | (first | apply brF | apply brT | apply brVF | apply brVT) <;> intro _ | (with_reducible refine And.intro ?_ ?_) | (refine callK_by (hc2 _ (by omega)) ?_) | (simp -dsimp -implicitDefEqProofs only [go_sem, q1, w1]))
    all_goals first
     | exact ⟨⟨i + 1, hi2, fun j hj hlt => by
        by_cases e2 : j = i
        ·subst e2; exact e
        ·exact hall j hj (by omega)⟩, by show w.keys.length - (i + 1) < w.keys.length - i; omega, rfl⟩
     
   ·have hc2 := fun nc (q : nx ≤ nc) => hc nc q w.keys[i]
    rw [decide_eq_false e] at hc2
    repeat' (first | omega | assumption | (show AL.ahead _ _ _ = true; rfl) | (first | apply brF | apply brT | apply brVF | apply brVT) <;> intro _ | (with_reducible refine And.intro ?_ ?_) | (refine callK_by (hc2 _ (by omega)) ?_) | (simp -dsimp -implicitDefEqProofs only [go_sem, q1, w1]))
    all_goals first
     | (rw [opensB_f (fun q => e (q.1 _ (List.getElem_mem hi2)))])
     
  ·have e : i = w.keys.length := by omega
   subst e
   have hk : ∀ k ∈ w.keys, k ∈ ks := fun k hk => by
    obtain ⟨j, hj, rfl⟩ := List.getElem_of_mem hk
    exact hall j hj hj
   by_cases z1 : w.hash = zeroS
   ·have e1 : eqB (AV.vec 1 (u8s w.hash.b)) (AV.vec 1 (u8s zeroS.b)) = true := by rw [z1]; exact eqB_yes rfl
    repeat' (first | omega | assumption | (show AL.ahead _ _ _ = true; rfl) | (first | apply brF | apply brT | apply brVF | apply brVT) <;> intro _ | (with_reducible refine And.intro ?_ ?_) | (refine callK_by (hh _ (by omega)) ?_) | (simp -dsimp -implicitDefEqProofs only [go_sem, wayA, e1, ↓cmp_sum, isSumT, decide_eq_true_eq, Bool.and_self]))
    all_goals first
     | (simp only [bA]; congr 2; unfold opensB; refine (@decide_eq_decide _ _ _ (Classical.propDecidable _)).2 ⟨fun q => ⟨hk, .inl z1, by omega, by omega⟩, fun q => by obtain ⟨_, _, q1, q2⟩ := q; omega⟩)
     | (rw [opensB_f (fun q => by obtain ⟨_, _, q1, q2⟩ := q; omega)])
     | (rw [opensB_t ⟨hk, .inl z1, by omega, by omega⟩])
     
   ·have e1 : eqB (AV.vec 1 (u8s w.hash.b)) (AV.vec 1 (u8s zeroS.b)) = false := eqB_no (fun q => z1 (sumA_inj _ _ q))
    by_cases z2 : joinS 31 [pre] = w.hash
    ·have e2 : eqB (AV.vec 1 (u8s (joinS 31 [pre]).b)) (AV.vec 1 (u8s w.hash.b)) = true := by rw [z2]; exact eqB_yes rfl
     repeat' (first | omega | assumption | (show AL.ahead _ _ _ = true; rfl) | (first | apply brF | apply brT | apply brVF | apply brVT) <;> intro _ | (with_reducible refine And.intro ?_ ?_) | (refine callK_by (hh _ (by omega)) ?_) | (simp -dsimp -implicitDefEqProofs only [go_sem, wayA, e1, e2, ↓cmp_sum, isSumT, decide_eq_true_eq, Bool.and_self]))
     all_goals first
      | (simp only [bA]; congr 2; unfold opensB; refine (@decide_eq_decide _ _ _ (Classical.propDecidable _)).2 ⟨fun q => ⟨hk, .inr z2, by omega, by omega⟩, fun q => by obtain ⟨_, _, q1, q2⟩ := q; omega⟩)
      | (rw [opensB_f (fun q => by obtain ⟨_, _, q1, q2⟩ := q; omega)])
      | (rw [opensB_t ⟨hk, .inr z2, by omega, by omega⟩])
      
    ·have e2 : eqB (AV.vec 1 (u8s (joinS 31 [pre]).b)) (AV.vec 1 (u8s w.hash.b)) = false := eqB_no (fun q => z2 (sumA_inj _ _ q))
     repeat' (first | omega | assumption | (show AL.ahead _ _ _ = true; rfl) | (first | apply brF | apply brT | apply brVF | apply brVT) <;> intro _ | (with_reducible refine And.intro ?_ ?_) | (refine callK_by (hh _ (by omega)) ?_) | (simp -dsimp -implicitDefEqProofs only [go_sem, wayA, e1, e2, ↓cmp_sum, isSumT, decide_eq_true_eq, Bool.and_self]))
     all_goals first
      | (rw [opensB_f (fun q => by obtain ⟨_, q0, _⟩ := q; exact q0.elim z1 z2)])
      
end Go.Proofs.YtaghcjbpjnpkbaaGreat

/-
  Boards: how much all towers have locked, what a tower holds, and what is free.
-/
import Derived.Test.YthfoeaokfhbdaaaGreatDP65
import Derived.Test.YthfoeaokfhbdaaaGreatDP72
import Derived.Test.YthfoeaokfhbdaaaGreatDP71
set_option linter.unusedSimpArgs false
set_option linter.unusedVariables false
set_option maxRecDepth 100000
set_option maxHeartbeats 1000000
namespace Go.Proofs.YthfoeaokfhbdaaaGreat
open Go Go.AL Go.Proofs.YthfoeaokfhbdaaaGreat.T
abbrev w64 (n : Int) : Int := IntKind.i64.wrap n
def sumI : List Int → Int
  | [] => 0
  | a :: r => a + sumI r
theorem sumI_perm {l l' : List Int} (h : l.Perm l') : sumI l = sumI l' := by
  induction h with
  | nil => rfl
  | cons _ _ ih => simp only [sumI, ih]
  | swap _ _ _ => simp only [sumI]; omega
  | trans _ _ h1 h2 => rw [h1, h2]
theorem seen_perm {n : Nat} {se : List Nat} (h1 : se.Nodup) (h2 : ∀ i ∈ se, i < n) (h3 : ∀ i, i < n → i ∈ se) : se.Perm (List.range n) := by
  rw [List.perm_iff_count]
  intro a
  rw [List.Nodup.count h1, List.Nodup.count List.nodup_range]
  by_cases h : a < n
  · rw [if_pos (h3 a h), if_pos (List.mem_range.2 h)]
  · rw [if_neg (fun q => h (h2 a q)), if_neg (fun q => h (List.mem_range.1 q))]
theorem seen_sum {α : Type} {d : α} (f : α → Int) {l l' : List α} {se : List Nat} (hp : l'.Perm l) (h1 : se.Nodup) (h2 : ∀ i ∈ se, i < l'.length) (h3 : ∀ i, i < l'.length → i ∈ se) : sumI (se.map fun i => f (l'.getD i d)) = sumI (l.map f) := by
  rw [sumI_perm ((seen_perm h1 h2 h3).map _), ← sumI_perm (hp.map f)]
  congr 1
  refine List.ext_getElem (by simp) fun i a b => ?_
  simp only [List.length_map] at b
  simp [List.getD_eq_getElem?_getD, List.getElem?_eq_getElem b]
theorem w64_add (a b : Int) : w64 (w64 a + b) = w64 (b + a) := by
  simp only [w64, IntKind.wrap_i64]; omega
theorem enc_get {K V : Type} {kA : K → AV} {vA : V → AV} {l : List (K × V)} {d : K × V} {i : Nat} (h : i < l.length) : (encM kA vA l).getD i (.undef, .undef) = (kA (l.getD i d).1, vA (l.getD i d).2) := by
  simp [encM, List.getD_eq_getElem?_getD, List.getElem?_map, List.getElem?_eq_getElem h]
/-- the places that a walk has seen -/
abbrev Seen (n : Nat) : Type := { se : List Nat // se.Nodup ∧ ∀ i ∈ se, i < n }
def Seen.nil {n : Nat} : Seen n := ⟨[], .nil, fun _ h => by simp at h⟩
theorem Seen.consOk {n : Nat} (s : Seen n) (i : Nat) (h : i < n) (hi : i ∉ s.1) : (i :: s.1).Nodup ∧ ∀ j ∈ i :: s.1, j < n := by
  refine ⟨List.nodup_cons.2 ⟨hi, s.2.1⟩, fun j hj => ?_⟩
  rcases List.mem_cons.1 hj with rfl | q
  · exact h
  · exact s.2.2 j q
def Seen.cons {n : Nat} (s : Seen n) (i : Nat) (h : i < n) (hi : i ∉ s.1) : Seen n := ⟨i :: s.1, s.consOk i h hi⟩
theorem Seen.lt {n : Nat} (s : Seen n) {i : Nat} (h : i < n) (hi : i ∉ s.1) : s.1.length < n := by
  obtain ⟨h1, h2⟩ := s.consOk i h hi
  have h3 : (i :: s.1) ⊆ List.range n := fun j hj => List.mem_range.2 (h2 j hj)
  have h4 := h1.length_le_of_subset h3
  simp only [List.length_cons, List.length_range] at h4
  omega
theorem view_enc {H : Heap} {X : Heap → Prop} {lx : Lock X} {K V : Type} {kA : K → AV} {vA : V → AV} (m : Nat) (l : List (K × V)) (h : H.get m = some (.rmp (encM kA vA l))) (hX : ∀ (l' : List (K × V)) (bs : List Nat) (clk : Nat), l'.Perm l → X ((m, some (.xmp (encM kA vA l') bs clk)) :: H)) : viewK X H lx :=
  view_pin m (fun p : K × V => (kA p.1, vA p.2)) l h (fun l' bs clk hp _ _ => hX l' bs clk hp)
attribute [local go_sem] nb_u8s u8s_length nb_sum List.length_replicate zero_sum sum_h u8s_nil towA_good towA_agg towA_csz holdA_good holdA_agg holdA_csz nbK_int nbK_pair nbV_tow nbV_hold nb_tow nb_hold kk_int kk_pair k1_pair o_some o_none Option.getD_some Option.getD_none Option.isSome_some Option.isSome_none enc_len sum_csz sum_agg
def tw0 : Int × Tw_ := (0, ⟨zeroS, 0, 0, 0⟩)
def hd0 : (Int × Int) × Hold_ := ((0, 0), ⟨⟨0, 0, 0, ⟨zeroS, 0⟩, 0, 0, 0⟩, 0, false, 0, zeroS⟩)
def totT (ts : List (Int × Tw_)) : Int := w64 (sumI (ts.map fun p => p.2.locked))
theorem btotal_spec (nx b tm hm : Nat) (ts : List (Int × Tw_)) (hb : b < nx) (ht : tm < nx) (h1 : b ≠ tm) :
    FnSpec Tryz.prog 66 nx [.ref b 0 []] [(b, some (.robj (boardA tm hm))), (tm, some (.rmp (towsE ts)))] (n64 (totT ts)) [] 0 := by
  have x1 := ltF hb
  have x2 := ltF ht
  have y1 := neF h1
  refine FnSpec.of_code (cx := cx) (an := {vw := [4], nxt := [5]}) (rs := [.tmp 2]) mo Tryz.func66 rfl rfl (by kernel_rfl) (by kernel_rfl) (by show 1 ≤ _; decide) (.inl rfl) (by simp [allWr, keys, Res.wr]) ?_
  repeat' (first | omega | assumption | (show AL.ahead _ _ _ = true; rfl) | refine brF (fun _ => ?_) (fun _ => ?_) | refine brT (fun _ => ?_) (fun _ => ?_) | refine brVF (fun _ => ?_) (fun _ => ?_) | refine brVT (fun _ => ?_) (fun _ => ?_) | (with_reducible refine And.intro ?_ ?_) | (refine callK_by (bnone2_spec _ b tm hm (by omega)) ?_) | (simp -dsimp -implicitDefEqProofs only [go_sem, ↓reduceIte, Nat.reduceEqDiff, Nat.reduceAdd, Nat.reduceMul, Nat.reduceLeDiff, Nat.reduceLT, Nat.reduceBEq, Nat.reducePow, Int.reduceToNat, Int.reduceLE, Int.reduceLT, Int.reduceNeg, reduceCtorEq, Int.reduceEq, Int.reduceAdd, Int.reduceSub, Int.reduceMul, Nat.reduceSub, x1, x2, y1, boardA]))
  refine view_enc (kA := n64) (vA := towA) tm ts (by simp only [Heap.get, y1, if_true, if_false]) (fun l' bs clk hp => ?_)
  repeat' (first | omega | assumption | (show AL.ahead _ _ _ = true; rfl) | refine brF (fun _ => ?_) (fun _ => ?_) | refine brT (fun _ => ?_) (fun _ => ?_) | refine brVF (fun _ => ?_) (fun _ => ?_) | refine brVT (fun _ => ?_) (fun _ => ?_) | (with_reducible refine And.intro ?_ ?_) | (simp -dsimp -implicitDefEqProofs only [go_sem, ↓reduceIte, Nat.reduceEqDiff, Nat.reduceAdd, Nat.reduceMul, Nat.reduceLeDiff, Nat.reduceLT, Nat.reduceBEq, Nat.reducePow, Int.reduceToNat, Int.reduceLE, Int.reduceLT, Int.reduceNeg, reduceCtorEq, Int.reduceEq, Int.reduceAdd, Int.reduceSub, Int.reduceMul, Nat.reduceSub, x1, x2, y1, boardA]))
  apply loop_keep [13] (fun se : Seen l'.length => [(3, n64 (w64 (sumI (se.1.map fun i => (l'.getD i tw0).2.locked))))]) (fun se => [(nx + 64, some (.itr tm bs clk se.1)), (tm, some (.xmp (towsE l') bs clk))]) (fun se => l'.length - se.1.length) Seen.nil
  · simp -dsimp -implicitDefEqProofs only [go_sem, ↓reduceIte, Nat.reduceEqDiff, Nat.reduceAdd, Nat.reduceMul, Nat.reduceLeDiff, Nat.reduceLT, Nat.reduceBEq, Nat.reducePow, Int.reduceToNat, Int.reduceLE, Int.reduceLT, Int.reduceNeg, reduceCtorEq, Int.reduceEq, Int.reduceAdd, Int.reduceSub, Int.reduceMul, Nat.reduceSub]; try rfl
  · simp -dsimp -implicitDefEqProofs only [go_sem, ↓reduceIte, Nat.reduceEqDiff, Nat.reduceAdd, Nat.reduceMul, Nat.reduceLeDiff, Nat.reduceLT, Nat.reduceBEq, Nat.reducePow, Int.reduceToNat, Int.reduceLE, Int.reduceLT, Int.reduceNeg, reduceCtorEq, Int.reduceEq, Int.reduceAdd, Int.reduceSub, Int.reduceMul, Nat.reduceSub]; try rfl
  · simp -dsimp -implicitDefEqProofs only [go_sem, ↓reduceIte, Nat.reduceEqDiff, Nat.reduceAdd, Nat.reduceMul, Nat.reduceLeDiff, Nat.reduceLT, Nat.reduceBEq, Nat.reducePow, Int.reduceToNat, Int.reduceLE, Int.reduceLT, Int.reduceNeg, reduceCtorEq, Int.reduceEq, Int.reduceAdd, Int.reduceSub, Int.reduceMul, Nat.reduceSub, x1, x2, y1]; try rfl
  · intro s
    simp -dsimp -implicitDefEqProofs only [go_sem, ↓reduceIte, Nat.reduceEqDiff, Nat.reduceAdd, Nat.reduceMul, Nat.reduceLeDiff, Nat.reduceLT, Nat.reduceBEq, Nat.reducePow, Int.reduceToNat, Int.reduceLE, Int.reduceLT, Int.reduceNeg, reduceCtorEq, Int.reduceEq, Int.reduceAdd, Int.reduceSub, Int.reduceMul, Nat.reduceSub]
    try omega
  · intro se
    simp -dsimp -implicitDefEqProofs only [go_sem, ↓reduceIte, Nat.reduceEqDiff, Nat.reduceAdd, Nat.reduceMul, Nat.reduceLeDiff, Nat.reduceLT, Nat.reduceBEq, Nat.reducePow, Int.reduceToNat, Int.reduceLE, Int.reduceLT, Int.reduceNeg, reduceCtorEq, Int.reduceEq, Int.reduceAdd, Int.reduceSub, Int.reduceMul, Nat.reduceSub, x1, x2, y1]
    refine steps_by (fun j hj => se.2.2 j hj) (fun hall => ?_) (fun i hi hni => ?_)
    · repeat' (first | omega | assumption | (show AL.ahead _ _ _ = true; rfl) | refine brF (fun _ => ?_) (fun _ => ?_) | refine brT (fun _ => ?_) (fun _ => ?_) | refine brVF (fun _ => ?_) (fun _ => ?_) | refine brVT (fun _ => ?_) (fun _ => ?_) | (with_reducible refine And.intro ?_ ?_) | (simp -dsimp -implicitDefEqProofs only [go_sem, ↓reduceIte, Nat.reduceEqDiff, Nat.reduceAdd, Nat.reduceMul, Nat.reduceLeDiff, Nat.reduceLT, Nat.reduceBEq, Nat.reducePow, Int.reduceToNat, Int.reduceLE, Int.reduceLT, Int.reduceNeg, reduceCtorEq, Int.reduceEq, Int.reduceAdd, Int.reduceSub, Int.reduceMul, Nat.reduceSub]))
      all_goals (rw [totT, ← seen_sum (d := tw0) (fun p : Int × Tw_ => p.2.locked) hp se.2.1 se.2.2 hall])
    · have hg := enc_get (kA := n64) (vA := towA) (d := tw0) hi
      repeat' (first | omega | assumption | (show AL.ahead _ _ _ = true; rfl) | refine brF (fun _ => ?_) (fun _ => ?_) | refine brT (fun _ => ?_) (fun _ => ?_) | refine brVF (fun _ => ?_) (fun _ => ?_) | refine brVT (fun _ => ?_) (fun _ => ?_) | (with_reducible refine And.intro ?_ ?_) | (simp -dsimp -implicitDefEqProofs only [go_sem, ↓reduceIte, Nat.reduceEqDiff, Nat.reduceAdd, Nat.reduceMul, Nat.reduceLeDiff, Nat.reduceLT, Nat.reduceBEq, Nat.reducePow, Int.reduceToNat, Int.reduceLE, Int.reduceLT, Int.reduceNeg, reduceCtorEq, Int.reduceEq, Int.reduceAdd, Int.reduceSub, Int.reduceMul, Nat.reduceSub, x1, x2, y1, hg, hi, towA, w64_add]))
      all_goals first
        | exact ⟨se.cons i hi hni, by have := se.lt hi hni; show l'.length - (se.1.length + 1) < l'.length - se.1.length; omega, rfl, rfl⟩
        | trace_state
def hldF (t : Int) (p : (Int × Int) × Hold_) : Int := if p.1.1 = t then p.2.amount else 0
def heldT (t : Int) (hs : List ((Int × Int) × Hold_)) : Int := w64 (sumI (hs.map (hldF t)))
theorem bheld_spec (nx b tm hm : Nat) (hs : List ((Int × Int) × Hold_)) (t : Int) (hb : b < nx) (hh : hm < nx) (h1 : b ≠ hm) :
    FnSpec Tryz.prog 190 nx [.ref b 0 [], n64 t] [(b, some (.robj (boardA tm hm))), (hm, some (.rmp (holdsE hs)))] (n64 (heldT t hs)) [] 0 := by
  have x1 := ltF hb
  have x2 := ltF hh
  have y1 := neF h1
  refine FnSpec.of_code (cx := cx) (an := {vw := [4], nxt := [5]}) (rs := [.tmp 4]) mo Tryz.func190 rfl rfl (by kernel_rfl) (by kernel_rfl) (by show 2 ≤ _; decide) (.inl rfl) (by simp [allWr, keys, Res.wr]) ?_
  repeat' (first | omega | assumption | (show AL.ahead _ _ _ = true; rfl) | refine brF (fun _ => ?_) (fun _ => ?_) | refine brT (fun _ => ?_) (fun _ => ?_) | refine brVF (fun _ => ?_) (fun _ => ?_) | refine brVT (fun _ => ?_) (fun _ => ?_) | (with_reducible refine And.intro ?_ ?_) | (refine callK_by (bnone2_spec _ b tm hm (by omega)) ?_) | (simp -dsimp -implicitDefEqProofs only [go_sem, ↓reduceIte, Nat.reduceEqDiff, Nat.reduceAdd, Nat.reduceMul, Nat.reduceLeDiff, Nat.reduceLT, Nat.reduceBEq, Nat.reducePow, Int.reduceToNat, Int.reduceLE, Int.reduceLT, Int.reduceNeg, reduceCtorEq, Int.reduceEq, Int.reduceAdd, Int.reduceSub, Int.reduceMul, Nat.reduceSub, x1, x2, y1, boardA]))
  refine view_enc (kA := pairKA) (vA := holdA) hm hs (by simp only [Heap.get, y1, if_true, if_false]) (fun l' bs clk hp => ?_)
  repeat' (first | omega | assumption | (show AL.ahead _ _ _ = true; rfl) | refine brF (fun _ => ?_) (fun _ => ?_) | refine brT (fun _ => ?_) (fun _ => ?_) | refine brVF (fun _ => ?_) (fun _ => ?_) | refine brVT (fun _ => ?_) (fun _ => ?_) | (with_reducible refine And.intro ?_ ?_) | (simp -dsimp -implicitDefEqProofs only [go_sem, ↓reduceIte, Nat.reduceEqDiff, Nat.reduceAdd, Nat.reduceMul, Nat.reduceLeDiff, Nat.reduceLT, Nat.reduceBEq, Nat.reducePow, Int.reduceToNat, Int.reduceLE, Int.reduceLT, Int.reduceNeg, reduceCtorEq, Int.reduceEq, Int.reduceAdd, Int.reduceSub, Int.reduceMul, Nat.reduceSub, x1, x2, y1, boardA]))
  apply loop_keep [1, 15] (fun se : Seen l'.length => [(5, n64 (w64 (sumI (se.1.map fun i => hldF t (l'.getD i hd0)))))]) (fun se => [(nx + 64, some (.itr hm bs clk se.1)), (hm, some (.xmp (holdsE l') bs clk))]) (fun se => l'.length - se.1.length) Seen.nil
  · simp -dsimp -implicitDefEqProofs only [go_sem, ↓reduceIte, Nat.reduceEqDiff, Nat.reduceAdd, Nat.reduceMul, Nat.reduceLeDiff, Nat.reduceLT, Nat.reduceBEq, Nat.reducePow, Int.reduceToNat, Int.reduceLE, Int.reduceLT, Int.reduceNeg, reduceCtorEq, Int.reduceEq, Int.reduceAdd, Int.reduceSub, Int.reduceMul, Nat.reduceSub]; try rfl
  · simp -dsimp -implicitDefEqProofs only [go_sem, ↓reduceIte, Nat.reduceEqDiff, Nat.reduceAdd, Nat.reduceMul, Nat.reduceLeDiff, Nat.reduceLT, Nat.reduceBEq, Nat.reducePow, Int.reduceToNat, Int.reduceLE, Int.reduceLT, Int.reduceNeg, reduceCtorEq, Int.reduceEq, Int.reduceAdd, Int.reduceSub, Int.reduceMul, Nat.reduceSub]; try rfl
  · simp -dsimp -implicitDefEqProofs only [go_sem, ↓reduceIte, Nat.reduceEqDiff, Nat.reduceAdd, Nat.reduceMul, Nat.reduceLeDiff, Nat.reduceLT, Nat.reduceBEq, Nat.reducePow, Int.reduceToNat, Int.reduceLE, Int.reduceLT, Int.reduceNeg, reduceCtorEq, Int.reduceEq, Int.reduceAdd, Int.reduceSub, Int.reduceMul, Nat.reduceSub, x1, x2, y1]; try rfl
  · intro s
    simp -dsimp -implicitDefEqProofs only [go_sem, ↓reduceIte, Nat.reduceEqDiff, Nat.reduceAdd, Nat.reduceMul, Nat.reduceLeDiff, Nat.reduceLT, Nat.reduceBEq, Nat.reducePow, Int.reduceToNat, Int.reduceLE, Int.reduceLT, Int.reduceNeg, reduceCtorEq, Int.reduceEq, Int.reduceAdd, Int.reduceSub, Int.reduceMul, Nat.reduceSub]
    try omega
  · intro se
    simp -dsimp -implicitDefEqProofs only [go_sem, ↓reduceIte, Nat.reduceEqDiff, Nat.reduceAdd, Nat.reduceMul, Nat.reduceLeDiff, Nat.reduceLT, Nat.reduceBEq, Nat.reducePow, Int.reduceToNat, Int.reduceLE, Int.reduceLT, Int.reduceNeg, reduceCtorEq, Int.reduceEq, Int.reduceAdd, Int.reduceSub, Int.reduceMul, Nat.reduceSub, x1, x2, y1]
    refine steps_by (fun j hj => se.2.2 j hj) (fun hall => ?_) (fun i hi hni => ?_)
    · repeat' (first | omega | assumption | (show AL.ahead _ _ _ = true; rfl) | refine brF (fun _ => ?_) (fun _ => ?_) | refine brT (fun _ => ?_) (fun _ => ?_) | refine brVF (fun _ => ?_) (fun _ => ?_) | refine brVT (fun _ => ?_) (fun _ => ?_) | (with_reducible refine And.intro ?_ ?_) | (simp -dsimp -implicitDefEqProofs only [go_sem, ↓reduceIte, Nat.reduceEqDiff, Nat.reduceAdd, Nat.reduceMul, Nat.reduceLeDiff, Nat.reduceLT, Nat.reduceBEq, Nat.reducePow, Int.reduceToNat, Int.reduceLE, Int.reduceLT, Int.reduceNeg, reduceCtorEq, Int.reduceEq, Int.reduceAdd, Int.reduceSub, Int.reduceMul, Nat.reduceSub]))
      all_goals (rw [heldT, ← seen_sum (d := hd0) (hldF t) hp se.2.1 se.2.2 hall])
    · have hg := enc_get (kA := pairKA) (vA := holdA) (d := hd0) hi
      have hlt := se.lt hi hni
      by_cases e : (l'.getD i hd0).1.1 = t
      · have e2 : ((l'.getD i hd0).1.1 = t) = True := eq_true e
        have e3 : hldF t (l'.getD i hd0) = (l'.getD i hd0).2.amount := by unfold hldF; rw [if_pos e]
        repeat' (first | omega | assumption | (show AL.ahead _ _ _ = true; rfl) | refine brF (fun _ => ?_) (fun _ => ?_) | refine brT (fun _ => ?_) (fun _ => ?_) | refine brVF (fun _ => ?_) (fun _ => ?_) | refine brVT (fun _ => ?_) (fun _ => ?_) | (with_reducible refine And.intro ?_ ?_) | (simp -dsimp -implicitDefEqProofs only [go_sem, ↓reduceIte, Nat.reduceEqDiff, Nat.reduceAdd, Nat.reduceMul, Nat.reduceLeDiff, Nat.reduceLT, Nat.reduceBEq, Nat.reducePow, Int.reduceToNat, Int.reduceLE, Int.reduceLT, Int.reduceNeg, reduceCtorEq, Int.reduceEq, Int.reduceAdd, Int.reduceSub, Int.reduceMul, Nat.reduceSub, x1, x2, y1, hg, hi, pairKA, holdA, chanA, refA, w64_add, e2]))
        all_goals first
          | exact ⟨se.cons i hi hni, by show l'.length - (se.1.length + 1) < l'.length - se.1.length; omega, by show _ = n64 (w64 (hldF t _ + _)); rw [e3], rfl⟩
          | trace_state
      · have e2 : ((l'.getD i hd0).1.1 = t) = False := eq_false e
        have e3 : hldF t (l'.getD i hd0) = 0 := by unfold hldF; rw [if_neg e]
        repeat' (first | omega | assumption | (show AL.ahead _ _ _ = true; rfl) | refine brF (fun _ => ?_) (fun _ => ?_) | refine brT (fun _ => ?_) (fun _ => ?_) | refine brVF (fun _ => ?_) (fun _ => ?_) | refine brVT (fun _ => ?_) (fun _ => ?_) | (with_reducible refine And.intro ?_ ?_) | (simp -dsimp -implicitDefEqProofs only [go_sem, ↓reduceIte, Nat.reduceEqDiff, Nat.reduceAdd, Nat.reduceMul, Nat.reduceLeDiff, Nat.reduceLT, Nat.reduceBEq, Nat.reducePow, Int.reduceToNat, Int.reduceLE, Int.reduceLT, Int.reduceNeg, reduceCtorEq, Int.reduceEq, Int.reduceAdd, Int.reduceSub, Int.reduceMul, Nat.reduceSub, x1, x2, y1, hg, hi, pairKA, holdA, chanA, refA, w64_add, e2]))
        all_goals first
          | exact ⟨se.cons i hi hni, by show l'.length - (se.1.length + 1) < l'.length - se.1.length; omega, by show _ = n64 (w64 (hldF t _ + _)); rw [e3, Int.zero_add], rfl⟩
          | trace_state
def twZ : Tw_ := ⟨zeroS, 0, 0, 0⟩
def hdZ : Hold_ := ⟨⟨0, 0, 0, ⟨zeroS, 0⟩, 0, 0, 0⟩, 0, false, 0, zeroS⟩
theorem optT_eq (o : Option Tw_) : optT o = towA (o.getD twZ) := by cases o <;> rfl
theorem optH_eq (o : Option Hold_) : optH o = holdA (o.getD hdZ) := by cases o <;> rfl
noncomputable def freeT (t : Int) (ts : List (Int × Tw_)) (hs : List ((Int × Int) × Hold_)) : Int := w64 (w64 (((lookM t ts).getD twZ).locked - ((lookM t ts).getD twZ).asked) - heldT t hs)
theorem bfree_spec (nx b tm hm : Nat) (ts : List (Int × Tw_)) (hs : List ((Int × Int) × Hold_)) (t : Int) (hb : b < nx) (ht : tm < nx) (hh : hm < nx) (h1 : b ≠ tm) (h2 : b ≠ hm) (h3 : tm ≠ hm) :
    FnSpec Tryz.prog 164 nx [.ref b 0 [], n64 t] (boardR b tm hm ts hs) (n64 (freeT t ts hs)) [] 0 := by
  have x1 := ltF hb
  have x2 := ltF ht
  have x3 := ltF hh
  have y1 := neF h1
  have y2 := neF h2
  have y3 := neF h3
  have hg := fun nc (q1 : b < nc) (q2 : tm < nc) => bget_spec nc b tm hm ts t q1 q2 h1
  have hl := fun nc (q1 : b < nc) (q2 : hm < nc) => bheld_spec nc b tm hm hs t q1 q2 h2
  simp only [optT_eq] at hg
  refine FnSpec.of_code (cx := cx) (an := {}) (rs := [.tmp 4]) mo Tryz.func164 rfl rfl (by kernel_rfl) (by kernel_rfl) (by show 2 ≤ _; decide) (.inl rfl) (by simp [allWr, keys, Res.wr]) ?_
  repeat' (first | omega | assumption | (show AL.ahead _ _ _ = true; rfl) | refine brF (fun _ => ?_) (fun _ => ?_) | refine brT (fun _ => ?_) (fun _ => ?_) | refine brVF (fun _ => ?_) (fun _ => ?_) | refine brVT (fun _ => ?_) (fun _ => ?_) | (with_reducible refine And.intro ?_ ?_) | (refine callK_by (hg _ (by omega) (by omega)) ?_) | (refine callK_by (hl _ (by omega) (by omega)) ?_) | (simp -dsimp -implicitDefEqProofs only [go_sem, ↓reduceIte, Nat.reduceEqDiff, Nat.reduceAdd, Nat.reduceMul, Nat.reduceLeDiff, Nat.reduceLT, Nat.reduceBEq, Nat.reducePow, Int.reduceToNat, Int.reduceLE, Int.reduceLT, Int.reduceNeg, reduceCtorEq, Int.reduceEq, Int.reduceAdd, Int.reduceSub, Int.reduceMul, Nat.reduceSub, x1, x2, x3, y1, y2, y3, boardA, towA]))
  all_goals first | rfl | trace_state
end Go.Proofs.YthfoeaokfhbdaaaGreat

/-
  Is a number in a list; which keys signed; is a way open.
-/
set_option linter.unusedSimpArgs false
set_option linter.unusedVariables false
set_option maxRecDepth 100000
set_option maxHeartbeats 1000000
namespace Go.Proofs.YthfoeaokfhbdaaaGreat
open Go Go.AL Go.Proofs.YthfoeaokfhbdaaaGreat.T
attribute [local go_sem] nb_u8s u8s_length nb_sum sumA List.length_replicate zero_sum sum_h nb_vals vals_len u8s_nil ways_len nb_ways ins_len outs_len signs_len nb_ins nb_outs nb_signs
/-- the first place of a number, from i on -/
def idxN (k : Int) : List Int → Int → Int
  | [], _ => -1
  | a :: r, i => if k = a then i else idxN k r (i + 1)
theorem idxN_ge (k : Int) : ∀ (l : List Int) (i : Int), 0 ≤ i → (0 ≤ idxN k l i ↔ k ∈ l) ∧ (idxN k l i < 0 ↔ k ∉ l)
  | [], i, h => by simp [idxN]
  | a :: r, i, h => by
    have ih := idxN_ge k r (i + 1) (by omega)
    by_cases e : k = a
    · subst e; simp [idxN]; omega
    · simp only [idxN, if_neg e, List.mem_cons, e, false_or]; exact ih
theorem idxI_spec2 (nx tok : Nat) (l : List Int) (k : Int) (hl : l.length < 2 ^ 40) (ht : tok < 2 ∨ tok - 2 < nx) : FnSpec Tryz.prog 163 nx [.sl 1 (vals .i64 l) tok, n64 k] [] (n64 (idxN k l 0)) [] 0 := by
  obtain ⟨R, hR⟩ : ∃ R, R = idxN k l 0 := ⟨_, rfl⟩
  rw [← hR]
  refine FnSpec.of_code (cx := cx) (an := {}) (rs := [.tmp 4]) mo Tryz.func163 rfl rfl (by kernel_rfl) (by kernel_rfl) (by show 2 ≤ _; decide) (.inl rfl) (by simp [allWr, keys, Res.wr]) ?_
  repeat' (first | omega | assumption | (show AL.ahead _ _ _ = true; rfl) | refine brF (fun _ => ?_) (fun _ => ?_) | refine brT (fun _ => ?_) (fun _ => ?_) | refine brVF (fun _ => ?_) (fun _ => ?_) | refine brVT (fun _ => ?_) (fun _ => ?_) | (with_reducible refine And.intro ?_ ?_) | (simp -dsimp -implicitDefEqProofs only [go_sem, ↓reduceIte, Nat.reduceEqDiff, Nat.reduceAdd, Nat.reduceMul, Nat.reduceLeDiff, Nat.reduceLT, Nat.reduceBEq, Nat.reducePow, Int.reduceToNat, Int.reduceLE, Int.reduceLT, Int.reduceNeg, reduceCtorEq, Int.reduceEq, Int.reduceAdd, Int.reduceSub, Int.reduceMul, Nat.reduceSub]))
  apply loop_keep [0, 1, 7] (fun p : { p : Nat // p ≤ l.length ∧ idxN k (l.drop p) p = R } => [(8, n64 p.1)]) (fun _ => []) (fun p => l.length - p.1) ⟨0, Nat.zero_le _, by rw [hR]; rfl⟩
  · simp -dsimp -implicitDefEqProofs only [go_sem, ↓reduceIte, Nat.reduceEqDiff, Nat.reduceAdd, Nat.reduceMul, Nat.reduceLeDiff, Nat.reduceLT, Nat.reduceBEq, Nat.reducePow, Int.reduceToNat, Int.reduceLE, Int.reduceLT, Int.reduceNeg, reduceCtorEq, Int.reduceEq, Int.reduceAdd, Int.reduceSub, Int.reduceMul, Nat.reduceSub]; try rfl
  · simp -dsimp -implicitDefEqProofs only [go_sem, ↓reduceIte, Nat.reduceEqDiff, Nat.reduceAdd, Nat.reduceMul, Nat.reduceLeDiff, Nat.reduceLT, Nat.reduceBEq, Nat.reducePow, Int.reduceToNat, Int.reduceLE, Int.reduceLT, Int.reduceNeg, reduceCtorEq, Int.reduceEq, Int.reduceAdd, Int.reduceSub, Int.reduceMul, Nat.reduceSub]; try rfl
  · simp -dsimp -implicitDefEqProofs only [go_sem, ↓reduceIte, Nat.reduceEqDiff, Nat.reduceAdd, Nat.reduceMul, Nat.reduceLeDiff, Nat.reduceLT, Nat.reduceBEq, Nat.reducePow, Int.reduceToNat, Int.reduceLE, Int.reduceLT, Int.reduceNeg, reduceCtorEq, Int.reduceEq, Int.reduceAdd, Int.reduceSub, Int.reduceMul, Nat.reduceSub]; try rfl
  · intro s
    simp -dsimp -implicitDefEqProofs only [go_sem, ↓reduceIte, Nat.reduceEqDiff, Nat.reduceAdd, Nat.reduceMul, Nat.reduceLeDiff, Nat.reduceLT, Nat.reduceBEq, Nat.reducePow, Int.reduceToNat, Int.reduceLE, Int.reduceLT, Int.reduceNeg, reduceCtorEq, Int.reduceEq, Int.reduceAdd, Int.reduceSub, Int.reduceMul, Nat.reduceSub]
    try omega
  · rintro ⟨i, hi, hall⟩
    have hi : i ≤ l.length := hi
    simp -dsimp -implicitDefEqProofs only [go_sem, ↓reduceIte, Nat.reduceEqDiff, Nat.reduceAdd, Nat.reduceMul, Nat.reduceLeDiff, Nat.reduceLT, Nat.reduceBEq, Nat.reducePow, Int.reduceToNat, Int.reduceLE, Int.reduceLT, Int.reduceNeg, reduceCtorEq, Int.reduceEq, Int.reduceAdd, Int.reduceSub, Int.reduceMul, Nat.reduceSub]
    refine brT (fun hc => ?_) (fun hc => ?_)
    · have hi2 : i < l.length := by omega
      have q1 := vals_get (k := .i64) hi2
      have hd := List.drop_eq_getElem_cons hi2
      have hg : l.getD i 0 = l[i] := by rw [List.getD_eq_getElem?_getD, List.getElem?_eq_getElem hi2]; rfl
      rw [hd] at hall
      rw [hg] at q1
      generalize l[i] = y at *
      have w1 : IntKind.i64.wrap ((i : Int) + 1) = ((i + 1 : Nat) : Int) := wrapE (by omega) (by omega)
      by_cases e : k = y
      · rw [idxN, if_pos e] at hall
        subst e
        repeat' (first | omega | assumption | (show AL.ahead _ _ _ = true; rfl) | refine brF (fun _ => ?_) (fun _ => ?_) | refine brT (fun _ => ?_) (fun _ => ?_) | refine brVF (fun _ => ?_) (fun _ => ?_) | refine brVT (fun _ => ?_) (fun _ => ?_) | (with_reducible refine And.intro ?_ ?_) | (simp -dsimp -implicitDefEqProofs only [go_sem, ↓reduceIte, Nat.reduceEqDiff, Nat.reduceAdd, Nat.reduceMul, Nat.reduceLeDiff, Nat.reduceLT, Nat.reduceBEq, Nat.reducePow, Int.reduceToNat, Int.reduceLE, Int.reduceLT, Int.reduceNeg, reduceCtorEq, Int.reduceEq, Int.reduceAdd, Int.reduceSub, Int.reduceMul, Nat.reduceSub, q1, w1]))
        all_goals first | (rw [← hall]) | trace_state
      · rw [idxN, if_neg e] at hall
        have e2 : (k = y) = False := by simp [e]
        repeat' (first | omega | assumption | (show AL.ahead _ _ _ = true; rfl) | refine brF (fun _ => ?_) (fun _ => ?_) | refine brT (fun _ => ?_) (fun _ => ?_) | refine brVF (fun _ => ?_) (fun _ => ?_) | refine brVT (fun _ => ?_) (fun _ => ?_) | (with_reducible refine And.intro ?_ ?_) | (simp -dsimp -implicitDefEqProofs only [go_sem, ↓reduceIte, Nat.reduceEqDiff, Nat.reduceAdd, Nat.reduceMul, Nat.reduceLeDiff, Nat.reduceLT, Nat.reduceBEq, Nat.reducePow, Int.reduceToNat, Int.reduceLE, Int.reduceLT, Int.reduceNeg, reduceCtorEq, Int.reduceEq, Int.reduceAdd, Int.reduceSub, Int.reduceMul, Nat.reduceSub, q1, w1, e2]))
        all_goals first | exact ⟨⟨i + 1, hi2, by have : ((i + 1 : Nat) : Int) = (i : Int) + 1 := by omega
                                                 rw [this]; exact hall⟩, by show l.length - (i + 1) < l.length - i; omega, rfl⟩ | trace_state
    · have e : i = l.length := by omega
      subst e
      rw [List.drop_length, idxN] at hall
      repeat' (first | omega | assumption | (show AL.ahead _ _ _ = true; rfl) | refine brF (fun _ => ?_) (fun _ => ?_) | refine brT (fun _ => ?_) (fun _ => ?_) | refine brVF (fun _ => ?_) (fun _ => ?_) | refine brVT (fun _ => ?_) (fun _ => ?_) | (with_reducible refine And.intro ?_ ?_) | (simp -dsimp -implicitDefEqProofs only [go_sem, ↓reduceIte, Nat.reduceEqDiff, Nat.reduceAdd, Nat.reduceMul, Nat.reduceLeDiff, Nat.reduceLT, Nat.reduceBEq, Nat.reducePow, Int.reduceToNat, Int.reduceLE, Int.reduceLT, Int.reduceNeg, reduceCtorEq, Int.reduceEq, Int.reduceAdd, Int.reduceSub, Int.reduceMul, Nat.reduceSub]))
      all_goals first | (rw [← hall]) | trace_state
theorem contN_spec (nx tok : Nat) (l : List Int) (k : Int) (hl : l.length < 2 ^ 40) (ht : tok < 2 ∨ tok - 2 < nx) : FnSpec Tryz.prog 117 nx [.sl 1 (vals .i64 l) tok, n64 k] [] (bA (decide (k ∈ l))) [] 0 := by
  have hi := fun nc (h : nx ≤ nc) => idxI_spec2 nc tok l k hl (by omega)
  obtain ⟨h1, h2⟩ := idxN_ge k l 0 (by omega)
  refine FnSpec.of_code (cx := cx) (an := {}) (rs := [.tmp 4]) mo Tryz.func117 rfl rfl (by kernel_rfl) (by kernel_rfl) (by show 2 ≤ _; decide) (.inl rfl) (by simp [allWr, keys, Res.wr]) ?_
  repeat' (first | omega | assumption | (show AL.ahead _ _ _ = true; rfl) | refine brF (fun _ => ?_) (fun _ => ?_) | refine brT (fun _ => ?_) (fun _ => ?_) | refine brVF (fun _ => ?_) (fun _ => ?_) | refine brVT (fun _ => ?_) (fun _ => ?_) | (with_reducible refine And.intro ?_ ?_) | (refine callK_by (hi _ (by omega)) ?_) | (simp -dsimp -implicitDefEqProofs only [go_sem, ↓reduceIte, Nat.reduceEqDiff, Nat.reduceAdd, Nat.reduceMul, Nat.reduceLeDiff, Nat.reduceLT, Nat.reduceBEq, Nat.reducePow, Int.reduceToNat, Int.reduceLE, Int.reduceLT, Int.reduceNeg, reduceCtorEq, Int.reduceEq, Int.reduceAdd, Int.reduceSub, Int.reduceMul, Nat.reduceSub]))
  all_goals (simp only [bA]; congr 2; exact decide_eq_decide.2 h1)
theorem kB_p3 (t : Tx_) : (txA t).parts.getD 3 .undef = .sl 33 (signsA t.signs) 0 := rfl
theorem kB_len (t : Tx_) : (txA t).parts.length = 4 := rfl
theorem kB_off (t : Tx_) : (txA t).partOff 3 = 39 := rfl
/-- who signed -/
noncomputable def keysF (t : Tx_) : List Sign_ → List Int
  | [] => []
  | s :: r => @ite _ (s.of_ = txS t) (Classical.propDecidable _) (s.key :: keysF t r) (keysF t r)
theorem keysF_snoc (t : Tx_) (s : Sign_) : ∀ l : List Sign_, keysF t (l ++ [s]) = keysF t l ++ keysF t [s]
  | [] => rfl
  | a :: l => by
    simp only [List.cons_append, keysF, keysF_snoc t s l]
    split <;> simp
theorem keysF_len (t : Tx_) : ∀ l : List Sign_, (keysF t l).length ≤ l.length
  | [] => Nat.le_refl _
  | a :: l => by have := keysF_len t l; simp only [keysF]; split <;> simp <;> omega
theorem valsC (k : Int) : [n64 k] = vals .i64 [k] := rfl
theorem keysG_spec (nx : Nat) (t : Tx_) (hb : (bodyL true t).length < 2 ^ 38) (hk : ∀ o ∈ t.outs, ∀ w ∈ o.ways, w.keys.length < 2 ^ 32) (hsl : t.signs.length < 2 ^ 40) :
    FnSpec Tryz.prog 110 nx [txA t] [] (.sl 1 (vals .i64 (keysF t t.signs)) (nx + 51)) [(nx + 49, some (.tail (keysF t t.signs).length))] 600 := by
  have hs := fun nc => txSum_spec nc t hb hk
  refine FnSpec.of_code (cx := cx) (an := {tk := [(4, [([], 1)])]}) (rs := [.tmp 2]) mo Tryz.func110 rfl rfl (by kernel_rfl) (by kernel_rfl) (by show 1 ≤ _; decide) (.inl rfl) (by simp [allWr, keys, Res.wr]) ?_
  repeat' (first | omega | assumption | (show AL.ahead _ _ _ = true; rfl) | refine brF (fun _ => ?_) (fun _ => ?_) | refine brT (fun _ => ?_) (fun _ => ?_) | refine brVF (fun _ => ?_) (fun _ => ?_) | refine brVT (fun _ => ?_) (fun _ => ?_) | (with_reducible refine And.intro ?_ ?_) | (refine callK_by (hs _) ?_) | (simp -dsimp -implicitDefEqProofs only [go_sem, ↓reduceIte, Nat.reduceEqDiff, Nat.reduceAdd, Nat.reduceMul, Nat.reduceLeDiff, Nat.reduceLT, Nat.reduceBEq, Nat.reducePow, Int.reduceToNat, Int.reduceLE, Int.reduceLT, Int.reduceNeg, reduceCtorEq, Int.reduceEq, Int.reduceAdd, Int.reduceSub, Int.reduceMul, Nat.reduceSub, txA_good, txA_csz, txA_agg, nb_tx, kB_p3, kB_len, kB_off]))
  apply loop_keep [3, 10, 11] (fun p : { p : Nat // p ≤ t.signs.length } => [(4, .sl 1 (vals .i64 (keysF t (t.signs.take p.1))) (nx + 51)), (12, n64 p.1)]) (fun p => [(nx + 49, some (.tail (keysF t (t.signs.take p.1)).length)), (nx + 32, some (.obj (sumA (txS t))))]) (fun p => t.signs.length - p.1) ⟨0, Nat.zero_le _⟩
  · simp -dsimp -implicitDefEqProofs only [go_sem, ↓reduceIte, Nat.reduceEqDiff, Nat.reduceAdd, Nat.reduceMul, Nat.reduceLeDiff, Nat.reduceLT, Nat.reduceBEq, Nat.reducePow, Int.reduceToNat, Int.reduceLE, Int.reduceLT, Int.reduceNeg, reduceCtorEq, Int.reduceEq, Int.reduceAdd, Int.reduceSub, Int.reduceMul, Nat.reduceSub]; rfl
  · simp -dsimp -implicitDefEqProofs only [go_sem, ↓reduceIte, Nat.reduceEqDiff, Nat.reduceAdd, Nat.reduceMul, Nat.reduceLeDiff, Nat.reduceLT, Nat.reduceBEq, Nat.reducePow, Int.reduceToNat, Int.reduceLE, Int.reduceLT, Int.reduceNeg, reduceCtorEq, Int.reduceEq, Int.reduceAdd, Int.reduceSub, Int.reduceMul, Nat.reduceSub, List.take_zero, keysF]; try rfl
  · simp -dsimp -implicitDefEqProofs only [go_sem, ↓reduceIte, Nat.reduceEqDiff, Nat.reduceAdd, Nat.reduceMul, Nat.reduceLeDiff, Nat.reduceLT, Nat.reduceBEq, Nat.reducePow, Int.reduceToNat, Int.reduceLE, Int.reduceLT, Int.reduceNeg, reduceCtorEq, Int.reduceEq, Int.reduceAdd, Int.reduceSub, Int.reduceMul, Nat.reduceSub, List.take_zero, keysF]; try rfl
  · intro s
    simp -dsimp -implicitDefEqProofs only [go_sem, ↓reduceIte, Nat.reduceEqDiff, Nat.reduceAdd, Nat.reduceMul, Nat.reduceLeDiff, Nat.reduceLT, Nat.reduceBEq, Nat.reducePow, Int.reduceToNat, Int.reduceLE, Int.reduceLT, Int.reduceNeg, reduceCtorEq, Int.reduceEq, Int.reduceAdd, Int.reduceSub, Int.reduceMul, Nat.reduceSub]
    try omega
  · rintro ⟨i, hi⟩
    have hi : i ≤ t.signs.length := hi
    have hkl := keysF_len t (t.signs.take i)
    have htl : (t.signs.take i).length ≤ t.signs.length := List.length_take_le' _ _
    simp -dsimp -implicitDefEqProofs only [go_sem, ↓reduceIte, Nat.reduceEqDiff, Nat.reduceAdd, Nat.reduceMul, Nat.reduceLeDiff, Nat.reduceLT, Nat.reduceBEq, Nat.reducePow, Int.reduceToNat, Int.reduceLE, Int.reduceLT, Int.reduceNeg, reduceCtorEq, Int.reduceEq, Int.reduceAdd, Int.reduceSub, Int.reduceMul, Nat.reduceSub]
    refine brT (fun hc => ?_) (fun hc => ?_)
    · have hi2 : i < t.signs.length := by omega
      have q1 := signs_get hi2
      have htk : t.signs.take (i + 1) = t.signs.take i ++ [t.signs[i]] := by rw [List.take_succ_eq_append_getElem hi2]
      have hks := keysF_snoc t t.signs[i] (t.signs.take i)
      rw [← htk] at hks
      generalize t.signs[i] = y at *
      have w1 : IntKind.i64.wrap ((i : Int) + 1) = ((i + 1 : Nat) : Int) := wrapE (by omega) (by omega)
      by_cases e : y.of_ = txS t
      · have he : eqB (AV.vec 1 (u8s y.of_.b)) (AV.vec 1 (u8s (txS t).b)) = true := by rw [e]; exact eqB_yes rfl
        have hk1 : keysF t [y] = [y.key] := by simp only [keysF, if_pos e]
        rw [hk1] at hks
        have hva : vals .i64 (keysF t (t.signs.take i)) ++ [n64 y.key] = vals .i64 (keysF t (t.signs.take (i + 1))) := by rw [hks]; simp [vals]
        have hkl2 : (keysF t (t.signs.take i)).length + 1 = (keysF t (t.signs.take (i + 1))).length := by rw [hks]; simp
        repeat' (first | omega | assumption | (show AL.ahead _ _ _ = true; rfl) | refine brF (fun _ => ?_) (fun _ => ?_) | refine brT (fun _ => ?_) (fun _ => ?_) | refine brVF (fun _ => ?_) (fun _ => ?_) | refine brVT (fun _ => ?_) (fun _ => ?_) | (with_reducible refine And.intro ?_ ?_) | (simp -dsimp -implicitDefEqProofs only [go_sem, ↓reduceIte, Nat.reduceEqDiff, Nat.reduceAdd, Nat.reduceMul, Nat.reduceLeDiff, Nat.reduceLT, Nat.reduceBEq, Nat.reducePow, Int.reduceToNat, Int.reduceLE, Int.reduceLT, Int.reduceNeg, reduceCtorEq, Int.reduceEq, Int.reduceAdd, Int.reduceSub, Int.reduceMul, Nat.reduceSub, q1, w1, signA, he, hva, hkl2, ↓cmp_sum, isSumT, decide_eq_true_eq, Bool.and_self, List.append_eq, List.cons_append, List.nil_append]))
        all_goals first
          | exact ⟨⟨i + 1, hi2⟩, by show t.signs.length - (i + 1) < t.signs.length - i; omega, ⟨rfl, rfl⟩, rfl⟩
          | trace_state
      · have he : eqB (AV.vec 1 (u8s y.of_.b)) (AV.vec 1 (u8s (txS t).b)) = false := eqB_no (fun q => e (sumA_inj _ _ q))
        have hk1 : keysF t [y] = [] := by simp only [keysF, if_neg e]
        rw [hk1, List.append_nil] at hks
        repeat' (first | omega | assumption | (show AL.ahead _ _ _ = true; rfl) | refine brF (fun _ => ?_) (fun _ => ?_) | refine brT (fun _ => ?_) (fun _ => ?_) | refine brVF (fun _ => ?_) (fun _ => ?_) | refine brVT (fun _ => ?_) (fun _ => ?_) | (with_reducible refine And.intro ?_ ?_) | (simp -dsimp -implicitDefEqProofs only [go_sem, ↓reduceIte, Nat.reduceEqDiff, Nat.reduceAdd, Nat.reduceMul, Nat.reduceLeDiff, Nat.reduceLT, Nat.reduceBEq, Nat.reducePow, Int.reduceToNat, Int.reduceLE, Int.reduceLT, Int.reduceNeg, reduceCtorEq, Int.reduceEq, Int.reduceAdd, Int.reduceSub, Int.reduceMul, Nat.reduceSub, q1, w1, signA, he, ↓cmp_sum, isSumT, decide_eq_true_eq, Bool.and_self, List.append_eq, List.cons_append, List.nil_append]))
        all_goals first
          | exact ⟨⟨i + 1, hi2⟩, by show t.signs.length - (i + 1) < t.signs.length - i; omega, ⟨by rw [hks], rfl⟩, by rw [hks]⟩
          | trace_state
    · have e : t.signs.take i = t.signs := List.take_of_length_le (by omega)
      repeat' (first | omega | assumption | (show AL.ahead _ _ _ = true; rfl) | refine brF (fun _ => ?_) (fun _ => ?_) | refine brT (fun _ => ?_) (fun _ => ?_) | refine brVF (fun _ => ?_) (fun _ => ?_) | refine brVT (fun _ => ?_) (fun _ => ?_) | (with_reducible refine And.intro ?_ ?_) | (simp -dsimp -implicitDefEqProofs only [go_sem, ↓reduceIte, Nat.reduceEqDiff, Nat.reduceAdd, Nat.reduceMul, Nat.reduceLeDiff, Nat.reduceLT, Nat.reduceBEq, Nat.reducePow, Int.reduceToNat, Int.reduceLE, Int.reduceLT, Int.reduceNeg, reduceCtorEq, Int.reduceEq, Int.reduceAdd, Int.reduceSub, Int.reduceMul, Nat.reduceSub, e]))
      all_goals first | exact ⟨rfl, rfl⟩ | rfl | trace_state
theorem keysA_spec (nx : Nat) (t : Tx_) (hb : (bodyL true t).length < 2 ^ 38) (hk : ∀ o ∈ t.outs, ∀ w ∈ o.ways, w.keys.length < 2 ^ 32) (hsl : t.signs.length < 2 ^ 40) :
    FnSpec Tryz.prog 110 nx [txA t] [] (.sl 1 (vals .i64 (keysF t t.signs)) 0) [] 0 :=
  (keysG_spec nx t hb hk hsl).forget0 ⟨rfl, .inr ⟨.inl rfl, .inl rfl⟩⟩ (by simp [AV.nb, nb_vals]) (by simp [keys])
end Go.Proofs.YthfoeaokfhbdaaaGreat

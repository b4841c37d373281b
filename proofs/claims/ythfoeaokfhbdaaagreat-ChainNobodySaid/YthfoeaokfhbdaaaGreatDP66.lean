/-
  Boards: a new one, what a tower has, what it holds, a clone.
-/
import Derived.Test.YthfoeaokfhbdaaaGreatDP64
set_option linter.unusedSimpArgs false
set_option linter.unusedVariables false
set_option maxRecDepth 100000
set_option maxHeartbeats 1000000
namespace Go.Proofs.YthfoeaokfhbdaaaGreat
open Go Go.AL Go.Proofs.YthfoeaokfhbdaaaGreat.T
def boardA (tm hm : Nat) : AV := .agg 2 [.map tm, .map hm]
abbrev boardH (b tm hm : Nat) (ts : List (Int × Tw_)) (hs : List ((Int × Int) × Hold_)) : Heap := [(b, some (.obj (boardA tm hm))), (tm, some (.mp (towsE ts))), (hm, some (.mp (holdsE hs)))]
abbrev boardR (b tm hm : Nat) (ts : List (Int × Tw_)) (hs : List ((Int × Int) × Hold_)) : Heap := [(b, some (.robj (boardA tm hm))), (tm, some (.rmp (towsE ts))), (hm, some (.rmp (holdsE hs)))]
theorem rep2 {α : Type} (a : α) : List.replicate 2 a = [a, a] := rfl
theorem pair_mk (a b : Int) : AV.vec 1 [n64 a, n64 b] = pairKA (a, b) := rfl
theorem k2_pair (a b : Int) : keyOK Tryz.prog 187 (.vec 1 [n64 a, n64 b]) = True := k1_pair (a, b)
theorem look_pair {V : Type} {vA : V → AV} (a b : Int) (l : List ((Int × Int) × V)) : lookA (.vec 1 [n64 a, n64 b]) (encM pairKA vA l) = (lookM (a, b) l).map vA := lookA_enc pairKA_inj (a, b) l
attribute [local go_sem] nb_u8s u8s_length nb_sum List.length_replicate zero_sum sum_h u8s_nil towA_good towA_agg towA_csz holdA_good holdA_agg holdA_csz nbK_int nbK_pair nbV_tow nbV_hold nb_tow nb_hold kk_int kk_pair k2_pair o_some o_none Option.getD_some Option.getD_none Option.isSome_some Option.isSome_none
theorem newb_spec (nx : Nat) : FnSpec Tryz.prog 131 nx [] [] (.ref (nx + 32) 0 []) (boardH (nx + 32) (nx + 8) (nx + 16) [] []) 40 := by
  refine FnSpec.of_code (cx := cx) (an := {mt := [4]}) (rs := [.tmp 0]) mo Tryz.func131 rfl rfl (by kernel_rfl) (by kernel_rfl) (by show 0 ≤ _; decide) (.inl rfl) (by simp [allWr, keys, Res.wr]) ?_
  repeat' (first | omega | assumption | (show AL.ahead _ _ _ = true; rfl) | refine brF (fun _ => ?_) (fun _ => ?_) | refine brT (fun _ => ?_) (fun _ => ?_) | refine brVF (fun _ => ?_) (fun _ => ?_) | refine brVT (fun _ => ?_) (fun _ => ?_) | (with_reducible refine And.intro ?_ ?_) | (simp -dsimp -implicitDefEqProofs only [go_sem, ↓reduceIte, Nat.reduceEqDiff, Nat.reduceAdd, Nat.reduceMul, Nat.reduceLeDiff, Nat.reduceLT, Nat.reduceBEq, Nat.reducePow, Int.reduceToNat, Int.reduceLE, Int.reduceLT, Int.reduceNeg, reduceCtorEq, Int.reduceEq, Int.reduceAdd, Int.reduceSub, Int.reduceMul, Nat.reduceSub, enc_nil, boardA]))
  all_goals first | rfl | trace_state
theorem bnone2_spec (nx b tm hm : Nat) (hv : b < nx) : FnSpec Tryz.prog 113 nx [.ref b 0 []] [(b, some (.robj (boardA tm hm)))] (bA false) [] 0 := by
  have x1 := ltF hv
  refine FnSpec.of_code (cx := cx) (an := {}) (rs := [.tmp 2]) mo Tryz.func113 rfl rfl (by kernel_rfl) (by kernel_rfl) (by show 1 ≤ _; decide) (.inl rfl) (by simp [allWr, keys, Res.wr]) ?_
  repeat' (first | omega | assumption | (show AL.ahead _ _ _ = true; rfl) | refine brF (fun _ => ?_) (fun _ => ?_) | refine brT (fun _ => ?_) (fun _ => ?_) | refine brVF (fun _ => ?_) (fun _ => ?_) | refine brVT (fun _ => ?_) (fun _ => ?_) | (with_reducible refine And.intro ?_ ?_) | (simp -dsimp -implicitDefEqProofs only [go_sem, ↓reduceIte, Nat.reduceEqDiff, Nat.reduceAdd, Nat.reduceMul, Nat.reduceLeDiff, Nat.reduceLT, Nat.reduceBEq, Nat.reducePow, Int.reduceToNat, Int.reduceLE, Int.reduceLT, Int.reduceNeg, reduceCtorEq, Int.reduceEq, Int.reduceAdd, Int.reduceSub, Int.reduceMul, Nat.reduceSub, x1, boardA]))
  all_goals trace_state
theorem bget_spec (nx b tm hm : Nat) (ts : List (Int × Tw_)) (t : Int) (hb : b < nx) (ht : tm < nx) (hne : b ≠ tm) :
    FnSpec Tryz.prog 165 nx [.ref b 0 [], n64 t] [(b, some (.robj (boardA tm hm))), (tm, some (.rmp (towsE ts)))] (.tup [optT (lookM t ts), bA (lookM t ts).isSome]) [] 0 := by
  have x1 := ltF hb
  have x2 := ltF ht
  have x3 := neF hne
  cases h : lookM t ts with
  | none =>
    refine FnSpec.of_code (cx := cx) (an := {}) (rs := [.cell 4 223, .tmp 5]) mo Tryz.func165 rfl rfl (by kernel_rfl) (by kernel_rfl) (by show 2 ≤ _; decide) (.inr ⟨_, rfl, by simp [AV.good, optT, towA]⟩) (by simp [allWr, keys, Res.wr]) ?_
    repeat' (first | omega | assumption | (show AL.ahead _ _ _ = true; rfl) | refine brF (fun _ => ?_) (fun _ => ?_) | refine brT (fun _ => ?_) (fun _ => ?_) | refine brVF (fun _ => ?_) (fun _ => ?_) | refine brVT (fun _ => ?_) (fun _ => ?_) | (with_reducible refine And.intro ?_ ?_) | (refine callK_by (bnone2_spec _ b tm hm (by omega)) ?_) | (simp -dsimp -implicitDefEqProofs only [go_sem, ↓reduceIte, Nat.reduceEqDiff, Nat.reduceAdd, Nat.reduceMul, Nat.reduceLeDiff, Nat.reduceLT, Nat.reduceBEq, Nat.reducePow, Int.reduceToNat, Int.reduceLE, Int.reduceLT, Int.reduceNeg, reduceCtorEq, Int.reduceEq, Int.reduceAdd, Int.reduceSub, Int.reduceMul, Nat.reduceSub, x1, x2, x3, h, lookA_enc n64_inj, optT, boardA, towA]))
    all_goals trace_state
  | some c =>
    refine FnSpec.of_code (cx := cx) (an := {}) (rs := [.cell 4 223, .tmp 5]) mo Tryz.func165 rfl rfl (by kernel_rfl) (by kernel_rfl) (by show 2 ≤ _; decide) (.inr ⟨_, rfl, by simp [AV.good, optT, towA]⟩) (by simp [allWr, keys, Res.wr]) ?_
    repeat' (first | omega | assumption | (show AL.ahead _ _ _ = true; rfl) | refine brF (fun _ => ?_) (fun _ => ?_) | refine brT (fun _ => ?_) (fun _ => ?_) | refine brVF (fun _ => ?_) (fun _ => ?_) | refine brVT (fun _ => ?_) (fun _ => ?_) | (with_reducible refine And.intro ?_ ?_) | (refine callK_by (bnone2_spec _ b tm hm (by omega)) ?_) | (simp -dsimp -implicitDefEqProofs only [go_sem, ↓reduceIte, Nat.reduceEqDiff, Nat.reduceAdd, Nat.reduceMul, Nat.reduceLeDiff, Nat.reduceLT, Nat.reduceBEq, Nat.reducePow, Int.reduceToNat, Int.reduceLE, Int.reduceLT, Int.reduceNeg, reduceCtorEq, Int.reduceEq, Int.reduceAdd, Int.reduceSub, Int.reduceMul, Nat.reduceSub, x1, x2, x3, h, lookA_enc n64_inj, optT, boardA]))
    all_goals trace_state
theorem bholds_spec (nx b tm hm : Nat) (hs : List ((Int × Int) × Hold_)) (t c : Int) (hb : b < nx) (hh : hm < nx) (hne : b ≠ hm) :
    FnSpec Tryz.prog 118 nx [.ref b 0 [], n64 t, n64 c] [(b, some (.robj (boardA tm hm))), (hm, some (.rmp (holdsE hs)))] (.tup [optH (lookM (t, c) hs), bA (lookM (t, c) hs).isSome]) [] 0 := by
  have x1 := ltF hb
  have x2 := ltF hh
  have x3 := neF hne
  cases h : lookM (t, c) hs with
  | none =>
    refine FnSpec.of_code (cx := cx) (an := {}) (rs := [.cell 6 229, .tmp 7]) mo Tryz.func118 rfl rfl (by kernel_rfl) (by kernel_rfl) (by show 3 ≤ _; decide) (.inr ⟨_, rfl, by simp [AV.good, optH, holdA]⟩) (by simp [allWr, keys, Res.wr]) ?_
    repeat' (first | omega | assumption | (show AL.ahead _ _ _ = true; rfl) | refine brF (fun _ => ?_) (fun _ => ?_) | refine brT (fun _ => ?_) (fun _ => ?_) | refine brVF (fun _ => ?_) (fun _ => ?_) | refine brVT (fun _ => ?_) (fun _ => ?_) | (with_reducible refine And.intro ?_ ?_) | (refine callK_by (bnone2_spec _ b tm hm (by omega)) ?_) | (simp -dsimp -implicitDefEqProofs only [go_sem, ↓reduceIte, Nat.reduceEqDiff, Nat.reduceAdd, Nat.reduceMul, Nat.reduceLeDiff, Nat.reduceLT, Nat.reduceBEq, Nat.reducePow, Int.reduceToNat, Int.reduceLE, Int.reduceLT, Int.reduceNeg, reduceCtorEq, Int.reduceEq, Int.reduceAdd, Int.reduceSub, Int.reduceMul, Nat.reduceSub, x1, x2, x3, h, rep2, List.set_cons_zero, List.set_cons_succ, List.getD_cons_zero, List.getD_cons_succ, look_pair, optH, boardA, holdA, chanA, refA]))
    all_goals trace_state
  | some q =>
    refine FnSpec.of_code (cx := cx) (an := {}) (rs := [.cell 6 229, .tmp 7]) mo Tryz.func118 rfl rfl (by kernel_rfl) (by kernel_rfl) (by show 3 ≤ _; decide) (.inr ⟨_, rfl, by simp [AV.good, optH, holdA]⟩) (by simp [allWr, keys, Res.wr]) ?_
    repeat' (first | omega | assumption | (show AL.ahead _ _ _ = true; rfl) | refine brF (fun _ => ?_) (fun _ => ?_) | refine brT (fun _ => ?_) (fun _ => ?_) | refine brVF (fun _ => ?_) (fun _ => ?_) | refine brVT (fun _ => ?_) (fun _ => ?_) | (with_reducible refine And.intro ?_ ?_) | (refine callK_by (bnone2_spec _ b tm hm (by omega)) ?_) | (simp -dsimp -implicitDefEqProofs only [go_sem, ↓reduceIte, Nat.reduceEqDiff, Nat.reduceAdd, Nat.reduceMul, Nat.reduceLeDiff, Nat.reduceLT, Nat.reduceBEq, Nat.reducePow, Int.reduceToNat, Int.reduceLE, Int.reduceLT, Int.reduceNeg, reduceCtorEq, Int.reduceEq, Int.reduceAdd, Int.reduceSub, Int.reduceMul, Nat.reduceSub, x1, x2, x3, h, rep2, List.set_cons_zero, List.set_cons_succ, List.getD_cons_zero, List.getD_cons_succ, look_pair, optH, boardA]))
    all_goals trace_state
theorem isClone : cloneFn Tryz.prog 162 := ⟨Tryz.f162, by kernel_rfl, by kernel_rfl, by kernel_rfl, by kernel_rfl, by kernel_rfl⟩
theorem cloneT_spec (nx m : Nat) (ts : List (Int × Tw_)) (hm : m < nx) : FnSpec Tryz.prog 114 nx [.map m] [(m, some (.rmp (towsE ts)))] (.map (nx + 24)) [(nx + 24, some (.mp (towsE ts)))] 40 := by
  have x1 := ltF hm
  refine FnSpec.of_code (cx := cx) (an := {nxt := [3]}) (rs := [.tmp 2]) mo Tryz.func114 rfl rfl (by kernel_rfl) (by kernel_rfl) (by show 1 ≤ _; decide) (.inl rfl) (by simp [allWr, keys, Res.wr]) ?_
  repeat' (first | omega | assumption | (show AL.ahead _ _ _ = true; rfl) | refine brF (fun _ => ?_) (fun _ => ?_) | refine brT (fun _ => ?_) (fun _ => ?_) | refine brVF (fun _ => ?_) (fun _ => ?_) | refine brVT (fun _ => ?_) (fun _ => ?_) | (with_reducible refine And.intro ?_ ?_) | (simp -dsimp -implicitDefEqProofs only [go_sem, ↓reduceIte, Nat.reduceEqDiff, Nat.reduceAdd, Nat.reduceMul, Nat.reduceLeDiff, Nat.reduceLT, Nat.reduceBEq, Nat.reducePow, Int.reduceToNat, Int.reduceLE, Int.reduceLT, Int.reduceNeg, reduceCtorEq, Int.reduceEq, Int.reduceAdd, Int.reduceSub, Int.reduceMul, Nat.reduceSub, x1, isClone]))
  all_goals trace_state
theorem cloneH_spec (nx m : Nat) (hs : List ((Int × Int) × Hold_)) (hm : m < nx) : FnSpec Tryz.prog 115 nx [.map m] [(m, some (.rmp (holdsE hs)))] (.map (nx + 24)) [(nx + 24, some (.mp (holdsE hs)))] 40 := by
  have x1 := ltF hm
  refine FnSpec.of_code (cx := cx) (an := {nxt := [3]}) (rs := [.tmp 2]) mo Tryz.func115 rfl rfl (by kernel_rfl) (by kernel_rfl) (by show 1 ≤ _; decide) (.inl rfl) (by simp [allWr, keys, Res.wr]) ?_
  repeat' (first | omega | assumption | (show AL.ahead _ _ _ = true; rfl) | refine brF (fun _ => ?_) (fun _ => ?_) | refine brT (fun _ => ?_) (fun _ => ?_) | refine brVF (fun _ => ?_) (fun _ => ?_) | refine brVT (fun _ => ?_) (fun _ => ?_) | (with_reducible refine And.intro ?_ ?_) | (simp -dsimp -implicitDefEqProofs only [go_sem, ↓reduceIte, Nat.reduceEqDiff, Nat.reduceAdd, Nat.reduceMul, Nat.reduceLeDiff, Nat.reduceLT, Nat.reduceBEq, Nat.reducePow, Int.reduceToNat, Int.reduceLE, Int.reduceLT, Int.reduceNeg, reduceCtorEq, Int.reduceEq, Int.reduceAdd, Int.reduceSub, Int.reduceMul, Nat.reduceSub, x1, isClone]))
  all_goals trace_state
theorem bclone_spec (nx b tm hm : Nat) (ts : List (Int × Tw_)) (hs : List ((Int × Int) × Hold_)) (hb : b < nx) (ht : tm < nx) (hh : hm < nx) (h1 : b ≠ tm) (h2 : b ≠ hm) (h3 : tm ≠ hm) :
    FnSpec Tryz.prog 58 nx [.ref b 0 []] (boardR b tm hm ts hs) (.ref (nx + 112) 0 []) (boardH (nx + 112) (nx + 152) (nx + 192) ts hs) 300 := by
  have x1 := ltF hb
  have x2 := ltF ht
  have x3 := ltF hh
  have y1 := neF h1
  have y2 := neF h2
  have y3 := neF h3
  refine FnSpec.of_code (cx := cx) (an := {mt := [17]}) (rs := [.tmp 2]) mo Tryz.func58 rfl rfl (by kernel_rfl) (by kernel_rfl) (by show 1 ≤ _; decide) (.inl rfl) (by simp [allWr, keys, Res.wr]) ?_
  repeat' (first | omega | assumption | (show AL.ahead _ _ _ = true; rfl) | refine brF (fun _ => ?_) (fun _ => ?_) | refine brT (fun _ => ?_) (fun _ => ?_) | refine brVF (fun _ => ?_) (fun _ => ?_) | refine brVT (fun _ => ?_) (fun _ => ?_) | (with_reducible refine And.intro ?_ ?_) | (refine callK_by (bnone2_spec _ b tm hm (by omega)) ?_) | (refine callK_by (cloneT_spec _ tm ts (by omega)) ?_) | (refine callK_by (cloneH_spec _ hm hs (by omega)) ?_) | (simp -dsimp -implicitDefEqProofs only [go_sem, ↓reduceIte, Nat.reduceEqDiff, Nat.reduceAdd, Nat.reduceMul, Nat.reduceLeDiff, Nat.reduceLT, Nat.reduceBEq, Nat.reducePow, Int.reduceToNat, Int.reduceLE, Int.reduceLT, Int.reduceNeg, reduceCtorEq, Int.reduceEq, Int.reduceAdd, Int.reduceSub, Int.reduceMul, Nat.reduceSub, x1, x2, x3, y1, y2, y3, boardA]))
  all_goals trace_state
end Go.Proofs.YthfoeaokfhbdaaaGreat

/-
  Boards: how much all towers have locked, what a tower holds, and what is free.
-/
set_option linter.unusedSimpArgs false
set_option linter.unusedVariables false
set_option maxRecDepth 100000
set_option maxHeartbeats 1000000
namespace Go.Proofs.YthfoeaokfhbdaaaGreat
open Go Go.AL Go.Proofs.YthfoeaokfhbdaaaGreat.T
abbrev w64 (n : Int) : Int := IntKind.i64.wrap n
def sumI : List Int → Int
  | [] => 0
  | a :: r => a + sumI r
theorem sumI_perm {l l' : List Int} (h : l.Perm l') : sumI l = sumI l' := by
  induction h with
  | nil => rfl
  | cons _ _ ih => simp only [sumI, ih]
  | swap _ _ _ => simp only [sumI]; omega
  | trans _ _ h1 h2 => rw [h1, h2]
theorem seen_perm {n : Nat} {se : List Nat} (h1 : se.Nodup) (h2 : ∀ i ∈ se, i < n) (h3 : ∀ i, i < n → i ∈ se) : se.Perm (List.range n) := by
  rw [List.perm_iff_count]
  intro a
  rw [List.Nodup.count h1, List.Nodup.count List.nodup_range]
  by_cases h : a < n
  · rw [if_pos (h3 a h), if_pos (List.mem_range.2 h)]
  · rw [if_neg (fun q => h (h2 a q)), if_neg (fun q => h (List.mem_range.1 q))]
theorem seen_sum {α : Type} {d : α} (f : α → Int) {l l' : List α} {se : List Nat} (hp : l'.Perm l) (h1 : se.Nodup) (h2 : ∀ i ∈ se, i < l'.length) (h3 : ∀ i, i < l'.length → i ∈ se) : sumI (se.map fun i => f (l'.getD i d)) = sumI (l.map f) := by
  rw [sumI_perm ((seen_perm h1 h2 h3).map _), ← sumI_perm (hp.map f)]
  congr 1
  refine List.ext_getElem (by simp) fun i a b => ?_
  simp only [List.length_map] at b
  simp [List.getD_eq_getElem?_getD, List.getElem?_eq_getElem b]
theorem w64_add (a b : Int) : w64 (w64 a + b) = w64 (b + a) := by
  simp only [w64, IntKind.wrap_i64]; omega
theorem enc_get {K V : Type} {kA : K → AV} {vA : V → AV} {l : List (K × V)} {d : K × V} {i : Nat} (h : i < l.length) : (encM kA vA l).getD i (.undef, .undef) = (kA (l.getD i d).1, vA (l.getD i d).2) := by
  simp [encM, List.getD_eq_getElem?_getD, List.getElem?_map, List.getElem?_eq_getElem h]
/-- the places that a walk has seen -/
abbrev Seen (n : Nat) : Type := { se : List Nat // se.Nodup ∧ ∀ i ∈ se, i < n }
def Seen.nil {n : Nat} : Seen n := ⟨[], .nil, fun _ h => by simp at h⟩
theorem Seen.consOk {n : Nat} (s : Seen n) (i : Nat) (h : i < n) (hi : i ∉ s.1) : (i :: s.1).Nodup ∧ ∀ j ∈ i :: s.1, j < n := by
  refine ⟨List.nodup_cons.2 ⟨hi, s.2.1⟩, fun j hj => ?_⟩
  rcases List.mem_cons.1 hj with rfl | q
  · exact h
  · exact s.2.2 j q
def Seen.cons {n : Nat} (s : Seen n) (i : Nat) (h : i < n) (hi : i ∉ s.1) : Seen n := ⟨i :: s.1, s.consOk i h hi⟩
theorem Seen.lt {n : Nat} (s : Seen n) {i : Nat} (h : i < n) (hi : i ∉ s.1) : s.1.length < n := by
  obtain ⟨h1, h2⟩ := s.consOk i h hi
  have h3 : (i :: s.1) ⊆ List.range n := fun j hj => List.mem_range.2 (h2 j hj)
  have h4 := h1.length_le_of_subset h3
  simp only [List.length_cons, List.length_range] at h4
  omega
theorem view_enc {H : Heap} {X : Heap → Prop} {lx : Lock X} {K V : Type} {kA : K → AV} {vA : V → AV} (m : Nat) (l : List (K × V)) (h : H.get m = some (.rmp (encM kA vA l))) (hX : ∀ (l' : List (K × V)) (bs : List Nat) (clk : Nat), l'.Perm l → X ((m, some (.xmp (encM kA vA l') bs clk)) :: H)) : viewK X H lx :=
  view_pin m (fun p : K × V => (kA p.1, vA p.2)) l h (fun l' bs clk hp _ _ => hX l' bs clk hp)
attribute [local go_sem] nb_u8s u8s_length nb_sum List.length_replicate zero_sum sum_h u8s_nil towA_good towA_agg towA_csz holdA_good holdA_agg holdA_csz nbK_int nbK_pair nbV_tow nbV_hold nb_tow nb_hold kk_int kk_pair k1_pair o_some o_none Option.getD_some Option.getD_none Option.isSome_some Option.isSome_none enc_len sum_csz sum_agg
def tw0 : Int × Tw_ := (0, ⟨zeroS, 0, 0, 0⟩)
def hd0 : (Int × Int) × Hold_ := ((0, 0), ⟨⟨0, 0, 0, ⟨zeroS, 0⟩, 0, 0, 0⟩, 0, false, 0, zeroS⟩)
def totT (ts : List (Int × Tw_)) : Int := w64 (sumI (ts.map fun p => p.2.locked))
theorem btotal_spec (nx b tm hm : Nat) (ts : List (Int × Tw_)) (hb : b < nx) (ht : tm < nx) (h1 : b ≠ tm) :
    FnSpec Tryz.prog 66 nx [.ref b 0 []] [(b, some (.robj (boardA tm hm))), (tm, some (.rmp (towsE ts)))] (n64 (totT ts)) [] 0 := by
  have x1 := ltF hb
  have x2 := ltF ht
  have y1 := neF h1
  refine FnSpec.of_code (cx := cx) (an := {vw := [4], nxt := [5]}) (rs := [.tmp 2]) mo Tryz.func66 rfl rfl (by kernel_rfl) (by kernel_rfl) (by show 1 ≤ _; decide) (.inl rfl) (by simp [allWr, keys, Res.wr]) ?_
  repeat' (first | omega | assumption | (show AL.ahead _ _ _ = true; rfl) | refine brF (fun _ => ?_) (fun _ => ?_) | refine brT (fun _ => ?_) (fun _ => ?_) | refine brVF (fun _ => ?_) (fun _ => ?_) | refine brVT (fun _ => ?_) (fun _ => ?_) | (with_reducible refine And.intro ?_ ?_) | (refine callK_by (bnone2_spec _ b tm hm (by omega)) ?_) | (simp -dsimp -implicitDefEqProofs only [go_sem, ↓reduceIte, Nat.reduceEqDiff, Nat.reduceAdd, Nat.reduceMul, Nat.reduceLeDiff, Nat.reduceLT, Nat.reduceBEq, Nat.reducePow, Int.reduceToNat, Int.reduceLE, Int.reduceLT, Int.reduceNeg, reduceCtorEq, Int.reduceEq, Int.reduceAdd, Int.reduceSub, Int.reduceMul, Nat.reduceSub, x1, x2, y1, boardA]))
  refine view_enc (kA := n64) (vA := towA) tm ts (by simp only [Heap.get, y1, if_true, if_false]) (fun l' bs clk hp => ?_)
  repeat' (first | omega | assumption | (show AL.ahead _ _ _ = true; rfl) | refine brF (fun _ => ?_) (fun _ => ?_) | refine brT (fun _ => ?_) (fun _ => ?_) | refine brVF (fun _ => ?_) (fun _ => ?_) | refine brVT (fun _ => ?_) (fun _ => ?_) | (with_reducible refine And.intro ?_ ?_) | (simp -dsimp -implicitDefEqProofs only [go_sem, ↓reduceIte, Nat.reduceEqDiff, Nat.reduceAdd, Nat.reduceMul, Nat.reduceLeDiff, Nat.reduceLT, Nat.reduceBEq, Nat.reducePow, Int.reduceToNat, Int.reduceLE, Int.reduceLT, Int.reduceNeg, reduceCtorEq, Int.reduceEq, Int.reduceAdd, Int.reduceSub, Int.reduceMul, Nat.reduceSub, x1, x2, y1, boardA]))
  apply loop_keep [13] (fun se : Seen l'.length => [(3, n64 (w64 (sumI (se.1.map fun i => (l'.getD i tw0).2.locked))))]) (fun se => [(nx + 64, some (.itr tm bs clk se.1)), (tm, some (.xmp (towsE l') bs clk))]) (fun se => l'.length - se.1.length) Seen.nil
  · simp -dsimp -implicitDefEqProofs only [go_sem, ↓reduceIte, Nat.reduceEqDiff, Nat.reduceAdd, Nat.reduceMul, Nat.reduceLeDiff, Nat.reduceLT, Nat.reduceBEq, Nat.reducePow, Int.reduceToNat, Int.reduceLE, Int.reduceLT, Int.reduceNeg, reduceCtorEq, Int.reduceEq, Int.reduceAdd, Int.reduceSub, Int.reduceMul, Nat.reduceSub]; try rfl
  · simp -dsimp -implicitDefEqProofs only [go_sem, ↓reduceIte, Nat.reduceEqDiff, Nat.reduceAdd, Nat.reduceMul, Nat.reduceLeDiff, Nat.reduceLT, Nat.reduceBEq, Nat.reducePow, Int.reduceToNat, Int.reduceLE, Int.reduceLT, Int.reduceNeg, reduceCtorEq, Int.reduceEq, Int.reduceAdd, Int.reduceSub, Int.reduceMul, Nat.reduceSub]; try rfl
  · simp -dsimp -implicitDefEqProofs only [go_sem, ↓reduceIte, Nat.reduceEqDiff, Nat.reduceAdd, Nat.reduceMul, Nat.reduceLeDiff, Nat.reduceLT, Nat.reduceBEq, Nat.reducePow, Int.reduceToNat, Int.reduceLE, Int.reduceLT, Int.reduceNeg, reduceCtorEq, Int.reduceEq, Int.reduceAdd, Int.reduceSub, Int.reduceMul, Nat.reduceSub, x1, x2, y1]; try rfl
  · intro s
    simp -dsimp -implicitDefEqProofs only [go_sem, ↓reduceIte, Nat.reduceEqDiff, Nat.reduceAdd, Nat.reduceMul, Nat.reduceLeDiff, Nat.reduceLT, Nat.reduceBEq, Nat.reducePow, Int.reduceToNat, Int.reduceLE, Int.reduceLT, Int.reduceNeg, reduceCtorEq, Int.reduceEq, Int.reduceAdd, Int.reduceSub, Int.reduceMul, Nat.reduceSub]
    try omega
  · intro se
    simp -dsimp -implicitDefEqProofs only [go_sem, ↓reduceIte, Nat.reduceEqDiff, Nat.reduceAdd, Nat.reduceMul, Nat.reduceLeDiff, Nat.reduceLT, Nat.reduceBEq, Nat.reducePow, Int.reduceToNat, Int.reduceLE, Int.reduceLT, Int.reduceNeg, reduceCtorEq, Int.reduceEq, Int.reduceAdd, Int.reduceSub, Int.reduceMul, Nat.reduceSub, x1, x2, y1]
    refine steps_by (fun j hj => se.2.2 j hj) (fun hall => ?_) (fun i hi hni => ?_)
    · repeat' (first | omega | assumption | (show AL.ahead _ _ _ = true; rfl) | refine brF (fun _ => ?_) (fun _ => ?_) | refine brT (fun _ => ?_) (fun _ => ?_) | refine brVF (fun _ => ?_) (fun _ => ?_) | refine brVT (fun _ => ?_) (fun _ => ?_) | (with_reducible refine And.intro ?_ ?_) | (simp -dsimp -implicitDefEqProofs only [go_sem, ↓reduceIte, Nat.reduceEqDiff, Nat.reduceAdd, Nat.reduceMul, Nat.reduceLeDiff, Nat.reduceLT, Nat.reduceBEq, Nat.reducePow, Int.reduceToNat, Int.reduceLE, Int.reduceLT, Int.reduceNeg, reduceCtorEq, Int.reduceEq, Int.reduceAdd, Int.reduceSub, Int.reduceMul, Nat.reduceSub]))
      all_goals (rw [totT, ← seen_sum (d := tw0) (fun p : Int × Tw_ => p.2.locked) hp se.2.1 se.2.2 hall])
    · have hg := enc_get (kA := n64) (vA := towA) (d := tw0) hi
      repeat' (first | omega | assumption | (show AL.ahead _ _ _ = true; rfl) | refine brF (fun _ => ?_) (fun _ => ?_) | refine brT (fun _ => ?_) (fun _ => ?_) | refine brVF (fun _ => ?_) (fun _ => ?_) | refine brVT (fun _ => ?_) (fun _ => ?_) | (with_reducible refine And.intro ?_ ?_) | (simp -dsimp -implicitDefEqProofs only [go_sem, ↓reduceIte, Nat.reduceEqDiff, Nat.reduceAdd, Nat.reduceMul, Nat.reduceLeDiff, Nat.reduceLT, Nat.reduceBEq, Nat.reducePow, Int.reduceToNat, Int.reduceLE, Int.reduceLT, Int.reduceNeg, reduceCtorEq, Int.reduceEq, Int.reduceAdd, Int.reduceSub, Int.reduceMul, Nat.reduceSub, x1, x2, y1, hg, hi, towA, w64_add]))
      all_goals first
        | exact ⟨se.cons i hi hni, by have := se.lt hi hni; show l'.length - (se.1.length + 1) < l'.length - se.1.length; omega, rfl, rfl⟩
        | trace_state
def hldF (t : Int) (p : (Int × Int) × Hold_) : Int := if p.1.1 = t then p.2.amount else 0
def heldT (t : Int) (hs : List ((Int × Int) × Hold_)) : Int := w64 (sumI (hs.map (hldF t)))
theorem bheld_spec (nx b tm hm : Nat) (hs : List ((Int × Int) × Hold_)) (t : Int) (hb : b < nx) (hh : hm < nx) (h1 : b ≠ hm) :
    FnSpec Tryz.prog 190 nx [.ref b 0 [], n64 t] [(b, some (.robj (boardA tm hm))), (hm, some (.rmp (holdsE hs)))] (n64 (heldT t hs)) [] 0 := by
  have x1 := ltF hb
  have x2 := ltF hh
  have y1 := neF h1
  refine FnSpec.of_code (cx := cx) (an := {vw := [4], nxt := [5]}) (rs := [.tmp 4]) mo Tryz.func190 rfl rfl (by kernel_rfl) (by kernel_rfl) (by show 2 ≤ _; decide) (.inl rfl) (by simp [allWr, keys, Res.wr]) ?_
  repeat' (first | omega | assumption | (show AL.ahead _ _ _ = true; rfl) | refine brF (fun _ => ?_) (fun _ => ?_) | refine brT (fun _ => ?_) (fun _ => ?_) | refine brVF (fun _ => ?_) (fun _ => ?_) | refine brVT (fun _ => ?_) (fun _ => ?_) | (with_reducible refine And.intro ?_ ?_) | (refine callK_by (bnone2_spec _ b tm hm (by omega)) ?_) | (simp -dsimp -implicitDefEqProofs only [go_sem, ↓reduceIte, Nat.reduceEqDiff, Nat.reduceAdd, Nat.reduceMul, Nat.reduceLeDiff, Nat.reduceLT, Nat.reduceBEq, Nat.reducePow, Int.reduceToNat, Int.reduceLE, Int.reduceLT, Int.reduceNeg, reduceCtorEq, Int.reduceEq, Int.reduceAdd, Int.reduceSub, Int.reduceMul, Nat.reduceSub, x1, x2, y1, boardA]))
  refine view_enc (kA := pairKA) (vA := holdA) hm hs (by simp only [Heap.get, y1, if_true, if_false]) (fun l' bs clk hp => ?_)
  repeat' (first | omega | assumption | (show AL.ahead _ _ _ = true; rfl) | refine brF (fun _ => ?_) (fun _ => ?_) | refine brT (fun _ => ?_) (fun _ => ?_) | refine brVF (fun _ => ?_) (fun _ => ?_) | refine brVT (fun _ => ?_) (fun _ => ?_) | (with_reducible refine And.intro ?_ ?_) | (simp -dsimp -implicitDefEqProofs only [go_sem, ↓reduceIte, Nat.reduceEqDiff, Nat.reduceAdd, Nat.reduceMul, Nat.reduceLeDiff, Nat.reduceLT, Nat.reduceBEq, Nat.reducePow, Int.reduceToNat, Int.reduceLE, Int.reduceLT, Int.reduceNeg, reduceCtorEq, Int.reduceEq, Int.reduceAdd, Int.reduceSub, Int.reduceMul, Nat.reduceSub, x1, x2, y1, boardA]))
  apply loop_keep [1, 15] (fun se : Seen l'.length => [(5, n64 (w64 (sumI (se.1.map fun i => hldF t (l'.getD i hd0)))))]) (fun se => [(nx + 64, some (.itr hm bs clk se.1)), (hm, some (.xmp (holdsE l') bs clk))]) (fun se => l'.length - se.1.length) Seen.nil
  · simp -dsimp -implicitDefEqProofs only [go_sem, ↓reduceIte, Nat.reduceEqDiff, Nat.reduceAdd, Nat.reduceMul, Nat.reduceLeDiff, Nat.reduceLT, Nat.reduceBEq, Nat.reducePow, Int.reduceToNat, Int.reduceLE, Int.reduceLT, Int.reduceNeg, reduceCtorEq, Int.reduceEq, Int.reduceAdd, Int.reduceSub, Int.reduceMul, Nat.reduceSub]; try rfl
  · simp -dsimp -implicitDefEqProofs only [go_sem, ↓reduceIte, Nat.reduceEqDiff, Nat.reduceAdd, Nat.reduceMul, Nat.reduceLeDiff, Nat.reduceLT, Nat.reduceBEq, Nat.reducePow, Int.reduceToNat, Int.reduceLE, Int.reduceLT, Int.reduceNeg, reduceCtorEq, Int.reduceEq, Int.reduceAdd, Int.reduceSub, Int.reduceMul, Nat.reduceSub]; try rfl
  · simp -dsimp -implicitDefEqProofs only [go_sem, ↓reduceIte, Nat.reduceEqDiff, Nat.reduceAdd, Nat.reduceMul, Nat.reduceLeDiff, Nat.reduceLT, Nat.reduceBEq, Nat.reducePow, Int.reduceToNat, Int.reduceLE, Int.reduceLT, Int.reduceNeg, reduceCtorEq, Int.reduceEq, Int.reduceAdd, Int.reduceSub, Int.reduceMul, Nat.reduceSub, x1, x2, y1]; try rfl
  · intro s
    simp -dsimp -implicitDefEqProofs only [go_sem, ↓reduceIte, Nat.reduceEqDiff, Nat.reduceAdd, Nat.reduceMul, Nat.reduceLeDiff, Nat.reduceLT, Nat.reduceBEq, Nat.reducePow, Int.reduceToNat, Int.reduceLE, Int.reduceLT, Int.reduceNeg, reduceCtorEq, Int.reduceEq, Int.reduceAdd, Int.reduceSub, Int.reduceMul, Nat.reduceSub]
    try omega
  · intro se
    simp -dsimp -implicitDefEqProofs only [go_sem, ↓reduceIte, Nat.reduceEqDiff, Nat.reduceAdd, Nat.reduceMul, Nat.reduceLeDiff, Nat.reduceLT, Nat.reduceBEq, Nat.reducePow, Int.reduceToNat, Int.reduceLE, Int.reduceLT, Int.reduceNeg, reduceCtorEq, Int.reduceEq, Int.reduceAdd, Int.reduceSub, Int.reduceMul, Nat.reduceSub, x1, x2, y1]
    refine steps_by (fun j hj => se.2.2 j hj) (fun hall => ?_) (fun i hi hni => ?_)
    · repeat' (first | omega | assumption | (show AL.ahead _ _ _ = true; rfl) | refine brF (fun _ => ?_) (fun _ => ?_) | refine brT (fun _ => ?_) (fun _ => ?_) | refine brVF (fun _ => ?_) (fun _ => ?_) | refine brVT (fun _ => ?_) (fun _ => ?_) | (with_reducible refine And.intro ?_ ?_) | (simp -dsimp -implicitDefEqProofs only [go_sem, ↓reduceIte, Nat.reduceEqDiff, Nat.reduceAdd, Nat.reduceMul, Nat.reduceLeDiff, Nat.reduceLT, Nat.reduceBEq, Nat.reducePow, Int.reduceToNat, Int.reduceLE, Int.reduceLT, Int.reduceNeg, reduceCtorEq, Int.reduceEq, Int.reduceAdd, Int.reduceSub, Int.reduceMul, Nat.reduceSub]))
      all_goals (rw [heldT, ← seen_sum (d := hd0) (hldF t) hp se.2.1 se.2.2 hall])
    · have hg := enc_get (kA := pairKA) (vA := holdA) (d := hd0) hi
      have hlt := se.lt hi hni
      by_cases e : (l'.getD i hd0).1.1 = t
      · have e2 : ((l'.getD i hd0).1.1 = t) = True := eq_true e
        have e3 : hldF t (l'.getD i hd0) = (l'.getD i hd0).2.amount := by unfold hldF; rw [if_pos e]
        repeat' (first | omega | assumption | (show AL.ahead _ _ _ = true; rfl) | refine brF (fun _ => ?_) (fun _ => ?_) | refine brT (fun _ => ?_) (fun _ => ?_) | refine brVF (fun _ => ?_) (fun _ => ?_) | refine brVT (fun _ => ?_) (fun _ => ?_) | (with_reducible refine And.intro ?_ ?_) | (simp -dsimp -implicitDefEqProofs only [go_sem, ↓reduceIte, Nat.reduceEqDiff, Nat.reduceAdd, Nat.reduceMul, Nat.reduceLeDiff, Nat.reduceLT, Nat.reduceBEq, Nat.reducePow, Int.reduceToNat, Int.reduceLE, Int.reduceLT, Int.reduceNeg, reduceCtorEq, Int.reduceEq, Int.reduceAdd, Int.reduceSub, Int.reduceMul, Nat.reduceSub, x1, x2, y1, hg, hi, pairKA, holdA, chanA, refA, w64_add, e2]))
        all_goals first
          | exact ⟨se.cons i hi hni, by show l'.length - (se.1.length + 1) < l'.length - se.1.length; omega, by show _ = n64 (w64 (hldF t _ + _)); rw [e3], rfl⟩
          | trace_state
      · have e2 : ((l'.getD i hd0).1.1 = t) = False := eq_false e
        have e3 : hldF t (l'.getD i hd0) = 0 := by unfold hldF; rw [if_neg e]
        repeat' (first | omega | assumption | (show AL.ahead _ _ _ = true; rfl) | refine brF (fun _ => ?_) (fun _ => ?_) | refine brT (fun _ => ?_) (fun _ => ?_) | refine brVF (fun _ => ?_) (fun _ => ?_) | refine brVT (fun _ => ?_) (fun _ => ?_) | (with_reducible refine And.intro ?_ ?_) | (simp -dsimp -implicitDefEqProofs only [go_sem, ↓reduceIte, Nat.reduceEqDiff, Nat.reduceAdd, Nat.reduceMul, Nat.reduceLeDiff, Nat.reduceLT, Nat.reduceBEq, Nat.reducePow, Int.reduceToNat, Int.reduceLE, Int.reduceLT, Int.reduceNeg, reduceCtorEq, Int.reduceEq, Int.reduceAdd, Int.reduceSub, Int.reduceMul, Nat.reduceSub, x1, x2, y1, hg, hi, pairKA, holdA, chanA, refA, w64_add, e2]))
        all_goals first
          | exact ⟨se.cons i hi hni, by show l'.length - (se.1.length + 1) < l'.length - se.1.length; omega, by show _ = n64 (w64 (hldF t _ + _)); rw [e3, Int.zero_add], rfl⟩
          | trace_state
def twZ : Tw_ := ⟨zeroS, 0, 0, 0⟩
def hdZ : Hold_ := ⟨⟨0, 0, 0, ⟨zeroS, 0⟩, 0, 0, 0⟩, 0, false, 0, zeroS⟩
theorem optT_eq (o : Option Tw_) : optT o = towA (o.getD twZ) := by cases o <;> rfl
theorem optH_eq (o : Option Hold_) : optH o = holdA (o.getD hdZ) := by cases o <;> rfl
noncomputable def freeT (t : Int) (ts : List (Int × Tw_)) (hs : List ((Int × Int) × Hold_)) : Int := w64 (w64 (((lookM t ts).getD twZ).locked - ((lookM t ts).getD twZ).asked) - heldT t hs)
theorem bfree_spec (nx b tm hm : Nat) (ts : List (Int × Tw_)) (hs : List ((Int × Int) × Hold_)) (t : Int) (hb : b < nx) (ht : tm < nx) (hh : hm < nx) (h1 : b ≠ tm) (h2 : b ≠ hm) (h3 : tm ≠ hm) :
    FnSpec Tryz.prog 164 nx [.ref b 0 [], n64 t] (boardR b tm hm ts hs) (n64 (freeT t ts hs)) [] 0 := by
  have x1 := ltF hb
  have x2 := ltF ht
  have x3 := ltF hh
  have y1 := neF h1
  have y2 := neF h2
  have y3 := neF h3
  have hg := fun nc (q1 : b < nc) (q2 : tm < nc) => bget_spec nc b tm hm ts t q1 q2 h1
  have hl := fun nc (q1 : b < nc) (q2 : hm < nc) => bheld_spec nc b tm hm hs t q1 q2 h2
  simp only [optT_eq] at hg
  refine FnSpec.of_code (cx := cx) (an := {}) (rs := [.tmp 4]) mo Tryz.func164 rfl rfl (by kernel_rfl) (by kernel_rfl) (by show 2 ≤ _; decide) (.inl rfl) (by simp [allWr, keys, Res.wr]) ?_
  repeat' (first | omega | assumption | (show AL.ahead _ _ _ = true; rfl) | refine brF (fun _ => ?_) (fun _ => ?_) | refine brT (fun _ => ?_) (fun _ => ?_) | refine brVF (fun _ => ?_) (fun _ => ?_) | refine brVT (fun _ => ?_) (fun _ => ?_) | (with_reducible refine And.intro ?_ ?_) | (refine callK_by (hg _ (by omega) (by omega)) ?_) | (refine callK_by (hl _ (by omega) (by omega)) ?_) | (simp -dsimp -implicitDefEqProofs only [go_sem, ↓reduceIte, Nat.reduceEqDiff, Nat.reduceAdd, Nat.reduceMul, Nat.reduceLeDiff, Nat.reduceLT, Nat.reduceBEq, Nat.reducePow, Int.reduceToNat, Int.reduceLE, Int.reduceLT, Int.reduceNeg, reduceCtorEq, Int.reduceEq, Int.reduceAdd, Int.reduceSub, Int.reduceMul, Nat.reduceSub, x1, x2, x3, y1, y2, y3, boardA, towA]))
  all_goals first | rfl | trace_state
end Go.Proofs.YthfoeaokfhbdaaaGreat

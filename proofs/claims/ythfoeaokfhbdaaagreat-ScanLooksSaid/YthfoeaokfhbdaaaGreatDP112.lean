/-
 A state's commitment is built.
-/
import Derived.Test.YthfoeaokfhbdaaaGreatDP71
import Derived.Test.YthfoeaokfhbdaaaGreatDP23
import Derived.Test.YthfoeaokfhbdaaaGreatDP109
set_option linter.unusedSimpArgs false
set_option linter.unusedVariables false
set_option maxRecDepth 100000
set_option maxHeartbeats 8000000
namespace Go.Proofs.YthfoeaokfhbdaaaGreat
open Go Go.AL Go.Proofs.YthfoeaokfhbdaaaGreat.T
def buildT (c : Chan) (me other mine hers : Int) (h : Sum) : Tx_ := ⟨[⟨c.fund, 0, []⟩], [⟨mine, [⟨[me], zeroS, 0, c.wait⟩, ⟨[other], h, 0, 0⟩]⟩, toO other hers], op0, []⟩
def buildA (c : Chan) (me other mine hers : Int) (h : Sum) : AV :=
 .agg 40 [.sl 35 [.agg 35 [refA c.fund, n64 0, .sl 1 [] 1]] 1, .sl 2 [.agg 2 [n64 mine, .sl 35 [.agg 35 [.sl 1 [n64 me] 1, sumA zeroS, n64 0, n64 c.wait], .agg 35 [.sl 1 [n64 other] 1, sumA h, n64 0, n64 0]] 1], outA (toO other hers)] 1, .agg 37 [n64 0, n64 0, n64 0, n64 0, sumA zeroS, .sl 1 [] 1], .sl 33 [] 1]
theorem buildA_le (c : Chan) (me other mine hers : Int) (h : Sum) : AV.le (buildA c me other mine hers h) (txA (buildT c me other mine hers h)) := by
 refine ⟨_, rfl, _, _, rfl, ⟨_, _, rfl, ?_, .inr (.inl rfl)⟩, _, _, rfl, ⟨_, _, rfl, ?_, .inr (.inl rfl)⟩, _, _, rfl, ⟨_, rfl, ?_⟩, _, _, rfl, ⟨_, _, rfl, AV.les_refl _, .inr (.inl rfl)⟩, rfl⟩
 ·exact ⟨_, _, rfl, ⟨_, rfl, _, _, rfl, AV.le_refl _, _, _, rfl, AV.le_refl _, _, _, rfl, ⟨_, _, rfl, AV.les_refl _, .inr (.inl rfl)⟩, rfl⟩, rfl⟩
 ·refine ⟨_, _, rfl, ⟨_, rfl, _, _, rfl, AV.le_refl _, _, _, rfl, ⟨_, _, rfl, ?_, .inr (.inl rfl)⟩, rfl⟩, _, _, rfl, AV.le_refl _, rfl⟩
  exact ⟨_, _, rfl, ⟨_, rfl, _, _, rfl, ⟨_, _, rfl, AV.les_refl _, .inr (.inl rfl)⟩, AV.les_refl _⟩, _, _, rfl, ⟨_, rfl, _, _, rfl, ⟨_, _, rfl, AV.les_refl _, .inr (.inl rfl)⟩, AV.les_refl _⟩, rfl⟩
 ·exact ⟨_, _, rfl, AV.le_refl _, _, _, rfl, AV.le_refl _, _, _, rfl, AV.le_refl _, _, _, rfl, AV.le_refl _, _, _, rfl, AV.le_refl _, _, _, rfl, ⟨_, _, rfl, AV.les_refl _, .inr (.inl rfl)⟩, rfl⟩
attribute [local go_sem] nb_u8s u8s_length nb_sum List.length_replicate zero_sum sum_h u8s_nil sum_csz sum_agg sumA_good outA_good outA_agg outA_csz nb_out1
theorem build0_spec (nx : Nat) (c : Chan) (s : St_) (h : stR c s = true) : FnSpec Tryz.prog 86 nx [chanA c, stateA s, n64 0] [] (.tup [buildA c c.client c.peer s.client s.peer s.h0, n64 0]) [] 0 := by
 have hs := fun nc => stR_spec nc c s
 rw [h] at hs
 simp only [chanA, refA, stateA] at hs
 refine FnSpec.of_code (cx := cx) (an := {}) (rs := [.cell 6 41, .tmp 7]) mo Tryz.func86 rfl rfl (by kernel_rfl) (by kernel_rfl) (by show 3 ≤ _; decide) (.inr ⟨_, rfl, by simp [AV.good, buildA]⟩) (by simp [allWr, keys, Res.wr]) ?_
 repeat' (first | omega | assumption | (show AL.ahead _ _ _ = true; rfl) | (first | apply brF | apply brT | apply brVF | apply brVT) <;> intro _ | (with_reducible refine And.intro ?_ ?_) | (refine callK_by (hs _) ?_) | (refine callK_by (to_spec _ c.peer s.peer) ?_) | (simp -dsimp -implicitDefEqProofs only [go_sem, chanA, refA, stateA, buildA, List.getD_cons_zero]))
 all_goals rfl
theorem build1_spec (nx : Nat) (c : Chan) (s : St_) (h : stR c s = true) : FnSpec Tryz.prog 86 nx [chanA c, stateA s, n64 1] [] (.tup [buildA c c.peer c.client s.peer s.client s.h1, n64 0]) [] 0 := by
 have hs := fun nc => stR_spec nc c s
 rw [h] at hs
 simp only [chanA, refA, stateA] at hs
 refine FnSpec.of_code (cx := cx) (an := {}) (rs := [.cell 6 41, .tmp 7]) mo Tryz.func86 rfl rfl (by kernel_rfl) (by kernel_rfl) (by show 3 ≤ _; decide) (.inr ⟨_, rfl, by simp [AV.good, buildA]⟩) (by simp [allWr, keys, Res.wr]) ?_
 repeat' (first | omega | assumption | (show AL.ahead _ _ _ = true; rfl) | (first | apply brF | apply brT | apply brVF | apply brVT) <;> intro _ | (with_reducible refine And.intro ?_ ?_) | (refine callK_by (hs _) ?_) | (refine callK_by (to_spec _ c.client s.client) ?_) | (simp -dsimp -implicitDefEqProofs only [go_sem, chanA, refA, stateA, buildA, List.getD_cons_zero, List.getD_cons_succ]))
 all_goals rfl
def txZA : AV := .agg 40 [.sl 35 [] 1, .sl 2 [] 1, .agg 37 [n64 0, n64 0, n64 0, n64 0, sumA zeroS, .sl 1 [] 1], .sl 33 [] 1]
theorem buildN_spec (nx : Nat) (c : Chan) (s : St_) (ow : Int) (h : stR c s = false ∨ (ow ≠ 0 ∧ ow ≠ 1)) : FnSpec Tryz.prog 86 nx [chanA c, stateA s, n64 ow] [] (.tup [txZA, n64 1]) [] 0 := by
 have hs := fun nc => stR_spec nc c s
 simp only [chanA, refA, stateA] at hs
 rcases Bool.eq_false_or_eq_true (stR c s) with q | q
 ·obtain ⟨h1, h2⟩ := h.resolve_left (by rw [q]; decide)
  rw [q] at hs
  refine FnSpec.of_code (cx := cx) (an := {}) (rs := [.cell 6 41, .tmp 7]) mo Tryz.func86 rfl rfl (by kernel_rfl) (by kernel_rfl) (by show 3 ≤ _; decide) (.inr ⟨_, rfl, by simp [AV.good, txZA]⟩) (by simp [allWr, keys, Res.wr]) ?_
  repeat' (first | omega | assumption | (show AL.ahead _ _ _ = true; rfl) | (first | apply brF | apply brT | apply brVF | apply brVT) <;> intro _ | (with_reducible refine And.intro ?_ ?_) | (refine callK_by (hs _) ?_) | (simp -dsimp -implicitDefEqProofs only [go_sem, chanA, refA, stateA, txZA, h1, h2]))
  all_goals rfl
 ·rw [q] at hs
  refine FnSpec.of_code (cx := cx) (an := {}) (rs := [.cell 6 41, .tmp 7]) mo Tryz.func86 rfl rfl (by kernel_rfl) (by kernel_rfl) (by show 3 ≤ _; decide) (.inr ⟨_, rfl, by simp [AV.good, txZA]⟩) (by simp [allWr, keys, Res.wr]) ?_
  repeat' (first | omega | assumption | (show AL.ahead _ _ _ = true; rfl) | (first | apply brF | apply brT | apply brVF | apply brVT) <;> intro _ | (with_reducible refine And.intro ?_ ?_) | (refine callK_by (hs _) ?_) | (simp -dsimp -implicitDefEqProofs only [go_sem, chanA, refA, stateA, txZA]))
  all_goals rfl
end Go.Proofs.YthfoeaokfhbdaaaGreat

namespace Go.Proofs.YthfoeaokfhbdaaaGreat
open Go Go.AL Go.Proofs.YthfoeaokfhbdaaaGreat.T
attribute [local go_sem] nb_u8s u8s_length nb_sum sumA List.length_replicate u8_wrap take32 List.drop_zero zero_sum sum_h u8s_nil sums_len nb_sums u8s_app
theorem digest_spec (nx t : Nat) (a : List UInt8) (ha : a.length < 2 ^ 39) (ht : t < 2 ∨ t - 2 < nx) : FnSpec Tryz.prog 242 nx [.sl 1 (u8s a) t] [] (sumA (joinS 14 [a])) [] 0 := by
 have hj := fun nc (h : nx ≤ nc) => join1_spec nc 1 t 14 a ha (by omega) (by omega)
 refine FnSpec.of_code (cx := cx) (an := {}) (rs := [.cell 2 23]) mo Tryz.func242 rfl rfl (by kernel_rfl) (by kernel_rfl) (by show 1 ≤ _; decide) (.inl rfl) (by simp [allWr, keys, Res.wr]) ?_
 repeat' (first | omega | assumption | (show AL.ahead _ _ _ = true; rfl) | (first | apply brF | apply brT | apply brVF | apply brVT) <;> intro _ | (with_reducible refine And.intro ?_ ?_) | (refine callK_by (hj _ (by omega)) ?_) | (simp -dsimp -implicitDefEqProofs only [go_sem]))
def bitI (s : Sum) (i : Nat) : Int := IntKind.i64.wrap ((BitVec.ofInt IntKind.i64.bits (IntKind.i64.wrap (((s.b.getD (i / 8) 0).toNat : Int).fdiv (2 ^ min (7 - i % 8) 8))) &&& BitVec.ofInt IntKind.i64.bits 1).toNat : Int)
theorem bit_spec (nx : Nat) (s : Sum) (i : Nat) (hi : i < 64) : FnSpec Tryz.prog 244 nx [sumA s, n64 i] [] (n64 (bitI s i)) [] 0 := by
 have hl := s.h
 have w1 : IntKind.i64.wrap ((i : Int).tdiv 8) = ((i / 8 : Nat) : Int) := by rw [IntKind.wrap_i64, Int.tdiv_eq_ediv_of_nonneg (by omega)]; omega
 have w2 : IntKind.i64.wrap (7 - (i : Int).tmod 8) = ((7 - i % 8 : Nat) : Int) := by rw [IntKind.wrap_i64, Int.tmod_eq_emod_of_nonneg (by omega)]; omega
 have q1 := u8s_get (l := s.b) (i := i / 8) (by omega)
 refine FnSpec.of_code (cx := cx) (an := {}) (rs := [.tmp 4]) mo Tryz.func244 rfl rfl (by kernel_rfl) (by kernel_rfl) (by show 2 ≤ _; decide) (.inl rfl) (by simp [allWr, keys, Res.wr]) ?_
 repeat' (first | omega | assumption | (show AL.ahead _ _ _ = true; rfl) | (first | apply brF | apply brT | apply brVF | apply brVT) <;> intro _ | (with_reducible refine And.intro ?_ ?_) | (simp -dsimp -implicitDefEqProofs only [go_sem, w1, w2, q1]))
 all_goals rfl
def halfS (sig : List UInt8) (i : Nat) : Sum := sumOf ((sig.drop (64 * i)).take 32)
def othL (sig : List UInt8) (i : Nat) : List UInt8 := (sig.take (64 * i + 64)).drop (64 * i + 32)
noncomputable def backL (d : Sum) (sig : List UInt8) : Nat → List UInt8
 | 0 => []
 | i + 1 => backL d sig i ++ (if bitI d i = 0 then (shownS (halfS sig i)).b ++ othL sig i else othL sig i ++ (shownS (halfS sig i)).b)
theorem othL_len {sig : List UInt8} {i : Nat} (h : sig.length = 4096) (hi : i < 64) : (othL sig i).length = 32 := by
 unfold othL; rw [List.length_drop, List.length_take]; omega
theorem backL_len (d : Sum) {sig : List UInt8} (h : sig.length = 4096) : ∀ i, i ≤ 64 → (backL d sig i).length = 64 * i
 | 0, _ => rfl
 | i + 1, hi => by
  have h1 := othL_len (i := i) h (by omega)
  rw [backL, List.length_append, backL_len d h i (by omega)]
  split <;> rw [List.length_append, sum_h, h1] <;> omega
noncomputable def backS (text sig : List UInt8) : Sum := joinS 13 [backL (joinS 14 [text]) sig 64]
theorem sum_take (s : Sum) : s.b.take 32 = s.b := List.take_of_length_le (by rw [s.h]; omega)
theorem u8s_takeP (l : List UInt8) (n : Nat) : (u8s l).take n = u8s (l.take n) := by simp [u8s, List.map_take]
theorem u8s_dropP (l : List UInt8) (n : Nat) : (u8s l).drop n = u8s (l.drop n) := by simp [u8s, List.map_drop]
theorem backBad_spec (nx t t2 : Nat) (text sig : List UInt8) (hs : sig.length ≠ 4096) (ht : t < 2 ∨ t - 2 < nx) (ht2 : t2 < 2 ∨ t2 - 2 < nx) : FnSpec Tryz.prog 232 nx [.sl 1 (u8s text) t, .sl 1 (u8s sig) t2] [] (.tup [sumA zeroS, n64 11]) [] 0 := by
 refine FnSpec.of_code (cx := cx) (an := {}) (rs := [.cell 4 23, .tmp 5]) mo Tryz.func232 rfl rfl (by kernel_rfl) (by kernel_rfl) (by show 2 ≤ _; decide) (.inr ⟨_, rfl, by simp [AV.good, sumA]⟩) (by simp [allWr, keys, Res.wr]) ?_
 repeat' (first | omega | assumption | (show AL.ahead _ _ _ = true; rfl) | (first | apply brF | apply brT | apply brVF | apply brVT) <;> intro _ | (with_reducible refine And.intro ?_ ?_) | (simp -dsimp -implicitDefEqProofs only [go_sem]))
theorem backT_spec (nx t t2 : Nat) (text sig : List UInt8) (hx : text.length < 2 ^ 39) (hs : sig.length = 4096) (ht : t < 2 ∨ t - 2 < nx) (ht2 : t2 < 2 ∨ t2 - 2 < nx) : FnSpec Tryz.prog 232 nx [.sl 1 (u8s text) t, .sl 1 (u8s sig) t2] [] (.tup [sumA (backS text sig), n64 0]) [] 0 := by
 have hdg := fun nc (h : nx ≤ nc) => digest_spec nc t text hx (by omega)
 obtain ⟨d, hd⟩ : ∃ d, d = joinS 14 [text] := ⟨_, rfl⟩
 rw [← hd] at hdg
 obtain ⟨R, hR⟩ : ∃ R, R = backS text sig := ⟨_, rfl⟩
 rw [← hR]
 refine FnSpec.of_code (cx := cx) (an := {mt := [27]}) (rs := [.cell 4 23, .tmp 5]) mo Tryz.func232 rfl rfl (by kernel_rfl) (by kernel_rfl) (by show 2 ≤ _; decide) (.inr ⟨_, rfl, by simp [AV.good, sumA]⟩) (by simp [allWr, keys, Res.wr]) ?_
 repeat' (first | omega | assumption | (show AL.ahead _ _ _ = true; rfl) | (first | apply brF | apply brT | apply brVF | apply brVT) <;> intro _ | (with_reducible refine And.intro ?_ ?_) | (refine callK_by (hdg _ (by omega)) ?_) | (simp -dsimp -implicitDefEqProofs only [go_sem]))
 apply loop_keep [1, 4, 6] (fun i : { i : Nat // i ≤ 64 } => [(7, .sl 1 (u8s (backL d sig i.1)) (nx + 74)), (19, n64 i.1)]) (fun i => [(nx + 72, some (.tail (backL d sig i.1).length)), (nx + 56, some (.obj (sumA d))), (nx, some (.obj (sumA zeroS)))]) (fun i => 64 - i.1) ⟨0, Nat.zero_le _⟩
 ·simp -dsimp -implicitDefEqProofs only [go_sem]; try rfl
 ·simp -dsimp -implicitDefEqProofs only [go_sem, backL, u8s_nil]; try rfl
 ·simp -dsimp -implicitDefEqProofs only [go_sem, backL]; try rfl
 ·intro s
  simp -dsimp -implicitDefEqProofs only [go_sem]
  try omega
 ·rintro ⟨i, hi⟩
  have hi : i ≤ 64 := hi
  have hbl := backL_len d hs i hi
  simp -dsimp -implicitDefEqProofs only [go_sem]
  refine brT (fun h => ?_) (fun h => ?_)
  ·have hi2 : i < 64 := by omega
   have w1 : IntKind.i64.wrap ((i : Int) + 1) = ((i + 1 : Nat) : Int) := wrapE (by omega) (by omega)
   have w2 : IntKind.i64.wrap (64 * (i : Int)) = ((64 * i : Nat) : Int) := wrapE (by omega) (by omega)
   have w3 : IntKind.i64.wrap (((64 * i : Nat) : Int) + 32) = ((64 * i + 32 : Nat) : Int) := wrapE (by omega) (by omega)
   have w4 : IntKind.i64.wrap (((64 * i : Nat) : Int) + 64) = ((64 * i + 64 : Nat) : Int) := wrapE (by omega) (by omega)
   have hq := range_full ((sig.drop (64 * i)).take 32) (by rw [List.length_take, List.length_drop]; omega)
   have hq2 : sumOf ((sig.drop (64 * i)).take 32) = halfS sig i := rfl
   rw [hq2] at hq
   have hdl : 32 ≤ (List.drop (64 * i) sig).length := by rw [List.length_drop]; omega
   have ho := othL_len (i := i) hs hi2
   have ho2 : (sig.take (64 * i + 64)).drop (64 * i + 32) = othL sig i := rfl
   repeat' (first | omega | assumption | (show AL.ahead _ _ _ = true; rfl) | (first | apply brF | apply brT | apply brVF | apply brVT) <;> intro _ | (with_reducible refine And.intro ?_ ?_) | (refine callK_by (shown_spec _ (halfS sig i)) ?_) | (refine callK_by (bit_spec _ d i hi2) ?_) | (simp -dsimp -implicitDefEqProofs only [go_sem, w1, w2, w3, w4, hq, ho2, ho, u8s_takeP, u8s_dropP, List.take_length, sum_take, u8s_app]))
   all_goals
    rename_i hx
    have hb2 := backL_len d hs (i + 1) (by omega)
    have hb3 : backL d sig (i + 1) = backL d sig i ++ (if bitI d i = 0 then (shownS (halfS sig i)).b ++ othL sig i else othL sig i ++ (shownS (halfS sig i)).b) := rfl
   ·rw [if_pos hx] at hb3
    refine ⟨⟨i + 1, by omega⟩, by show 64 - (i + 1) < 64 - i; omega, ⟨?_, rfl⟩, ?_⟩
    ·simp only [hb3, List.append_assoc]
    ·simp only [hb2, hbl]; congr 2
   ·rw [if_neg hx] at hb3
    refine ⟨⟨i + 1, by omega⟩, by show 64 - (i + 1) < 64 - i; omega, ⟨?_, rfl⟩, ?_⟩
    ·simp only [hb3, List.append_assoc]
    ·simp only [hb2, hbl]; congr 2
  ·have e : i = 64 := by omega
   have hR2 : R = joinS 13 [backL d sig i] := by rw [hR, hd, e]; rfl
   rw [hR2]
   clear hR hR2
   generalize backL d sig i = L at *
   repeat' (first | omega | assumption | (show AL.ahead _ _ _ = true; rfl) | (first | apply brF | apply brT | apply brVF | apply brVT) <;> intro _ | (with_reducible refine And.intro ?_ ?_) | (refine callK_by (join1_spec _ 1 (nx + 74) 13 L (by omega) (by omega) (by omega)) ?_) | (simp -dsimp -implicitDefEqProofs only [go_sem]))
end Go.Proofs.YthfoeaokfhbdaaaGreat

namespace Go.Proofs.YthfoeaokfhbdaaaGreat
open Go Go.AL Go.Proofs.YthfoeaokfhbdaaaGreat.T
attribute [local go_sem] nb_u8s u8s_length nb_sum sumA List.length_replicate u8_wrap take32 List.drop_zero zero_sum sum_h u8s_nil sums_len nb_sums
structure CS where
 at_ : Nat
 many : Nat
 now : Sum
 path : List Sum
noncomputable def stepC (s : CS) : Option CS :=
 if s.at_ ^^^ 1 < s.many then
  match s.path with
  | [] => none
  | a :: r => some ⟨s.at_ / 2, (s.many + 1) / 2, if s.at_ % 2 = 0 then pairS 2 s.now a else pairS 2 a s.now, r⟩
 else some ⟨s.at_ / 2, (s.many + 1) / 2, s.now, s.path⟩
theorem stepC_many {s s' : CS} (h : stepC s = some s') : s'.many = (s.many + 1) / 2 ∧ s'.at_ = s.at_ / 2 := by
 unfold stepC at h
 split at h
 ·split at h
  ·cases h
  ·injection h with h; subst h; exact ⟨rfl, rfl⟩
 ·injection h with h; subst h; exact ⟨rfl, rfl⟩
noncomputable def checkC (root : Sum) (s : CS) : Bool :=
 if h : 1 < s.many then
  match hs : stepC s with
  | none => false
  | some s' => checkC root s'
 else decide (s.path.length = 0) && eqB (sumA s.now) (sumA root)
termination_by s.many
decreasing_by
 have := (stepC_many hs).1
 omega
theorem checkC_end (root : Sum) (s : CS) (h : ¬ 1 < s.many) : checkC root s = (decide (s.path.length = 0) && eqB (sumA s.now) (sumA root)) := by
 rw [checkC, dif_neg h]
theorem checkC_none (root : Sum) (s : CS) (h : 1 < s.many) (hs : stepC s = none) : checkC root s = false := by
 rw [checkC, dif_pos h]
 split
 ·rfl
 ·rename_i h2; rw [hs] at h2; cases h2
theorem checkC_some (root : Sum) {s s' : CS} (h : 1 < s.many) (hs : stepC s = some s') : checkC root s = checkC root s' := by
 rw [checkC, dif_pos h]
 split
 ·rename_i h2; rw [hs] at h2; cases h2
 ·rename_i h2; rw [hs] at h2; injection h2 with h2; rw [h2]
theorem xor1 {a : Nat} (h : a < 2 ^ 62) : IntKind.i64.wrap ((BitVec.ofInt IntKind.i64.bits (a : Int) ^^^ BitVec.ofInt IntKind.i64.bits 1).toNat : Int) = ((a ^^^ 1 : Nat) : Int) := by
 have h1 : a ^^^ 1 < 2 ^ 62 := Nat.xor_lt_two_pow h (by decide)
 have e : (BitVec.ofInt IntKind.i64.bits (a : Int) ^^^ BitVec.ofInt IntKind.i64.bits 1).toNat = a ^^^ 1 := by
  rw [BitVec.toNat_xor]
  have e1 : (BitVec.ofInt IntKind.i64.bits (a : Int)).toNat = a := by
   rw [BitVec.toNat_ofInt]
   show (((a : Int) % ((2 ^ 64 : Nat) : Int)).toNat) = a
   omega
  have e2 : (BitVec.ofInt IntKind.i64.bits 1).toNat = 1 := by decide
  rw [e1, e2]
 rw [e]
 exact wrapE (by omega) (by omega)
theorem checkBad_spec (nx t : Nat) (root k : Sum) (a m : Int) (l : List Sum) (h : a < 0 ∨ m ≤ a ∨ 4096 < m) (ht : t < 2 ∨ t - 2 < nx) :
  FnSpec Tryz.prog 233 nx [sumA root, sumA k, n64 a, n64 m, .sl 32 (sumsA l) t] [] (bA false) [] 0 := by
 refine FnSpec.of_code (cx := cx) (an := {}) (rs := [.tmp 10]) mo Tryz.func233 rfl rfl (by kernel_rfl) (by kernel_rfl) (by show 5 ≤ _; decide) (.inl rfl) (by simp [allWr, keys, Res.wr]) ?_
 repeat' (first | omega | assumption | (show AL.ahead _ _ _ = true; rfl) | (first | apply brF | apply brT | apply brVF | apply brVT) <;> intro _ | (with_reducible refine And.intro ?_ ?_) | (simp -dsimp -implicitDefEqProofs only [go_sem]))
theorem check_spec (nx : Nat) (root k : Sum) (a m : Nat) (l : List Sum) (h1 : a < m) (h2 : m ≤ 4096) :
  FnSpec Tryz.prog 233 nx [sumA root, sumA k, n64 a, n64 m, .sl 32 (sumsA l) 0] [] (bA (checkC root ⟨a, m, leafS k, l⟩)) [] 0 := by
 obtain ⟨B, hB⟩ : ∃ B, B = checkC root ⟨a, m, leafS k, l⟩ := ⟨_, rfl⟩
 rw [← hB]
 refine FnSpec.of_code (cx := cx) (an := {}) (rs := [.tmp 10]) mo Tryz.func233 rfl rfl (by kernel_rfl) (by kernel_rfl) (by show 5 ≤ _; decide) (.inl rfl) (by simp [allWr, keys, Res.wr]) ?_
 repeat' (first | omega | assumption | (show AL.ahead _ _ _ = true; rfl) | (first | apply brF | apply brT | apply brVF | apply brVT) <;> intro _ | (with_reducible refine And.intro ?_ ?_) | (refine callK_by (leaf_spec _ k) ?_) | (simp -dsimp -implicitDefEqProofs only [go_sem]))
 apply loop_keep [5, 11] (fun s : { s : CS // s.at_ < s.many ∧ s.many ≤ 4096 ∧ checkC root s = B } => [(2, n64 s.1.at_), (3, n64 s.1.many), (4, .sl 32 (sumsA s.1.path) 0)]) (fun s => [(nx + 128, some (.obj (sumA s.1.now)))]) (fun s => s.1.many) ⟨⟨a, m, leafS k, l⟩, h1, h2, hB.symm⟩
 ·simp -dsimp -implicitDefEqProofs only [go_sem]; try rfl
 ·simp -dsimp -implicitDefEqProofs only [go_sem]; try rfl
 ·simp -dsimp -implicitDefEqProofs only [go_sem]; try rfl
 ·intro s
  simp -dsimp -implicitDefEqProofs only [go_sem]
  try omega
 ·rintro ⟨⟨x, c, now, p⟩, g1, g2, g3⟩
  simp only at g1 g2
  have q1 := xor1 (a := x) (by omega)
  have q2 : IntKind.i64.wrap ((x : Int).tdiv 2) = ((x / 2 : Nat) : Int) := by rw [IntKind.wrap_i64, Int.tdiv_eq_ediv_of_nonneg (by omega)]; omega
  have q3 : (x : Int).tmod 2 = ((x % 2 : Nat) : Int) := by rw [Int.tmod_eq_emod_of_nonneg (by omega)]; omega
  have q4 : IntKind.i64.wrap ((c : Int) + 1) = ((c + 1 : Nat) : Int) := wrapE (by omega) (by omega)
  have q5 : IntKind.i64.wrap (((c + 1 : Nat) : Int).tdiv 2) = (((c + 1) / 2 : Nat) : Int) := by rw [IntKind.wrap_i64, Int.tdiv_eq_ediv_of_nonneg (by omega)]; omega
  by_cases hc : 1 < c
  ·cases p with
   | nil =>
    repeat' (first | omega | assumption | (show AL.ahead _ _ _ = true; rfl) | (first | apply brF | apply brT | apply brVF | apply brVT) <;> intro _ | (with_reducible refine And.intro ?_ ?_) | (simp -dsimp -implicitDefEqProofs only [go_sem, q1, q2, q3, q4, q5, sumsA, List.map_nil]))
    all_goals rename_i hx
    ·rw [← g3, checkC_none root _ hc (by simp only [stepC]; rw [if_pos hx])]
    ·refine ⟨⟨⟨x / 2, (c + 1) / 2, now, []⟩, by show x / 2 < (c + 1) / 2; omega, by show (c + 1) / 2 ≤ 4096; omega, ?_⟩, by show (c + 1) / 2 < c; omega, ⟨rfl, rfl, rfl⟩, rfl⟩
     rw [← g3]
     exact (checkC_some root hc (by simp only [stepC]; rw [if_neg hx])).symm
   | cons y r =>
    repeat' (first | omega | assumption | (show AL.ahead _ _ _ = true; rfl) | (first | apply brF | apply brT | apply brVF | apply brVT) <;> intro _ | (with_reducible refine And.intro ?_ ?_) | (refine callK_by (pair_spec _ 2 _ _) ?_) | (simp -dsimp -implicitDefEqProofs only [go_sem, q1, q2, q3, q4, q5, sumsA, List.map_cons, List.drop_one, List.tail_cons, List.take_length]))
    ·rename_i hx _ hy
     refine ⟨⟨⟨x / 2, (c + 1) / 2, pairS 2 now y, r⟩, by show x / 2 < (c + 1) / 2; omega, by show (c + 1) / 2 ≤ 4096; omega, ?_⟩, by show (c + 1) / 2 < c; omega, ⟨rfl, rfl, rfl⟩, rfl⟩
     rw [← g3]
     exact (checkC_some root hc (by simp only [stepC]; rw [if_pos hx, if_pos (by omega)])).symm
    ·rename_i hx _ hy
     refine ⟨⟨⟨x / 2, (c + 1) / 2, pairS 2 y now, r⟩, by show x / 2 < (c + 1) / 2; omega, by show (c + 1) / 2 ≤ 4096; omega, ?_⟩, by show (c + 1) / 2 < c; omega, ⟨rfl, rfl, rfl⟩, rfl⟩
     rw [← g3]
     exact (checkC_some root hc (by simp only [stepC]; rw [if_pos hx, if_neg (by omega)])).symm
    ·rename_i hx
     refine ⟨⟨⟨x / 2, (c + 1) / 2, now, y :: r⟩, by show x / 2 < (c + 1) / 2; omega, by show (c + 1) / 2 ≤ 4096; omega, ?_⟩, by show (c + 1) / 2 < c; omega, ⟨rfl, rfl, rfl⟩, rfl⟩
     rw [← g3]
     exact (checkC_some root hc (by simp only [stepC]; rw [if_neg hx])).symm
  ·have hend := checkC_end root ⟨x, c, now, p⟩ hc
   rw [g3] at hend
   simp only at hend
   simp -dsimp -implicitDefEqProofs only [go_sem]
   refine brT (fun h => absurd h (by omega)) (fun h => ?_)
   repeat' (first | omega | assumption | (show AL.ahead _ _ _ = true; rfl) | (first | apply brF | apply brT | apply brVF | apply brVT) <;> intro _ | (with_reducible refine And.intro ?_ ?_) | (simp -dsimp -implicitDefEqProofs only [go_sem, ↓cmp_sum, isSumT, decide_eq_true_eq, Bool.and_self]))
   all_goals rw [hend]
   ·rename_i hx
    rw [decide_eq_true (by omega : p.length = 0), Bool.true_and]; rfl
   ·rename_i hx
    rw [decide_eq_false (by omega : ¬ p.length = 0), Bool.false_and]
end Go.Proofs.YthfoeaokfhbdaaaGreat

namespace Go.Proofs.YthfoeaokfhbdaaaGreat
open Go Go.AL Go.Proofs.YthfoeaokfhbdaaaGreat.T
attribute [local go_sem] nb_u8s u8s_length nb_sum sumA List.length_replicate u8_wrap take32 List.drop_zero zero_sum sum_h u8s_nil sums_len nb_sums
noncomputable def verB (root : Sum) (text sig : List UInt8) : Bool :=
 if (readS sig).e = 0 ∧ (readS sig).one.length = 4096 ∧ (readS sig).at_ < (readS sig).leaves then checkC root ⟨(readS sig).at_.toNat, (readS sig).leaves.toNat, leafS (backS text (readS sig).one), (readS sig).path⟩ else false
theorem readS_rng (b : List UInt8) : 0 ≤ (readS b).at_ ∧ 0 ≤ (readS b).leaves ∧ (readS b).leaves ≤ 64 := by
 have h1 := uptoS_rng ⟨b, 0⟩ 64 (by decide)
 have h2 := uptoS_rng (uptoS ⟨b, 0⟩ 64).2 64 (by decide)
 exact ⟨h1.1, h2.1, h2.2⟩
theorem mver_spec (nx t t2 : Nat) (root : Sum) (text sig : List UInt8) (hx : text.length < 2 ^ 39) (hs : sig.length < 2 ^ 40) (ht : t < 2 ∨ t - 2 < nx) (ht2 : t2 = 0) :
  FnSpec Tryz.prog 215 nx [sumA root, .sl 1 (u8s text) t, .sl 1 (u8s sig) t2] [] (bA (verB root text sig)) [] 0 := by
 subst ht2
 have hrd := fun nc => read_spec nc sig hs
 have hrg := readS_rng sig
 have hvb : ∀ b, b = verB root text sig → (bA b = bA (verB root text sig)) := fun b h => by rw [h]
 unfold verB at hvb ⊢
 generalize readS sig = R at *
 by_cases he : R.e = 0
 ·simp only [he, if_true] at hrd
  by_cases ho : R.one.length = 4096
  ·have hbk := fun nc (h : nx ≤ nc) => backT_spec nc t 0 text R.one hx ho (by omega) (by omega)
   by_cases hc : R.at_ < R.leaves
   ·have hck := fun nc => check_spec nc root (backS text R.one) R.at_.toNat R.leaves.toNat R.path (by omega) (by omega)
    rw [Int.toNat_of_nonneg hrg.1, Int.toNat_of_nonneg hrg.2.1] at hck
    rw [if_pos ⟨he, ho, hc⟩]
    refine FnSpec.of_code (cx := cx) (an := {}) (rs := [.tmp 6]) mo Tryz.func215 rfl rfl (by kernel_rfl) (by kernel_rfl) (by show 3 ≤ _; decide) (.inl rfl) (by simp [allWr, keys, Res.wr]) ?_
    repeat' (first | omega | assumption | (show AL.ahead _ _ _ = true; rfl) | (first | apply brF | apply brT | apply brVF | apply brVT) <;> intro _ | (with_reducible refine And.intro ?_ ?_) | (refine callK_by (hrd _) ?_) | (refine callK_by (hbk _ (by omega)) ?_) | (refine callK_by (hck _) ?_) | (simp -dsimp -implicitDefEqProofs only [go_sem]))
   ·have hck := fun nc => checkBad_spec nc 0 root (backS text R.one) R.at_ R.leaves R.path (by omega) (by omega)
    rw [if_neg (fun h => hc h.2.2)]
    refine FnSpec.of_code (cx := cx) (an := {}) (rs := [.tmp 6]) mo Tryz.func215 rfl rfl (by kernel_rfl) (by kernel_rfl) (by show 3 ≤ _; decide) (.inl rfl) (by simp [allWr, keys, Res.wr]) ?_
    repeat' (first | omega | assumption | (show AL.ahead _ _ _ = true; rfl) | (first | apply brF | apply brT | apply brVF | apply brVT) <;> intro _ | (with_reducible refine And.intro ?_ ?_) | (refine callK_by (hrd _) ?_) | (refine callK_by (hbk _ (by omega)) ?_) | (refine callK_by (hck _) ?_) | (simp -dsimp -implicitDefEqProofs only [go_sem]))
  ·have hbk := fun nc (h : nx ≤ nc) => backBad_spec nc t 0 text R.one ho (by omega) (by omega)
   rw [if_neg (fun h => ho h.2.1)]
   refine FnSpec.of_code (cx := cx) (an := {}) (rs := [.tmp 6]) mo Tryz.func215 rfl rfl (by kernel_rfl) (by kernel_rfl) (by show 3 ≤ _; decide) (.inl rfl) (by simp [allWr, keys, Res.wr]) ?_
   repeat' (first | omega | assumption | (show AL.ahead _ _ _ = true; rfl) | (first | apply brF | apply brT | apply brVF | apply brVT) <;> intro _ | (with_reducible refine And.intro ?_ ?_) | (refine callK_by (hrd _) ?_) | (refine callK_by (hbk _ (by omega)) ?_) | (simp -dsimp -implicitDefEqProofs only [go_sem]))
 ·simp only [he, if_false] at hrd
  rw [if_neg (fun h => he h.1)]
  refine FnSpec.of_code (cx := cx) (an := {}) (rs := [.tmp 6]) mo Tryz.func215 rfl rfl (by kernel_rfl) (by kernel_rfl) (by show 3 ≤ _; decide) (.inl rfl) (by simp [allWr, keys, Res.wr]) ?_
  repeat' (first | omega | assumption | (show AL.ahead _ _ _ = true; rfl) | (first | apply brF | apply brT | apply brVF | apply brVT) <;> intro _ | (with_reducible refine And.intro ?_ ?_) | (refine callK_by (hrd _) ?_) | (simp -dsimp -implicitDefEqProofs only [go_sem]))
structure SRec where
 rec_ : Rec_
 sig : List UInt8
def srecA (x : SRec) : AV := .agg 68 [recA x.rec_, .sl 1 (u8s x.sig) 0]
noncomputable def goodB (root : Sum) (x : SRec) : Bool := decide (recR x.rec_) && verB root (recL x.rec_) x.sig
theorem rver_spec (nx : Nat) (root : Sum) (x : SRec) (hs : x.sig.length < 2 ^ 40) : FnSpec Tryz.prog 193 nx [sumA root, recA x.rec_, .sl 1 (u8s x.sig) 0] [] (bA (goodB root x)) [] 0 := by
 have h1 := flat_numI [x.rec_.tower, x.rec_.channel, x.rec_.state]
 simp only [List.length_cons, List.length_nil] at h1
 have hl : (recL x.rec_).length < 2 ^ 39 := by simp only [recL, List.length_append, sum_h]; omega
 have h2 := fun nc => recRight_spec nc x.rec_
 have h3 := fun nc => recText_spec nc x.rec_
 have h4 := fun nc => mver_spec nc 0 0 root (recL x.rec_) x.sig hl hs (by omega) rfl
 simp only [recA] at h2 h3
 unfold goodB
 refine FnSpec.of_code (cx := cx) (an := {}) (rs := [.tmp 6]) mo Tryz.func193 rfl rfl (by kernel_rfl) (by kernel_rfl) (by show 3 ≤ _; decide) (.inl rfl) (by simp [allWr, keys, Res.wr]) ?_
 repeat' (first | omega | assumption | (show AL.ahead _ _ _ = true; rfl) | (first | apply brF | apply brT | apply brVF | apply brVT) <;> intro _ | (with_reducible refine And.intro ?_ ?_) | (refine callK_by (h2 _) ?_) | (refine callK_by (h3 _) ?_) | (refine callK_by (h4 _) ?_) | (simp -dsimp -implicitDefEqProofs only [go_sem, recA]))
 ·rename_i hx
  rw [decide_eq_true hx, Bool.true_and]
 ·rename_i hx
  rw [decide_eq_false hx, Bool.false_and]
theorem good_spec (nx : Nat) (root : Sum) (x : SRec) (hs : x.sig.length < 2 ^ 40) : FnSpec Tryz.prog 178 nx [srecA x, sumA root] [] (bA (goodB root x)) [] 0 := by
 have h1 := fun nc => rver_spec nc root x hs
 simp only [recA] at h1
 refine FnSpec.of_code (cx := cx) (an := {}) (rs := [.tmp 4]) mo Tryz.func178 rfl rfl (by kernel_rfl) (by kernel_rfl) (by show 2 ≤ _; decide) (.inl rfl) (by simp [allWr, keys, Res.wr]) ?_
 repeat' (first | omega | assumption | (show AL.ahead _ _ _ = true; rfl) | (first | apply brF | apply brT | apply brVF | apply brVT) <;> intro _ | (with_reducible refine And.intro ?_ ?_) | (refine callK_by (h1 _) ?_) | (simp -dsimp -implicitDefEqProofs only [go_sem, srecA, recA]))
end Go.Proofs.YthfoeaokfhbdaaaGreat

namespace Go.Proofs.YthfoeaokfhbdaaaGreat
open Go Go.AL Go.Proofs.YthfoeaokfhbdaaaGreat.T
abbrev Unc : Type := Sum → List UInt8 → Tx_ × Int
def unA (r : Tx_ × Int) : AV := if r.2 = 0 then txA r.1 else txZA
structure UncOk (un : Unc) : Prop where
 s : ∀ nx c b, b.length ≤ 65536 → FnSpec Tryz.prog 197 nx [sumA c, .sl 1 (u8s b) 0] [] (.tup [unA (un c b), n64 (un c b).2]) [] 0
 t : ∀ c b, (un c b).2 = 0 → TxOk (un c b).1
theorem saved_spec (nx : Nat) (f : Fac_) (c : Chan) : FnSpec Tryz.prog 199 nx [facA f, chanA c] [] (bA (decide (f.taken = true ∧ w64 (f.when_ - f.at_) ≤ c.window))) [] 0 := by
 cases ht : f.taken with
 | false =>
  refine FnSpec.of_code (cx := cx) (an := {}) (rs := [.tmp 4]) mo Tryz.func199 rfl rfl (by kernel_rfl) (by kernel_rfl) (by show 2 ≤ _; decide) (.inl rfl) (by simp [allWr, keys, Res.wr]) ?_
  repeat' (first | omega | assumption | (show AL.ahead _ _ _ = true; rfl) | (first | apply brF | apply brT | apply brVF | apply brVT) <;> intro _ | (with_reducible refine And.intro ?_ ?_) | (simp -dsimp -implicitDefEqProofs only [go_sem, facA, chanA, refA, ht, txA_good, txA_csz, txA_agg, nb_tx]))
  all_goals rfl
 | true =>
  by_cases h : w64 (f.when_ - f.at_) ≤ c.window
  ·refine FnSpec.of_code (cx := cx) (an := {}) (rs := [.tmp 4]) mo Tryz.func199 rfl rfl (by kernel_rfl) (by kernel_rfl) (by show 2 ≤ _; decide) (.inl rfl) (by simp [allWr, keys, Res.wr]) ?_
   repeat' (first | omega | assumption | (show AL.ahead _ _ _ = true; rfl) | (first | apply brF | apply brT | apply brVF | apply brVT) <;> intro _ | (with_reducible refine And.intro ?_ ?_) | (simp -dsimp -implicitDefEqProofs only [go_sem, facA, chanA, refA, ht, h, txA_good, txA_csz, txA_agg, nb_tx]))
   all_goals first | rfl | (simp [bA, h])
  ·refine FnSpec.of_code (cx := cx) (an := {}) (rs := [.tmp 4]) mo Tryz.func199 rfl rfl (by kernel_rfl) (by kernel_rfl) (by show 2 ≤ _; decide) (.inl rfl) (by simp [allWr, keys, Res.wr]) ?_
   repeat' (first | omega | assumption | (show AL.ahead _ _ _ = true; rfl) | (first | apply brF | apply brT | apply brVF | apply brVT) <;> intro _ | (with_reducible refine And.intro ?_ ?_) | (simp -dsimp -implicitDefEqProofs only [go_sem, facA, chanA, refA, ht, h, txA_good, txA_csz, txA_agg, nb_tx]))
   all_goals first | rfl | (simp [bA, h])
section
open Classical
noncomputable def pcF (un : Unc) (p : Proof_) (tower : Int) (c : Chan) (root : Sum) (f : Fac_) (h : Int) : Int :=
 if p.rec_.tower ≠ tower ∨ p.rec_.channel ≠ c.id then 21
 else if goodB root ⟨p.rec_, p.sig⟩ = false then 11
 else if p.rec_.hint ≠ hintS p.commit ∨ p.rec_.blob ≠ amarkS p.blob then 16
 else if ownF c f.tx ≠ 1 ∨ txS f.tx ≠ p.commit then 13
 else if (un p.commit p.blob).2 ≠ 0 then (un p.commit p.blob).2
 else if jcF c f.tx (un p.commit p.blob).1 ≠ 0 then jcF c f.tx (un p.commit p.blob).1
 else if f.taken = true ∧ w64 (f.when_ - f.at_) ≤ c.window then 18
 else if w64 (h - f.at_) ≤ c.window then 17 else 0
end
attribute [local go_sem] nb_u8s u8s_length nb_sum List.length_replicate zero_sum sum_h u8s_nil txA_good txA_csz txA_agg nb_tx recA_good recA_agg recA_csz nb_rec1 sumA facA_good facA_agg facA_csz nb_fac
theorem pc_spec (un : Unc) (hun : UncOk un) (nx : Nat) (p : Proof_) (tower : Int) (c : Chan) (root : Sum) (f : Fac_) (h : Int) (hs : p.sig.length ≤ 65536) (hb : p.blob.length ≤ 65536) (hf : TxOk f.tx) :
  FnSpec Tryz.prog 167 nx [proofA p, n64 tower, chanA c, sumA root, facA f, n64 h] [] (n64 (pcF un p tower c root f h)) [] 0 := by
 have hv := fun nc => rver_spec nc root ⟨p.rec_, p.sig⟩ (by show p.sig.length < _; omega)
 have hhi := fun nc => hint_spec nc p.commit
 have hma := fun nc => amark_spec nc p.blob (by omega)
 have how := fun nc => owner_spec nc c f.tx hf.l.2.2.1 hf.l.2.2.2.1 hf.l.2.2.2.2.2
 have hcr := fun nc => cref_spec nc f.tx hf.b hf.k
 have hunc := fun nc => hun.s nc p.commit p.blob hb
 have hsv := fun nc => saved_spec nc f c
 obtain ⟨G, hG⟩ : ∃ G, G = pcF un p tower c root f h := ⟨_, rfl⟩
 rw [← hG]
 unfold pcF at hG
 simp only [recA, sumA, chanA, refA, facA] at hv hhi hma how hcr hunc hsv
 by_cases c1 : p.rec_.tower = tower
 ·by_cases c2 : p.rec_.channel = c.id
  ·rw [if_neg (by rintro (q | q); exact q c1; exact q c2)] at hG
   simp only [c1, c2] at hv
   rcases Bool.eq_false_or_eq_true (goodB root ⟨p.rec_, p.sig⟩) with c3 | c3
   ·rw [if_neg (by rw [c3]; decide)] at hG
    rw [c3] at hv
    by_cases c4 : p.rec_.hint = hintS p.commit
    ·have e4 : eqB (AV.vec 1 (u8s p.rec_.hint.b)) (AV.vec 1 (u8s (hintS p.commit).b)) = true := by rw [c4]; exact eqB_yes rfl
     by_cases c5 : p.rec_.blob = amarkS p.blob
     ·have e5 : eqB (AV.vec 1 (u8s p.rec_.blob.b)) (AV.vec 1 (u8s (amarkS p.blob).b)) = true := by rw [c5]; exact eqB_yes rfl
      rw [if_neg (by rintro (q | q); exact q c4; exact q c5)] at hG
      by_cases c6 : ownF c f.tx = 1
      ·by_cases c7 : txS f.tx = p.commit
       ·have e7 : eqB (AV.vec 1 (u8s (txS f.tx).b)) (AV.vec 1 (u8s p.commit.b)) = true := by rw [c7]; exact eqB_yes rfl
        rw [if_neg (by rintro (q | q); exact q c6; exact q c7)] at hG
        by_cases c8 : (un p.commit p.blob).2 = 0
        ·rw [if_neg (fun q => q c8)] at hG
         have htu := hun.t _ _ c8
         have ea : unA (un p.commit p.blob) = txA (un p.commit p.blob).1 := by unfold unA; rw [if_pos c8]
         rw [ea, c8] at hunc
         have hjc := fun nc => jc_spec nc c f.tx (un p.commit p.blob).1 hf htu
         simp only [chanA, refA, sumA] at hjc
         by_cases c9 : jcF c f.tx (un p.commit p.blob).1 = 0
         ·rw [if_neg (fun q => q c9)] at hG
          rw [c9] at hjc
          by_cases c10 : f.taken = true ∧ w64 (f.when_ - f.at_) ≤ c.window
          ·rw [if_pos c10] at hG
           rw [decide_eq_true c10] at hsv
           refine FnSpec.of_code (cx := cx) (an := {}) (rs := [.tmp 12]) mo Tryz.func167 rfl rfl (by kernel_rfl) (by kernel_rfl) (by show 6 ≤ _; decide) (.inl rfl) (by simp [allWr, keys, Res.wr]) ?_
           repeat' (first | omega | assumption | (show AL.ahead _ _ _ = true; rfl) | (first | apply brF | apply brT | apply brVF | apply brVT) <;> intro _ | (with_reducible refine And.intro ?_ ?_) | (refine callK_by (hv _) ?_) | (refine callK_by (hhi _) ?_) | (refine callK_by (hma _) ?_) | (refine callK_by (how _) ?_) | (refine callK_by (hcr _) ?_) | (refine callK_by (hunc _) ?_) | (refine callK_by (hjc _) ?_) | (refine callK_by (hsv _) ?_) | (simp -dsimp -implicitDefEqProofs only [go_sem, proofA, recA, chanA, refA, facA, c1, c2, e4, e5, c6, e7, ↓cmp_sum, isSumT]))
           all_goals first | (rw [hG]) | rfl
          ·rw [if_neg c10] at hG
           rw [decide_eq_false c10] at hsv
           by_cases c11 : w64 (h - f.at_) ≤ c.window
           ·rw [if_pos c11] at hG
            refine FnSpec.of_code (cx := cx) (an := {}) (rs := [.tmp 12]) mo Tryz.func167 rfl rfl (by kernel_rfl) (by kernel_rfl) (by show 6 ≤ _; decide) (.inl rfl) (by simp [allWr, keys, Res.wr]) ?_
            repeat' (first | omega | assumption | (show AL.ahead _ _ _ = true; rfl) | (first | apply brF | apply brT | apply brVF | apply brVT) <;> intro _ | (with_reducible refine And.intro ?_ ?_) | (refine callK_by (hv _) ?_) | (refine callK_by (hhi _) ?_) | (refine callK_by (hma _) ?_) | (refine callK_by (how _) ?_) | (refine callK_by (hcr _) ?_) | (refine callK_by (hunc _) ?_) | (refine callK_by (hjc _) ?_) | (refine callK_by (hsv _) ?_) | (simp -dsimp -implicitDefEqProofs only [go_sem, proofA, recA, chanA, refA, facA, c1, c2, e4, e5, c6, e7, c11, ↓cmp_sum, isSumT]))
            all_goals first | (rw [hG]) | rfl
           ·rw [if_neg c11] at hG
            refine FnSpec.of_code (cx := cx) (an := {}) (rs := [.tmp 12]) mo Tryz.func167 rfl rfl (by kernel_rfl) (by kernel_rfl) (by show 6 ≤ _; decide) (.inl rfl) (by simp [allWr, keys, Res.wr]) ?_
            repeat' (first | omega | assumption | (show AL.ahead _ _ _ = true; rfl) | (first | apply brF | apply brT | apply brVF | apply brVT) <;> intro _ | (with_reducible refine And.intro ?_ ?_) | (refine callK_by (hv _) ?_) | (refine callK_by (hhi _) ?_) | (refine callK_by (hma _) ?_) | (refine callK_by (how _) ?_) | (refine callK_by (hcr _) ?_) | (refine callK_by (hunc _) ?_) | (refine callK_by (hjc _) ?_) | (refine callK_by (hsv _) ?_) | (simp -dsimp -implicitDefEqProofs only [go_sem, proofA, recA, chanA, refA, facA, c1, c2, e4, e5, c6, e7, c11, ↓cmp_sum, isSumT]))
            all_goals first | (rw [hG]) | rfl
         ·rw [if_pos c9] at hG
          refine FnSpec.of_code (cx := cx) (an := {}) (rs := [.tmp 12]) mo Tryz.func167 rfl rfl (by kernel_rfl) (by kernel_rfl) (by show 6 ≤ _; decide) (.inl rfl) (by simp [allWr, keys, Res.wr]) ?_
          repeat' (first | omega | assumption | (show AL.ahead _ _ _ = true; rfl) | (first | apply brF | apply brT | apply brVF | apply brVT) <;> intro _ | (with_reducible refine And.intro ?_ ?_) | (refine callK_by (hv _) ?_) | (refine callK_by (hhi _) ?_) | (refine callK_by (hma _) ?_) | (refine callK_by (how _) ?_) | (refine callK_by (hcr _) ?_) | (refine callK_by (hunc _) ?_) | (refine callK_by (hjc _) ?_) | (simp -dsimp -implicitDefEqProofs only [go_sem, proofA, recA, chanA, refA, facA, c1, c2, e4, e5, c6, e7, c9, ↓cmp_sum, isSumT]))
          all_goals first | (rw [hG]) | rfl
        ·rw [if_pos c8] at hG
         have ea : unA (un p.commit p.blob) = txZA := by unfold unA; rw [if_neg c8]
         rw [ea] at hunc
         simp only [txZA, sumA] at hunc
         refine FnSpec.of_code (cx := cx) (an := {}) (rs := [.tmp 12]) mo Tryz.func167 rfl rfl (by kernel_rfl) (by kernel_rfl) (by show 6 ≤ _; decide) (.inl rfl) (by simp [allWr, keys, Res.wr]) ?_
         repeat' (first | omega | assumption | (show AL.ahead _ _ _ = true; rfl) | (first | apply brF | apply brT | apply brVF | apply brVT) <;> intro _ | (with_reducible refine And.intro ?_ ?_) | (refine callK_by (hv _) ?_) | (refine callK_by (hhi _) ?_) | (refine callK_by (hma _) ?_) | (refine callK_by (how _) ?_) | (refine callK_by (hcr _) ?_) | (refine callK_by (hunc _) ?_) | (simp -dsimp -implicitDefEqProofs only [go_sem, proofA, recA, chanA, refA, facA, c1, c2, e4, e5, c6, e7, c8, ↓cmp_sum, isSumT]))
         all_goals first | (rw [hG]) | rfl
       ·rw [if_pos (.inr c7)] at hG
        have e7 : eqB (AV.vec 1 (u8s (txS f.tx).b)) (AV.vec 1 (u8s p.commit.b)) = false := eqB_no (fun q => c7 (sumA_inj _ _ q))
        refine FnSpec.of_code (cx := cx) (an := {}) (rs := [.tmp 12]) mo Tryz.func167 rfl rfl (by kernel_rfl) (by kernel_rfl) (by show 6 ≤ _; decide) (.inl rfl) (by simp [allWr, keys, Res.wr]) ?_
        repeat' (first | omega | assumption | (show AL.ahead _ _ _ = true; rfl) | (first | apply brF | apply brT | apply brVF | apply brVT) <;> intro _ | (with_reducible refine And.intro ?_ ?_) | (refine callK_by (hv _) ?_) | (refine callK_by (hhi _) ?_) | (refine callK_by (hma _) ?_) | (refine callK_by (how _) ?_) | (refine callK_by (hcr _) ?_) | (simp -dsimp -implicitDefEqProofs only [go_sem, proofA, recA, chanA, refA, facA, c1, c2, e4, e5, c6, e7, ↓cmp_sum, isSumT]))
        all_goals first | (rw [hG]) | rfl
      ·rw [if_pos (.inl c6)] at hG
       refine FnSpec.of_code (cx := cx) (an := {}) (rs := [.tmp 12]) mo Tryz.func167 rfl rfl (by kernel_rfl) (by kernel_rfl) (by show 6 ≤ _; decide) (.inl rfl) (by simp [allWr, keys, Res.wr]) ?_
       repeat' (first | omega | assumption | (show AL.ahead _ _ _ = true; rfl) | (first | apply brF | apply brT | apply brVF | apply brVT) <;> intro _ | (with_reducible refine And.intro ?_ ?_) | (refine callK_by (hv _) ?_) | (refine callK_by (hhi _) ?_) | (refine callK_by (hma _) ?_) | (refine callK_by (how _) ?_) | (simp -dsimp -implicitDefEqProofs only [go_sem, proofA, recA, chanA, refA, facA, c1, c2, e4, e5, c6, ↓cmp_sum, isSumT]))
       all_goals first | (rw [hG]) | rfl
     ·rw [if_pos (.inr c5)] at hG
      have e5 : eqB (AV.vec 1 (u8s p.rec_.blob.b)) (AV.vec 1 (u8s (amarkS p.blob).b)) = false := eqB_no (fun q => c5 (sumA_inj _ _ q))
      refine FnSpec.of_code (cx := cx) (an := {}) (rs := [.tmp 12]) mo Tryz.func167 rfl rfl (by kernel_rfl) (by kernel_rfl) (by show 6 ≤ _; decide) (.inl rfl) (by simp [allWr, keys, Res.wr]) ?_
      repeat' (first | omega | assumption | (show AL.ahead _ _ _ = true; rfl) | (first | apply brF | apply brT | apply brVF | apply brVT) <;> intro _ | (with_reducible refine And.intro ?_ ?_) | (refine callK_by (hv _) ?_) | (refine callK_by (hhi _) ?_) | (refine callK_by (hma _) ?_) | (simp -dsimp -implicitDefEqProofs only [go_sem, proofA, recA, chanA, refA, facA, c1, c2, e4, e5, ↓cmp_sum, isSumT]))
      all_goals first | (rw [hG]) | rfl
    ·rw [if_pos (.inl c4)] at hG
     have e4 : eqB (AV.vec 1 (u8s p.rec_.hint.b)) (AV.vec 1 (u8s (hintS p.commit).b)) = false := eqB_no (fun q => c4 (sumA_inj _ _ q))
     refine FnSpec.of_code (cx := cx) (an := {}) (rs := [.tmp 12]) mo Tryz.func167 rfl rfl (by kernel_rfl) (by kernel_rfl) (by show 6 ≤ _; decide) (.inl rfl) (by simp [allWr, keys, Res.wr]) ?_
     repeat' (first | omega | assumption | (show AL.ahead _ _ _ = true; rfl) | (first | apply brF | apply brT | apply brVF | apply brVT) <;> intro _ | (with_reducible refine And.intro ?_ ?_) | (refine callK_by (hv _) ?_) | (refine callK_by (hhi _) ?_) | (simp -dsimp -implicitDefEqProofs only [go_sem, proofA, recA, chanA, refA, facA, c1, c2, e4, ↓cmp_sum, isSumT]))
     all_goals first | (rw [hG]) | rfl
   ·rw [if_pos c3] at hG
    rw [c3] at hv
    refine FnSpec.of_code (cx := cx) (an := {}) (rs := [.tmp 12]) mo Tryz.func167 rfl rfl (by kernel_rfl) (by kernel_rfl) (by show 6 ≤ _; decide) (.inl rfl) (by simp [allWr, keys, Res.wr]) ?_
    repeat' (first | omega | assumption | (show AL.ahead _ _ _ = true; rfl) | (first | apply brF | apply brT | apply brVF | apply brVT) <;> intro _ | (with_reducible refine And.intro ?_ ?_) | (refine callK_by (hv _) ?_) | (simp -dsimp -implicitDefEqProofs only [go_sem, proofA, recA, chanA, refA, facA, c1, c2]))
    all_goals first | (rw [hG]) | rfl
  ·rw [if_pos (.inr c2)] at hG
   refine FnSpec.of_code (cx := cx) (an := {}) (rs := [.tmp 12]) mo Tryz.func167 rfl rfl (by kernel_rfl) (by kernel_rfl) (by show 6 ≤ _; decide) (.inl rfl) (by simp [allWr, keys, Res.wr]) ?_
   repeat' (first | omega | assumption | (show AL.ahead _ _ _ = true; rfl) | (first | apply brF | apply brT | apply brVF | apply brVT) <;> intro _ | (with_reducible refine And.intro ?_ ?_) | (simp -dsimp -implicitDefEqProofs only [go_sem, proofA, recA, chanA, refA, facA, c1, c2]))
   all_goals first | (rw [hG]) | rfl
 ·rw [if_pos (.inl c1)] at hG
  refine FnSpec.of_code (cx := cx) (an := {}) (rs := [.tmp 12]) mo Tryz.func167 rfl rfl (by kernel_rfl) (by kernel_rfl) (by show 6 ≤ _; decide) (.inl rfl) (by simp [allWr, keys, Res.wr]) ?_
  repeat' (first | omega | assumption | (show AL.ahead _ _ _ = true; rfl) | (first | apply brF | apply brT | apply brVF | apply brVT) <;> intro _ | (with_reducible refine And.intro ?_ ?_) | (simp -dsimp -implicitDefEqProofs only [go_sem, proofA, recA, chanA, refA, facA, c1]))
  all_goals first | (rw [hG]) | rfl
end Go.Proofs.YthfoeaokfhbdaaaGreat

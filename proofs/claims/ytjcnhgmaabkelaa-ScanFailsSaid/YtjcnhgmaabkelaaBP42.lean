/-
  What a nil tower does, on; the law TowerNobody.
-/
import Derived.Test.YtjcnhgmaabkelaaBP8
set_option linter.unusedSimpArgs false
set_option linter.unusedVariables false
set_option maxRecDepth 100000
set_option maxHeartbeats 1000000
namespace Go.Proofs.Ytjcnhgmaabkelaa
open Go Go.AL Go.Proofs.Ytjcnhgmaabkelaa.T

attribute [local go_sem] nb_u8s u8s_length nb_sum sumA List.length_replicate u8_wrap take32 List.drop_zero zero_sum sum_h u8s_cons u8s_one u8_gc u8_gd1 u8_cs1 List.length_append u8s_app u8s_nil sums_len nb_sums towerA receiptA signedA opA keyA txZ
theorem jobs_nil (nx : Nat) : FnSpec Try.prog 24 nx [nilP] [] (.sl 0 [] 1) [] 0 := by
  refine FnSpec.of_code (cx := cx) (an := {}) (rs := [.tmp 2]) mo Try.func24 rfl rfl (by kernel_rfl) (by kernel_rfl) (by show 1 ≤ _; decide) (.inl rfl) (by simp [allWr, keys, Res.wr]) ?_
  repeat' (first | omega | assumption | (show AL.ahead _ _ _ = true; rfl) | refine brF (fun _ => ?_) (fun _ => ?_) | refine brT (fun _ => ?_) (fun _ => ?_) | refine brVF (fun _ => ?_) (fun _ => ?_) | refine brVT (fun _ => ?_) (fun _ => ?_) | (with_reducible refine And.intro ?_ ?_) | (refine callK_by (none_nil _) ?_) | (simp -dsimp -implicitDefEqProofs only [go_sem, ↓reduceIte, Nat.reduceEqDiff, Nat.reduceAdd, Nat.reduceMul, Nat.reduceLeDiff, Nat.reduceLT, Nat.reduceBEq, Nat.reducePow, Int.reduceToNat, Int.reduceLE, Int.reduceLT, Int.reduceNeg, reduceCtorEq, Int.reduceEq, Int.reduceAdd, Int.reduceSub, Int.reduceMul, Nat.reduceSub]))
theorem root_nil (nx : Nat) : FnSpec Try.prog 7 nx [nilP] [] (sumA zeroS) [] 0 := by
  refine FnSpec.of_code (cx := cx) (an := {}) (rs := [.cell 2 23]) mo Try.func7 rfl rfl (by kernel_rfl) (by kernel_rfl) (by show 1 ≤ _; decide) (.inl rfl) (by simp [allWr, keys, Res.wr]) ?_
  repeat' (first | omega | assumption | (show AL.ahead _ _ _ = true; rfl) | refine brF (fun _ => ?_) (fun _ => ?_) | refine brT (fun _ => ?_) (fun _ => ?_) | refine brVF (fun _ => ?_) (fun _ => ?_) | refine brVT (fun _ => ?_) (fun _ => ?_) | (with_reducible refine And.intro ?_ ?_) | (refine callK_by (none_nil _) ?_) | (simp -dsimp -implicitDefEqProofs only [go_sem, ↓reduceIte, Nat.reduceEqDiff, Nat.reduceAdd, Nat.reduceMul, Nat.reduceLeDiff, Nat.reduceLT, Nat.reduceBEq, Nat.reducePow, Int.reduceToNat, Int.reduceLE, Int.reduceLT, Int.reduceNeg, reduceCtorEq, Int.reduceEq, Int.reduceAdd, Int.reduceSub, Int.reduceMul, Nat.reduceSub]))
theorem op_nil (nx sz t : Nat) (L : List AV) (os : List AV) (ht : t < 2 ∨ t - 2 < nx) (hn : AV.nbs nx L) (ho : AV.nbs nx os) : FnSpec Try.prog 34 nx [nilP, .agg 37 L, .sl sz os t] [] txZ [] 0 := by
  refine FnSpec.of_code (cx := cx) (an := {mt := [4]}) (rs := [.cell 6 43]) mo Try.func34 rfl rfl (by kernel_rfl) (by kernel_rfl) (by show 3 ≤ _; decide) (.inl rfl) (by simp [allWr, keys, Res.wr]) ?_
  repeat' (first | omega | assumption | (show AL.ahead _ _ _ = true; rfl) | refine brF (fun _ => ?_) (fun _ => ?_) | refine brT (fun _ => ?_) (fun _ => ?_) | refine brVF (fun _ => ?_) (fun _ => ?_) | refine brVT (fun _ => ?_) (fun _ => ?_) | (with_reducible refine And.intro ?_ ?_) | (refine callK_by (none_nil _) ?_) | (simp -dsimp -implicitDefEqProofs only [go_sem, ↓reduceIte, Nat.reduceEqDiff, Nat.reduceAdd, Nat.reduceMul, Nat.reduceLeDiff, Nat.reduceLT, Nat.reduceBEq, Nat.reducePow, Int.reduceToNat, Int.reduceLE, Int.reduceLT, Int.reduceNeg, reduceCtorEq, Int.reduceEq, Int.reduceAdd, Int.reduceSub, Int.reduceMul, Nat.reduceSub]))
theorem bond_nil (nx : Nat) (r : Ref_) (a b : Int) : FnSpec Try.prog 11 nx [nilP, refA r, n64 a, n64 b] [] txZ [] 0 := by
  refine FnSpec.of_code (cx := cx) (an := {}) (rs := [.cell 8 43]) mo Try.func11 rfl rfl (by kernel_rfl) (by kernel_rfl) (by show 4 ≤ _; decide) (.inl rfl) (by simp [allWr, keys, Res.wr]) ?_
  repeat' (first | omega | assumption | (show AL.ahead _ _ _ = true; rfl) | refine brF (fun _ => ?_) (fun _ => ?_) | refine brT (fun _ => ?_) (fun _ => ?_) | refine brVF (fun _ => ?_) (fun _ => ?_) | refine brVT (fun _ => ?_) (fun _ => ?_) | (with_reducible refine And.intro ?_ ?_) | (refine callK_by (none_nil _) ?_) | (simp -dsimp -implicitDefEqProofs only [go_sem, ↓reduceIte, Nat.reduceEqDiff, Nat.reduceAdd, Nat.reduceMul, Nat.reduceLeDiff, Nat.reduceLT, Nat.reduceBEq, Nat.reducePow, Int.reduceToNat, Int.reduceLE, Int.reduceLT, Int.reduceNeg, reduceCtorEq, Int.reduceEq, Int.reduceAdd, Int.reduceSub, Int.reduceMul, Nat.reduceSub, refA]))
theorem collect_nil (nx : Nat) (a b : Int) : FnSpec Try.prog 14 nx [nilP, n64 a, n64 b] [] txZ [] 0 := by
  refine FnSpec.of_code (cx := cx) (an := {}) (rs := [.cell 6 43]) mo Try.func14 rfl rfl (by kernel_rfl) (by kernel_rfl) (by show 3 ≤ _; decide) (.inl rfl) (by simp [allWr, keys, Res.wr]) ?_
  repeat' (first | omega | assumption | (show AL.ahead _ _ _ = true; rfl) | refine brF (fun _ => ?_) (fun _ => ?_) | refine brT (fun _ => ?_) (fun _ => ?_) | refine brVF (fun _ => ?_) (fun _ => ?_) | refine brVT (fun _ => ?_) (fun _ => ?_) | (with_reducible refine And.intro ?_ ?_) | (refine callK_by (none_nil _) ?_) | (simp -dsimp -implicitDefEqProofs only [go_sem, ↓reduceIte, Nat.reduceEqDiff, Nat.reduceAdd, Nat.reduceMul, Nat.reduceLeDiff, Nat.reduceLT, Nat.reduceBEq, Nat.reducePow, Int.reduceToNat, Int.reduceLE, Int.reduceLT, Int.reduceNeg, reduceCtorEq, Int.reduceEq, Int.reduceAdd, Int.reduceSub, Int.reduceMul, Nat.reduceSub]))
theorem ask_nil (nx : Nat) (a b : Int) : FnSpec Try.prog 13 nx [nilP, n64 a, n64 b] [] txZ [] 0 := by
  refine FnSpec.of_code (cx := cx) (an := {}) (rs := [.cell 6 43]) mo Try.func13 rfl rfl (by kernel_rfl) (by kernel_rfl) (by show 3 ≤ _; decide) (.inl rfl) (by simp [allWr, keys, Res.wr]) ?_
  repeat' (first | omega | assumption | (show AL.ahead _ _ _ = true; rfl) | refine brF (fun _ => ?_) (fun _ => ?_) | refine brT (fun _ => ?_) (fun _ => ?_) | refine brVF (fun _ => ?_) (fun _ => ?_) | refine brVT (fun _ => ?_) (fun _ => ?_) | (with_reducible refine And.intro ?_ ?_) | (refine callK_by (op_nil _ 0 1 _ [] (by omega) (by simp [AV.nbs, AV.nb, nb_sum, nb_u8s]) (by simp [AV.nbs])) ?_) | (simp -dsimp -implicitDefEqProofs only [go_sem, ↓reduceIte, Nat.reduceEqDiff, Nat.reduceAdd, Nat.reduceMul, Nat.reduceLeDiff, Nat.reduceLT, Nat.reduceBEq, Nat.reducePow, Int.reduceToNat, Int.reduceLE, Int.reduceLT, Int.reduceNeg, reduceCtorEq, Int.reduceEq, Int.reduceAdd, Int.reduceSub, Int.reduceMul, Nat.reduceSub]))
  all_goals trace_state
theorem hold_nil (nx : Nat) (c : Chan) : FnSpec Try.prog 12 nx [nilP, chanA c] [] txZ [] 0 := by
  have hc := fun m => channel_spec m c
  unfold chanA at *
  refine FnSpec.of_code (cx := cx) (an := {}) (rs := [.cell 4 43]) mo Try.func12 rfl rfl (by kernel_rfl) (by kernel_rfl) (by show 2 ≤ _; decide) (.inl rfl) (by simp [allWr, keys, Res.wr]) ?_
  repeat' (first | omega | assumption | (show AL.ahead _ _ _ = true; rfl) | refine brF (fun _ => ?_) (fun _ => ?_) | refine brT (fun _ => ?_) (fun _ => ?_) | refine brVF (fun _ => ?_) (fun _ => ?_) | refine brVT (fun _ => ?_) (fun _ => ?_) | (with_reducible refine And.intro ?_ ?_) | (refine callK_by (hc _) ?_) | (refine callK_by (op_nil _ 0 1 _ [] (by omega) (by simp [AV.nbs, AV.nb, nb_sum, nb_u8s]) (by simp [AV.nbs])) ?_) | (simp -dsimp -implicitDefEqProofs only [go_sem, ↓reduceIte, Nat.reduceEqDiff, Nat.reduceAdd, Nat.reduceMul, Nat.reduceLeDiff, Nat.reduceLT, Nat.reduceBEq, Nat.reducePow, Int.reduceToNat, Int.reduceLE, Int.reduceLT, Int.reduceNeg, reduceCtorEq, Int.reduceEq, Int.reduceAdd, Int.reduceSub, Int.reduceMul, Nat.reduceSub, refA]))
  all_goals trace_state
def chanZ : Chan := ⟨0, 0, 0, ⟨zeroS, 0⟩, 0, 0, 0⟩
theorem rightChannel_zero (nx : Nat) : FnSpec Try.prog 86 nx [chanA chanZ] [] (bA false) [] 0 := by
  refine FnSpec.of_code (cx := cx) (an := {}) (rs := [.tmp 2]) mo Try.func86 rfl rfl (by kernel_rfl) (by kernel_rfl) (by show 1 ≤ _; decide) (.inl rfl) (by simp [allWr, keys, Res.wr]) ?_
  repeat' (first | omega | assumption | (show AL.ahead _ _ _ = true; rfl) | refine brF (fun _ => ?_) (fun _ => ?_) | refine brT (fun _ => ?_) (fun _ => ?_) | refine brVF (fun _ => ?_) (fun _ => ?_) | refine brVT (fun _ => ?_) (fun _ => ?_) | (with_reducible refine And.intro ?_ ?_) | (simp -dsimp -implicitDefEqProofs only [go_sem, ↓reduceIte, Nat.reduceEqDiff, Nat.reduceAdd, Nat.reduceMul, Nat.reduceLeDiff, Nat.reduceLT, Nat.reduceBEq, Nat.reducePow, Int.reduceToNat, Int.reduceLE, Int.reduceLT, Int.reduceNeg, reduceCtorEq, Int.reduceEq, Int.reduceAdd, Int.reduceSub, Int.reduceMul, Nat.reduceSub, chanA, refA, chanZ, List.append_eq, List.cons_append, List.nil_append]))
  all_goals trace_state
theorem jobsClone0 (nx sz t : Nat) : FnSpec Try.prog 47 nx [.sl sz [] t] [] (.sl 35 [] 0) [] 0 := by
  refine FnSpec.empty fun b n => ?_
  cases b with
  | none =>
    have h : FnSpec Try.prog 47 nx [.val (.slice none 0 n)] [] (.sl 0 [] 1) [] 0 := by
      refine FnSpec.of_code (cx := cx) (an := {}) (rs := [.tmp 2]) mo Try.func47 rfl rfl (by kernel_rfl) (by kernel_rfl) (by show 1 ≤ _; decide) (.inl rfl) (by simp [allWr, keys, Res.wr]) ?_
      repeat' (first | omega | assumption | (show AL.ahead _ _ _ = true; rfl) | refine brF (fun _ => ?_) (fun _ => ?_) | refine brT (fun _ => ?_) (fun _ => ?_) | refine brVF (fun _ => ?_) (fun _ => ?_) | refine brVT (fun _ => ?_) (fun _ => ?_) | (with_reducible refine And.intro ?_ ?_) | (simp -dsimp -implicitDefEqProofs only [go_sem, ↓reduceIte, Nat.reduceEqDiff, Nat.reduceAdd, Nat.reduceMul, Nat.reduceLeDiff, Nat.reduceLT, Nat.reduceBEq, Nat.reducePow, Int.reduceToNat, Int.reduceLE, Int.reduceLT, Int.reduceNeg, reduceCtorEq, Int.reduceEq, Int.reduceAdd, Int.reduceSub, Int.reduceMul, Nat.reduceSub, Option.isNone_none]))
    exact h.forget0 ⟨rfl, .inr ⟨.inr rfl, .inl rfl⟩⟩ (by simp [AV.nb, AV.nbs]) (by simp [keys])
  | some a =>
    have h : FnSpec Try.prog 47 nx [.val (.slice (some a) 0 n)] [] (.sl 35 [] (nx + 42)) [(nx + 40, some (.tail 0))] 60 := by
      refine FnSpec.of_code (cx := cx) (an := {}) (rs := [.tmp 2]) mo Try.func47 rfl rfl (by kernel_rfl) (by kernel_rfl) (by show 1 ≤ _; decide) (.inl rfl) (by simp [allWr, keys, Res.wr]) ?_
      repeat' (first | omega | assumption | (show AL.ahead _ _ _ = true; rfl) | refine brF (fun _ => ?_) (fun _ => ?_) | refine brT (fun _ => ?_) (fun _ => ?_) | refine brVF (fun _ => ?_) (fun _ => ?_) | refine brVT (fun _ => ?_) (fun _ => ?_) | (with_reducible refine And.intro ?_ ?_) | (simp -dsimp -implicitDefEqProofs only [go_sem, ↓reduceIte, Nat.reduceEqDiff, Nat.reduceAdd, Nat.reduceMul, Nat.reduceLeDiff, Nat.reduceLT, Nat.reduceBEq, Nat.reducePow, Int.reduceToNat, Int.reduceLE, Int.reduceLT, Int.reduceNeg, reduceCtorEq, Int.reduceEq, Int.reduceAdd, Int.reduceSub, Int.reduceMul, Nat.reduceSub, Option.isNone_some]))
    exact h.forget0 ⟨rfl, .inr ⟨.inl rfl, .inl rfl⟩⟩ (by simp [AV.nb, AV.nbs]) (by simp [keys])
theorem jobs_obj (nx m key t : Nat) (n : Int) (s : AV) (ht : t < 2 ∨ t - 2 < nx) : FnSpec Try.prog 24 nx [.ref m 0 []] [(m, some (.robj (towerA n key (.sl 35 [] t) s)))] (.sl 35 [] 0) [] 0 := by
  refine FnSpec.of_code (cx := cx) (an := {}) (rs := [.tmp 2]) mo Try.func24 rfl rfl (by kernel_rfl) (by kernel_rfl) (by show 1 ≤ _; decide) (.inl rfl) (by simp [allWr, keys, Res.wr]) ?_
  repeat' (first | omega | assumption | (show AL.ahead _ _ _ = true; rfl) | refine brF (fun _ => ?_) (fun _ => ?_) | refine brT (fun _ => ?_) (fun _ => ?_) | refine brVF (fun _ => ?_) (fun _ => ?_) | refine brVT (fun _ => ?_) (fun _ => ?_) | (with_reducible refine And.intro ?_ ?_) | (refine callK_by (none_obj _ m key n (.sl 35 [] t) s) ?_) | (refine callK_by (jobsClone0 _ 35 t) ?_) | (simp -dsimp -implicitDefEqProofs only [go_sem, ↓reduceIte, Nat.reduceEqDiff, Nat.reduceAdd, Nat.reduceMul, Nat.reduceLeDiff, Nat.reduceLT, Nat.reduceBEq, Nat.reducePow, Int.reduceToNat, Int.reduceLE, Int.reduceLT, Int.reduceNeg, reduceCtorEq, Int.reduceEq, Int.reduceAdd, Int.reduceSub, Int.reduceMul, Nat.reduceSub]))
theorem left_one (nx m key t : Nat) (hne : m ≠ key) (n : Int) (j s : AV) (sd : Sum) :
    FnSpec Try.prog 23 nx [.ref m 0 []] [(m, some (.robj (towerA n key j s))), (key, some (.robj (keyA sd (leavesL sd 1) t 0)))] (n64 1) [] 0 := by
  have h := left_obj nx m key t hne n j s sd (leavesL sd 1) 0 (by rw [leavesL_len]; decide) (by decide) (by rw [leavesL_len]; decide)
  rw [leavesL_len] at h
  exact h
theorem tawake_spec (nx : Nat) : FnSpec Try.prog 6 nx [] [] (bA true) [] 0 := by
  refine FnSpec.of_code (cx := cx) (an := {}) (rs := [.tmp 0]) mo Try.func6 rfl rfl (by kernel_rfl) (by kernel_rfl) (by show 0 ≤ _; decide) (.inl rfl) (by simp [allWr, keys, Res.wr]) ?_
  repeat' (first | omega | assumption | (show AL.ahead _ _ _ = true; rfl) | refine brF (fun _ => ?_) (fun _ => ?_) | refine brT (fun _ => ?_) (fun _ => ?_) | refine brVF (fun _ => ?_) (fun _ => ?_) | refine brVT (fun _ => ?_) (fun _ => ?_) | (with_reducible refine And.intro ?_ ?_) | (refine callK_by (towerNew_bad _ 16 zeroS 1 (by omega)) ?_) | (refine callK_by (towerNew_spec _ 3 zeroS 1 (by omega) (by omega) (by omega) (by omega)) ?_) | (refine callK_by (left_one _ (nx + 396) (nx + 344) (nx + 339) (by omega) 3 (.sl 35 [] (nx + 391)) (.sl 68 [] (nx + 392)) zeroS) ?_) | (refine callK_by (jobs_obj _ (nx + 396) (nx + 344) (nx + 391) 3 (.sl 68 [] (nx + 392)) (by omega)) ?_) | (simp -dsimp -implicitDefEqProofs only [go_sem, ↓reduceIte, Nat.reduceEqDiff, Nat.reduceAdd, Nat.reduceMul, Nat.reduceLeDiff, Nat.reduceLT, Nat.reduceBEq, Nat.reducePow, Int.reduceToNat, Int.reduceLE, Int.reduceLT, Int.reduceNeg, reduceCtorEq, Int.reduceEq, Int.reduceAdd, Int.reduceSub, Int.reduceMul, Nat.reduceSub]))
  all_goals trace_state
def isSumT (P : Program) (T : TypeId) : Bool :=
  match tarr P T with
  | some (len, e) => decide (len = 32) && decide (tsz P e = some 1) && decide (tagg P e = some false) && (match tint P e with | some .u8 => true | _ => false)
  | none => false
theorem cmp_sum {P : Program} {T : TypeId} {s : Sum} (h : isSumT P T = true) : cmpOK P 8 T (.vec 1 (u8s s.b)) = True := by
  unfold isSumT at h
  split at h
  · rename_i len e he
    simp only [Bool.and_eq_true, decide_eq_true_eq] at h
    obtain ⟨⟨⟨h1, h2⟩, h3⟩, h4⟩ := h
    have h5 : tint P e = some .u8 := by
      split at h4
      · assumption
      · cases h4
    simp only [eq_iff_iff, iff_true]
    rw [cmpOK]
    simp only [he, h2, h3]
    refine ⟨by rw [u8s_length, s.h, h1], trivial, fun p hp => ?_⟩
    obtain ⟨b, _, rfl⟩ := List.mem_map.1 hp
    exact ⟨rfl, rfl, by simp only [u8, cmpOK]; exact h5⟩
  · cases h
theorem wrap0 : IntKind.i64.wrap 0 = 0 := by decide
theorem eqB_self (a : AV) : eqB a a = true := eqB_yes rfl
end Go.Proofs.Ytjcnhgmaabkelaa

/-
  What sweeps, and what settles.
-/
set_option linter.unusedSimpArgs false
set_option linter.unusedVariables false
set_option maxRecDepth 100000
set_option maxHeartbeats 1000000
namespace Go.Proofs.Ytjcnhgmaabkelaa
open Go Go.AL Go.Proofs.Ytjcnhgmaabkelaa.T
attribute [local go_sem] nb_u8s u8s_length nb_sum sumA List.length_replicate zero_sum sum_h nb_vals vals_len u8s_nil
def op0 : Op_ := ⟨0, 0, 0, 0, zeroS, []⟩
def toO (k a : Int) : Out_ := ⟨a, [⟨[k], zeroS, 0, 0⟩]⟩
def sweepT (k : Int) (id : Sum) (a : Int) : Tx_ := ⟨[⟨⟨id, 0⟩, 0, []⟩], [toO k a], op0, []⟩
def settleT (ch k : Int) (tower a : Int) : Tx_ := ⟨[], [toO k a], ⟨7, tower, ch, 0, zeroS, []⟩, []⟩
noncomputable def signedT (t : Tx_) (k : Int) : Tx_ := { t with signs := [⟨k, txS t⟩] }
theorem opL_le (o : Op_) : (opL o).length ≤ 82 + o.data.length := by
  have h1 := flat_numI [o.kind, o.tower, o.channel, o.amount]
  have h2 := numI_len o.data.length
  simp only [List.length_cons, List.length_nil] at h1
  simp only [opL, List.length_append, sum_h]; omega
theorem outL_to (k a : Int) : (outL (toO k a)).length ≤ 92 := by
  have h1 := flat_numI [a, ((1 : Nat) : Int)]
  have h2 := numI_len ((1 : Nat) : Int)
  have h3 := flat_numI [k]
  have h4 := flat_numI [(0 : Int), 0]
  simp only [List.length_cons, List.length_nil] at h1 h3 h4
  simp only [outL, toO, wayL, List.flatMap_cons, List.flatMap_nil, List.append_nil, List.length_append, sum_h, List.length_cons, List.length_nil, Nat.zero_add] at *
  omega
theorem inL_le (x : In_) : (inL true x).length ≤ 62 + x.pre.length := by
  have h1 := flat_numI [x.ref.at_, x.way]
  have h2 := numI_len x.pre.length
  simp only [List.length_cons, List.length_nil] at h1
  simp only [inL, List.length_append, sum_h, if_true]; omega
theorem sweepT_len (k : Int) (id : Sum) (a : Int) : (bodyL true (sweepT k id a)).length < 2 ^ 38 := by
  have h1 := numI_len ((1 : Nat) : Int)
  have h2 := inL_le ⟨⟨id, 0⟩, 0, []⟩
  have h3 := outL_to k a
  have h4 := opL_le op0
  simp only [op0, List.length_nil] at h4 h2
  simp only [bodyL, sweepT, op0, List.flatMap_cons, List.flatMap_nil, List.append_nil, List.length_append, List.length_cons, List.length_nil, Nat.zero_add]
  omega
theorem settleT_len (ch k t a : Int) : (bodyL true (settleT ch k t a)).length < 2 ^ 38 := by
  have h1 := numI_len ((1 : Nat) : Int)
  have h2 := numI_len ((0 : Nat) : Int)
  have h3 := outL_to k a
  have h4 := opL_le ⟨7, t, ch, 0, zeroS, []⟩
  simp only [List.length_nil] at h4
  simp only [bodyL, settleT, List.flatMap_cons, List.flatMap_nil, List.append_nil, List.length_append, List.length_cons, List.length_nil, Nat.zero_add]
  omega
theorem toO_keys (k a : Int) (L : List Out_) (h : L = [toO k a]) : ∀ o ∈ L, ∀ w ∈ o.ways, w.keys.length < 2 ^ 32 := by
  subst h
  intro o ho w hw
  simp at ho; subst ho
  simp [toO] at hw; subst hw
  simp
theorem sweepSign (nx : Nat) (k : Int) (id : Sum) (a : Int) :
    FnSpec Try.prog 33 nx [.agg 40 [.sl 35 [.agg 35 [.agg 33 [sumA id, n64 0], n64 0, .sl 1 [] 1]] 1, .sl 2 [outA (toO k a)] 1, .agg 37 [n64 0, n64 0, n64 0, n64 0, sumA zeroS, .sl 1 [] 1], .sl 33 [] 1], .sl 1 [n64 k] 1] [] (txA (signedT (sweepT k id a) k)) [] 0 := by
  refine (signed_spec nx 1 (sweepT k id a) k rfl (sweepT_len k id a) (toO_keys k a _ rfl) (.inl (by decide))).le ?_
  refine ⟨_, _, rfl, ⟨_, rfl, _, _, rfl, ⟨_, _, rfl, ?_, .inr (.inl rfl)⟩, _, _, rfl, ⟨_, _, rfl, AV.les_refl _, .inr (.inl rfl)⟩, _, _, rfl, ⟨_, rfl, ?_⟩, AV.les_refl _⟩, AV.les_refl _⟩
  · exact ⟨_, _, rfl, ⟨_, rfl, _, _, rfl, AV.le_refl _, _, _, rfl, AV.le_refl _, _, _, rfl, ⟨_, _, rfl, AV.les_refl _, .inr (.inl rfl)⟩, rfl⟩, rfl⟩
  · exact ⟨_, _, rfl, AV.le_refl _, _, _, rfl, AV.le_refl _, _, _, rfl, AV.le_refl _, _, _, rfl, AV.le_refl _, _, _, rfl, AV.le_refl _, _, _, rfl, ⟨_, _, rfl, AV.les_refl _, .inr (.inl rfl)⟩, rfl⟩
theorem settleSign (nx : Nat) (ch k t a : Int) :
    FnSpec Try.prog 33 nx [.agg 40 [.sl 35 [] 1, .sl 2 [outA (toO k a)] 1, .agg 37 [n64 7, n64 t, n64 ch, n64 0, sumA zeroS, .sl 1 [] 1], .sl 33 [] 1], .sl 1 [n64 k] 1] [] (txA (signedT (settleT ch k t a) k)) [] 0 := by
  refine (signed_spec nx 1 (settleT ch k t a) k rfl (settleT_len ch k t a) (toO_keys k a _ rfl) (.inl (by decide))).le ?_
  refine ⟨_, _, rfl, ⟨_, rfl, _, _, rfl, ⟨_, _, rfl, AV.les_refl _, .inr (.inl rfl)⟩, _, _, rfl, ⟨_, _, rfl, AV.les_refl _, .inr (.inl rfl)⟩, _, _, rfl, ⟨_, rfl, ?_⟩, AV.les_refl _⟩, AV.les_refl _⟩
  · exact ⟨_, _, rfl, AV.le_refl _, _, _, rfl, AV.le_refl _, _, _, rfl, AV.le_refl _, _, _, rfl, AV.le_refl _, _, _, rfl, AV.le_refl _, _, _, rfl, ⟨_, _, rfl, AV.les_refl _, .inr (.inl rfl)⟩, rfl⟩
theorem txA_sc (t : Tx_) : (txA t).cref = .cref (txA t) := rfl
end Go.Proofs.Ytjcnhgmaabkelaa

/-
  Which channels, which states may be; amounts added; a secret's hash.
-/
set_option linter.unusedSimpArgs false
set_option linter.unusedVariables false
set_option maxRecDepth 100000
set_option maxHeartbeats 1000000
namespace Go.Proofs.Ytjcnhgmaabkelaa
open Go Go.AL Go.Proofs.Ytjcnhgmaabkelaa.T
attribute [local go_sem] nb_u8s u8s_length nb_sum sumA List.length_replicate zero_sum sum_h nb_vals vals_len u8s_nil
abbrev MAXA : Int := 1125899906842624
abbrev chanR (c : Chan) : Prop := 0 ≤ c.id ∧ c.id ≤ 1048576 ∧ 0 ≤ c.client ∧ c.client ≤ 255 ∧ 0 ≤ c.peer ∧ c.peer ≤ 255 ∧ c.client ≠ c.peer ∧ 1 ≤ c.cap ∧ 0 ≤ c.cap ∧ c.cap ≤ 1125899906842624 ∧ 1 ≤ c.window ∧ c.window < c.wait ∧ c.wait ≤ 65536 ∧ 0 ≤ c.fund.at_ ∧ c.fund.at_ < 16
theorem chanR_spec (nx : Nat) (c : Chan) : FnSpec Try.prog 86 nx [chanA c] [] (bA (decide (chanR c))) [] 0 := by
  refine FnSpec.of_code (cx := cx) (an := {}) (rs := [.tmp 2]) mo Try.func86 rfl rfl (by kernel_rfl) (by kernel_rfl) (by show 1 ≤ _; decide) (.inl rfl) (by simp [allWr, keys, Res.wr]) ?_
  repeat' (first | omega | assumption | (show AL.ahead _ _ _ = true; rfl) | refine brF (fun _ => ?_) (fun _ => ?_) | refine brT (fun _ => ?_) (fun _ => ?_) | refine brVF (fun _ => ?_) (fun _ => ?_) | refine brVT (fun _ => ?_) (fun _ => ?_) | (with_reducible refine And.intro ?_ ?_) | (refine callK_by (coinRight_spec _ c.cap) ?_) | (simp -dsimp -implicitDefEqProofs only [go_sem, ↓reduceIte, Nat.reduceEqDiff, Nat.reduceAdd, Nat.reduceMul, Nat.reduceLeDiff, Nat.reduceLT, Nat.reduceBEq, Nat.reducePow, Int.reduceToNat, Int.reduceLE, Int.reduceLT, Int.reduceNeg, reduceCtorEq, Int.reduceEq, Int.reduceAdd, Int.reduceSub, Int.reduceMul, Nat.reduceSub, chanA, refA, List.append_eq, List.cons_append, List.nil_append]))
  all_goals (simp only [bA, chanR]; congr 2; first | (symm; apply decide_eq_false; omega) | (symm; apply decide_eq_true; omega) | (apply decide_eq_decide.2; omega) | trace_state)
def addF : Int → List Int → Int × Int
  | s, [] => (s, 0)
  | s, a :: r => if 0 ≤ a ∧ a ≤ 1125899906842624 then (if 1125899906842624 < s + a then (0, 10) else addF (s + a) r) else (0, 5)
theorem add_spec (nx : Nat) (l : List Int) (hl : l.length < 2 ^ 40) : FnSpec Try.prog 87 nx [.sl 1 (vals .i64 l) 1] [] (.tup [n64 (addF 0 l).1, n64 (addF 0 l).2]) [] 0 := by
  obtain ⟨R, hR⟩ : ∃ R, R = addF 0 l := ⟨_, rfl⟩
  rw [← hR]
  refine FnSpec.of_code (cx := cx) (an := {}) (rs := [.tmp 2, .tmp 3]) mo Try.func87 rfl rfl (by kernel_rfl) (by kernel_rfl) (by show 1 ≤ _; decide) (.inr ⟨_, rfl, by simp [AV.good]⟩) (by simp [allWr, keys, Res.wr]) ?_
  repeat' (first | omega | assumption | (show AL.ahead _ _ _ = true; rfl) | refine brF (fun _ => ?_) (fun _ => ?_) | refine brT (fun _ => ?_) (fun _ => ?_) | refine brVF (fun _ => ?_) (fun _ => ?_) | refine brVT (fun _ => ?_) (fun _ => ?_) | (with_reducible refine And.intro ?_ ?_) | (simp -dsimp -implicitDefEqProofs only [go_sem, ↓reduceIte, Nat.reduceEqDiff, Nat.reduceAdd, Nat.reduceMul, Nat.reduceLeDiff, Nat.reduceLT, Nat.reduceBEq, Nat.reducePow, Int.reduceToNat, Int.reduceLE, Int.reduceLT, Int.reduceNeg, reduceCtorEq, Int.reduceEq, Int.reduceAdd, Int.reduceSub, Int.reduceMul, Nat.reduceSub]))
  apply loop_keep [7, 8] (fun p : { p : Nat × Int // p.1 ≤ l.length ∧ 0 ≤ p.2 ∧ p.2 ≤ 1125899906842624 ∧ addF p.2 (l.drop p.1) = R } => [(4, n64 p.1.2), (9, n64 p.1.1)]) (fun _ => []) (fun p => l.length - p.1.1) ⟨(0, 0), Nat.zero_le _, Int.le_refl _, by decide, by rw [hR]; rfl⟩
  · simp -dsimp -implicitDefEqProofs only [go_sem, ↓reduceIte, Nat.reduceEqDiff, Nat.reduceAdd, Nat.reduceMul, Nat.reduceLeDiff, Nat.reduceLT, Nat.reduceBEq, Nat.reducePow, Int.reduceToNat, Int.reduceLE, Int.reduceLT, Int.reduceNeg, reduceCtorEq, Int.reduceEq, Int.reduceAdd, Int.reduceSub, Int.reduceMul, Nat.reduceSub]; try rfl
  · simp -dsimp -implicitDefEqProofs only [go_sem, ↓reduceIte, Nat.reduceEqDiff, Nat.reduceAdd, Nat.reduceMul, Nat.reduceLeDiff, Nat.reduceLT, Nat.reduceBEq, Nat.reducePow, Int.reduceToNat, Int.reduceLE, Int.reduceLT, Int.reduceNeg, reduceCtorEq, Int.reduceEq, Int.reduceAdd, Int.reduceSub, Int.reduceMul, Nat.reduceSub]; try rfl
  · simp -dsimp -implicitDefEqProofs only [go_sem, ↓reduceIte, Nat.reduceEqDiff, Nat.reduceAdd, Nat.reduceMul, Nat.reduceLeDiff, Nat.reduceLT, Nat.reduceBEq, Nat.reducePow, Int.reduceToNat, Int.reduceLE, Int.reduceLT, Int.reduceNeg, reduceCtorEq, Int.reduceEq, Int.reduceAdd, Int.reduceSub, Int.reduceMul, Nat.reduceSub]; try rfl
  · intro s
    simp -dsimp -implicitDefEqProofs only [go_sem, ↓reduceIte, Nat.reduceEqDiff, Nat.reduceAdd, Nat.reduceMul, Nat.reduceLeDiff, Nat.reduceLT, Nat.reduceBEq, Nat.reducePow, Int.reduceToNat, Int.reduceLE, Int.reduceLT, Int.reduceNeg, reduceCtorEq, Int.reduceEq, Int.reduceAdd, Int.reduceSub, Int.reduceMul, Nat.reduceSub]
    try omega
  · rintro ⟨⟨i, x⟩, hi, hx0, hx1, hall⟩
    have hi : i ≤ l.length := hi
    simp only at hx0 hx1 hall
    simp -dsimp -implicitDefEqProofs only [go_sem, ↓reduceIte, Nat.reduceEqDiff, Nat.reduceAdd, Nat.reduceMul, Nat.reduceLeDiff, Nat.reduceLT, Nat.reduceBEq, Nat.reducePow, Int.reduceToNat, Int.reduceLE, Int.reduceLT, Int.reduceNeg, reduceCtorEq, Int.reduceEq, Int.reduceAdd, Int.reduceSub, Int.reduceMul, Nat.reduceSub]
    refine brT (fun hc => ?_) (fun hc => ?_)
    · have hi2 : i < l.length := by omega
      have q1 := vals_get (k := .i64) hi2
      have hd := List.drop_eq_getElem_cons hi2
      have hg : l.getD i 0 = l[i] := by rw [List.getD_eq_getElem?_getD, List.getElem?_eq_getElem hi2]; rfl
      rw [hd] at hall
      rw [hg] at q1
      generalize l[i] = y at *
      have w1 : IntKind.i64.wrap ((i : Int) + 1) = ((i + 1 : Nat) : Int) := wrapE (by omega) (by omega)
      by_cases hy : 0 ≤ y ∧ y ≤ 1125899906842624
      · have w2 : IntKind.i64.wrap (x + y) = x + y := by rw [IntKind.wrap_i64]; omega
        rw [addF, if_pos hy] at hall
        repeat' (first | omega | assumption | (show AL.ahead _ _ _ = true; rfl) | refine brF (fun _ => ?_) (fun _ => ?_) | refine brT (fun _ => ?_) (fun _ => ?_) | refine brVF (fun _ => ?_) (fun _ => ?_) | refine brVT (fun _ => ?_) (fun _ => ?_) | (with_reducible refine And.intro ?_ ?_) | (refine callK_by (coinRight_spec _ y) ?_) | (simp -dsimp -implicitDefEqProofs only [go_sem, ↓reduceIte, Nat.reduceEqDiff, Nat.reduceAdd, Nat.reduceMul, Nat.reduceLeDiff, Nat.reduceLT, Nat.reduceBEq, Nat.reducePow, Int.reduceToNat, Int.reduceLE, Int.reduceLT, Int.reduceNeg, reduceCtorEq, Int.reduceEq, Int.reduceAdd, Int.reduceSub, Int.reduceMul, Nat.reduceSub, q1, w1, w2, decide_eq_true hy]))
        · rename_i hx
          rw [if_pos hx] at hall
          rw [← hall]
        · rename_i hx
          rw [if_neg hx] at hall
          exact ⟨⟨(i + 1, x + y), hi2, by show 0 ≤ x + y; omega, by show x + y ≤ _; omega, hall⟩, by show l.length - (i + 1) < l.length - i; omega, ⟨rfl, rfl⟩⟩
      · rw [addF, if_neg hy] at hall
        repeat' (first | omega | assumption | (show AL.ahead _ _ _ = true; rfl) | refine brF (fun _ => ?_) (fun _ => ?_) | refine brT (fun _ => ?_) (fun _ => ?_) | refine brVF (fun _ => ?_) (fun _ => ?_) | refine brVT (fun _ => ?_) (fun _ => ?_) | (with_reducible refine And.intro ?_ ?_) | (refine callK_by (coinRight_spec _ y) ?_) | (simp -dsimp -implicitDefEqProofs only [go_sem, ↓reduceIte, Nat.reduceEqDiff, Nat.reduceAdd, Nat.reduceMul, Nat.reduceLeDiff, Nat.reduceLT, Nat.reduceBEq, Nat.reducePow, Int.reduceToNat, Int.reduceLE, Int.reduceLT, Int.reduceNeg, reduceCtorEq, Int.reduceEq, Int.reduceAdd, Int.reduceSub, Int.reduceMul, Nat.reduceSub, q1, w1, decide_eq_false hy]))
        rw [← hall]
    · have e : i = l.length := by omega
      subst e
      rw [List.drop_length, addF] at hall
      repeat' (first | omega | assumption | (show AL.ahead _ _ _ = true; rfl) | refine brF (fun _ => ?_) (fun _ => ?_) | refine brT (fun _ => ?_) (fun _ => ?_) | refine brVF (fun _ => ?_) (fun _ => ?_) | refine brVT (fun _ => ?_) (fun _ => ?_) | (with_reducible refine And.intro ?_ ?_) | (simp -dsimp -implicitDefEqProofs only [go_sem, ↓reduceIte, Nat.reduceEqDiff, Nat.reduceAdd, Nat.reduceMul, Nat.reduceLeDiff, Nat.reduceLT, Nat.reduceBEq, Nat.reducePow, Int.reduceToNat, Int.reduceLE, Int.reduceLT, Int.reduceNeg, reduceCtorEq, Int.reduceEq, Int.reduceAdd, Int.reduceSub, Int.reduceMul, Nat.reduceSub]))
      rw [← hall]
structure St_ where
  n : Int
  client : Int
  peer : Int
  h0 : Sum
  h1 : Sum
def stateA (s : St_) : AV := .agg 67 [n64 s.n, n64 s.client, n64 s.peer, .vec 32 [sumA s.h0, sumA s.h1]]
/-- may a state be of a channel? -/
def stP (c : Chan) (s : St_) : Prop := chanR c ∧ 0 ≤ s.n ∧ s.n ≤ 1048576 ∧ eqB (sumA s.h0) (sumA zeroS) = false ∧ eqB (sumA s.h1) (sumA zeroS) = false ∧ (addF 0 [s.client, s.peer]).2 = 0 ∧ (addF 0 [s.client, s.peer]).1 = c.cap
noncomputable def stR (c : Chan) (s : St_) : Bool := @decide (stP c s) (Classical.propDecidable _)
theorem stR_yes {c : Chan} {s : St_} (h : stP c s) : bA (stR c s) = bA true := by unfold stR; rw [@decide_eq_true _ (Classical.propDecidable _) h]
theorem stR_no {c : Chan} {s : St_} (h : ¬ stP c s) : bA (stR c s) = bA false := by unfold stR; rw [@decide_eq_false _ (Classical.propDecidable _) h]
theorem stR_spec (nx : Nat) (c : Chan) (s : St_) : FnSpec Try.prog 64 nx [chanA c, stateA s] [] (bA (stR c s)) [] 0 := by
  have hc := fun nc => chanR_spec nc c
  have ha := fun nc => add_spec nc [s.client, s.peer] (by simp)
  simp only [chanA, refA] at hc
  simp only [vals, List.map_cons, List.map_nil] at ha
  refine FnSpec.of_code (cx := cx) (an := {}) (rs := [.tmp 4]) mo Try.func64 rfl rfl (by kernel_rfl) (by kernel_rfl) (by show 2 ≤ _; decide) (.inl rfl) (by simp [allWr, keys, Res.wr]) ?_
  repeat' (first | omega | assumption | (show AL.ahead _ _ _ = true; rfl) | refine brF (fun _ => ?_) (fun _ => ?_) | refine brT (fun _ => ?_) (fun _ => ?_) | refine brVF (fun _ => ?_) (fun _ => ?_) | refine brVT (fun _ => ?_) (fun _ => ?_) | (with_reducible refine And.intro ?_ ?_) | (refine callK_by (hc _) ?_) | (refine callK_by (ha _) ?_) | (simp -dsimp -implicitDefEqProofs only [go_sem, ↓reduceIte, Nat.reduceEqDiff, Nat.reduceAdd, Nat.reduceMul, Nat.reduceLeDiff, Nat.reduceLT, Nat.reduceBEq, Nat.reducePow, Int.reduceToNat, Int.reduceLE, Int.reduceLT, Int.reduceNeg, reduceCtorEq, Int.reduceEq, Int.reduceAdd, Int.reduceSub, Int.reduceMul, Nat.reduceSub, chanA, refA, stateA, ↓cmp_sum, isSumT, decide_eq_true_eq, Bool.and_self]))
  all_goals first
    | (refine (stR_no (fun h => ?_)).symm
       obtain ⟨a1, a2, a3, a4, a5, a6, a7⟩ := h
       first | omega | contradiction | (rename_i hx; exact absurd (a4.symm.trans hx) (by decide)) | (rename_i hx; exact absurd (a5.symm.trans hx) (by decide)))
    | (rename_i h1 h2 h3 h4 h5 h6
       by_cases h7 : (addF 0 [s.client, s.peer]).1 = c.cap
       · rw [decide_eq_true h7]; exact (stR_yes ⟨h1, by omega, by omega, h4, h5, h6, h7⟩).symm
       · rw [decide_eq_false h7]; exact (stR_no (fun h => h7 h.2.2.2.2.2.2)).symm)
    | trace_state
noncomputable def hashS (s : Sum) : Sum := joinS 31 [s.b]
theorem lhash_spec (nx t : Nat) (a : List UInt8) (ha : a.length < 2 ^ 39) (ht : t < 2 ∨ t - 2 < nx) : FnSpec Try.prog 100 nx [.sl 1 (u8s a) t] [] (sumA (joinS 31 [a])) [] 0 := by
  have hj := fun nc (h : nx ≤ nc) => join1_spec nc 1 t 31 a ha (by omega) (by omega)
  refine FnSpec.of_code (cx := cx) (an := {}) (rs := [.cell 2 23]) mo Try.func100 rfl rfl (by kernel_rfl) (by kernel_rfl) (by show 1 ≤ _; decide) (.inl rfl) (by simp [allWr, keys, Res.wr]) ?_
  repeat' (first | omega | assumption | (show AL.ahead _ _ _ = true; rfl) | refine brF (fun _ => ?_) (fun _ => ?_) | refine brT (fun _ => ?_) (fun _ => ?_) | refine brVF (fun _ => ?_) (fun _ => ?_) | refine brVT (fun _ => ?_) (fun _ => ?_) | (with_reducible refine And.intro ?_ ?_) | (refine callK_by (hj _ (by omega)) ?_) | (simp -dsimp -implicitDefEqProofs only [go_sem, ↓reduceIte, Nat.reduceEqDiff, Nat.reduceAdd, Nat.reduceMul, Nat.reduceLeDiff, Nat.reduceLT, Nat.reduceBEq, Nat.reducePow, Int.reduceToNat, Int.reduceLE, Int.reduceLT, Int.reduceNeg, reduceCtorEq, Int.reduceEq, Int.reduceAdd, Int.reduceSub, Int.reduceMul, Nat.reduceSub]))
  all_goals trace_state
theorem shash_spec (nx : Nat) (s : Sum) : FnSpec Try.prog 88 nx [sumA s] [] (sumA (hashS s)) [] 0 := by
  have hl := s.h
  refine FnSpec.of_code (cx := cx) (an := {}) (rs := [.cell 2 23]) mo Try.func88 rfl rfl (by kernel_rfl) (by kernel_rfl) (by show 1 ≤ _; decide) (.inl rfl) (by simp [allWr, keys, Res.wr]) ?_
  repeat' (first | omega | assumption | (show AL.ahead _ _ _ = true; rfl) | refine brF (fun _ => ?_) (fun _ => ?_) | refine brT (fun _ => ?_) (fun _ => ?_) | refine brVF (fun _ => ?_) (fun _ => ?_) | refine brVT (fun _ => ?_) (fun _ => ?_) | (with_reducible refine And.intro ?_ ?_) | (refine callK_by (lhash_spec _ 1 s.b (by omega) (by omega)) ?_) | (simp -dsimp -implicitDefEqProofs only [go_sem, ↓reduceIte, Nat.reduceEqDiff, Nat.reduceAdd, Nat.reduceMul, Nat.reduceLeDiff, Nat.reduceLT, Nat.reduceBEq, Nat.reducePow, Int.reduceToNat, Int.reduceLE, Int.reduceLT, Int.reduceNeg, reduceCtorEq, Int.reduceEq, Int.reduceAdd, Int.reduceSub, Int.reduceMul, Nat.reduceSub, take32, hashS]))
  all_goals trace_state
end Go.Proofs.Ytjcnhgmaabkelaa

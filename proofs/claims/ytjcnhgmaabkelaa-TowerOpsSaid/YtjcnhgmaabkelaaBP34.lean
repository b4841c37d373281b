/-
  What a nil tower does, on; the law TowerNobody.
-/
import Derived.Test.YtjcnhgmaabkelaaBP8
set_option linter.unusedSimpArgs false
set_option linter.unusedVariables false
set_option maxRecDepth 100000
set_option maxHeartbeats 1000000
namespace Go.Proofs.Ytjcnhgmaabkelaa
open Go Go.AL Go.Proofs.Ytjcnhgmaabkelaa.T

attribute [local go_sem] nb_u8s u8s_length nb_sum sumA List.length_replicate u8_wrap take32 List.drop_zero zero_sum sum_h u8s_cons u8s_one u8_gc u8_gd1 u8_cs1 List.length_append u8s_app u8s_nil sums_len nb_sums towerA receiptA signedA opA keyA txZ
theorem jobs_nil (nx : Nat) : FnSpec Try.prog 24 nx [nilP] [] (.sl 0 [] 1) [] 0 := by
  refine FnSpec.of_code (cx := cx) (an := {}) (rs := [.tmp 2]) mo Try.func24 rfl rfl (by kernel_rfl) (by kernel_rfl) (by show 1 ≤ _; decide) (.inl rfl) (by simp [allWr, keys, Res.wr]) ?_
  repeat' (first | omega | assumption | (show AL.ahead _ _ _ = true; rfl) | refine brF (fun _ => ?_) (fun _ => ?_) | refine brT (fun _ => ?_) (fun _ => ?_) | refine brVF (fun _ => ?_) (fun _ => ?_) | refine brVT (fun _ => ?_) (fun _ => ?_) | (with_reducible refine And.intro ?_ ?_) | (refine callK_by (none_nil _) ?_) | (simp -dsimp -implicitDefEqProofs only [go_sem, ↓reduceIte, Nat.reduceEqDiff, Nat.reduceAdd, Nat.reduceMul, Nat.reduceLeDiff, Nat.reduceLT, Nat.reduceBEq, Nat.reducePow, Int.reduceToNat, Int.reduceLE, Int.reduceLT, Int.reduceNeg, reduceCtorEq, Int.reduceEq, Int.reduceAdd, Int.reduceSub, Int.reduceMul, Nat.reduceSub]))
theorem root_nil (nx : Nat) : FnSpec Try.prog 7 nx [nilP] [] (sumA zeroS) [] 0 := by
  refine FnSpec.of_code (cx := cx) (an := {}) (rs := [.cell 2 23]) mo Try.func7 rfl rfl (by kernel_rfl) (by kernel_rfl) (by show 1 ≤ _; decide) (.inl rfl) (by simp [allWr, keys, Res.wr]) ?_
  repeat' (first | omega | assumption | (show AL.ahead _ _ _ = true; rfl) | refine brF (fun _ => ?_) (fun _ => ?_) | refine brT (fun _ => ?_) (fun _ => ?_) | refine brVF (fun _ => ?_) (fun _ => ?_) | refine brVT (fun _ => ?_) (fun _ => ?_) | (with_reducible refine And.intro ?_ ?_) | (refine callK_by (none_nil _) ?_) | (simp -dsimp -implicitDefEqProofs only [go_sem, ↓reduceIte, Nat.reduceEqDiff, Nat.reduceAdd, Nat.reduceMul, Nat.reduceLeDiff, Nat.reduceLT, Nat.reduceBEq, Nat.reducePow, Int.reduceToNat, Int.reduceLE, Int.reduceLT, Int.reduceNeg, reduceCtorEq, Int.reduceEq, Int.reduceAdd, Int.reduceSub, Int.reduceMul, Nat.reduceSub]))
theorem op_nil (nx sz t : Nat) (L : List AV) (os : List AV) (ht : t < 2 ∨ t - 2 < nx) (hn : AV.nbs nx L) (ho : AV.nbs nx os) : FnSpec Try.prog 34 nx [nilP, .agg 37 L, .sl sz os t] [] txZ [] 0 := by
  refine FnSpec.of_code (cx := cx) (an := {mt := [4]}) (rs := [.cell 6 43]) mo Try.func34 rfl rfl (by kernel_rfl) (by kernel_rfl) (by show 3 ≤ _; decide) (.inl rfl) (by simp [allWr, keys, Res.wr]) ?_
  repeat' (first | omega | assumption | (show AL.ahead _ _ _ = true; rfl) | refine brF (fun _ => ?_) (fun _ => ?_) | refine brT (fun _ => ?_) (fun _ => ?_) | refine brVF (fun _ => ?_) (fun _ => ?_) | refine brVT (fun _ => ?_) (fun _ => ?_) | (with_reducible refine And.intro ?_ ?_) | (refine callK_by (none_nil _) ?_) | (simp -dsimp -implicitDefEqProofs only [go_sem, ↓reduceIte, Nat.reduceEqDiff, Nat.reduceAdd, Nat.reduceMul, Nat.reduceLeDiff, Nat.reduceLT, Nat.reduceBEq, Nat.reducePow, Int.reduceToNat, Int.reduceLE, Int.reduceLT, Int.reduceNeg, reduceCtorEq, Int.reduceEq, Int.reduceAdd, Int.reduceSub, Int.reduceMul, Nat.reduceSub]))
theorem bond_nil (nx : Nat) (r : Ref_) (a b : Int) : FnSpec Try.prog 11 nx [nilP, refA r, n64 a, n64 b] [] txZ [] 0 := by
  refine FnSpec.of_code (cx := cx) (an := {}) (rs := [.cell 8 43]) mo Try.func11 rfl rfl (by kernel_rfl) (by kernel_rfl) (by show 4 ≤ _; decide) (.inl rfl) (by simp [allWr, keys, Res.wr]) ?_
  repeat' (first | omega | assumption | (show AL.ahead _ _ _ = true; rfl) | refine brF (fun _ => ?_) (fun _ => ?_) | refine brT (fun _ => ?_) (fun _ => ?_) | refine brVF (fun _ => ?_) (fun _ => ?_) | refine brVT (fun _ => ?_) (fun _ => ?_) | (with_reducible refine And.intro ?_ ?_) | (refine callK_by (none_nil _) ?_) | (simp -dsimp -implicitDefEqProofs only [go_sem, ↓reduceIte, Nat.reduceEqDiff, Nat.reduceAdd, Nat.reduceMul, Nat.reduceLeDiff, Nat.reduceLT, Nat.reduceBEq, Nat.reducePow, Int.reduceToNat, Int.reduceLE, Int.reduceLT, Int.reduceNeg, reduceCtorEq, Int.reduceEq, Int.reduceAdd, Int.reduceSub, Int.reduceMul, Nat.reduceSub, refA]))
theorem collect_nil (nx : Nat) (a b : Int) : FnSpec Try.prog 14 nx [nilP, n64 a, n64 b] [] txZ [] 0 := by
  refine FnSpec.of_code (cx := cx) (an := {}) (rs := [.cell 6 43]) mo Try.func14 rfl rfl (by kernel_rfl) (by kernel_rfl) (by show 3 ≤ _; decide) (.inl rfl) (by simp [allWr, keys, Res.wr]) ?_
  repeat' (first | omega | assumption | (show AL.ahead _ _ _ = true; rfl) | refine brF (fun _ => ?_) (fun _ => ?_) | refine brT (fun _ => ?_) (fun _ => ?_) | refine brVF (fun _ => ?_) (fun _ => ?_) | refine brVT (fun _ => ?_) (fun _ => ?_) | (with_reducible refine And.intro ?_ ?_) | (refine callK_by (none_nil _) ?_) | (simp -dsimp -implicitDefEqProofs only [go_sem, ↓reduceIte, Nat.reduceEqDiff, Nat.reduceAdd, Nat.reduceMul, Nat.reduceLeDiff, Nat.reduceLT, Nat.reduceBEq, Nat.reducePow, Int.reduceToNat, Int.reduceLE, Int.reduceLT, Int.reduceNeg, reduceCtorEq, Int.reduceEq, Int.reduceAdd, Int.reduceSub, Int.reduceMul, Nat.reduceSub]))
theorem ask_nil (nx : Nat) (a b : Int) : FnSpec Try.prog 13 nx [nilP, n64 a, n64 b] [] txZ [] 0 := by
  refine FnSpec.of_code (cx := cx) (an := {}) (rs := [.cell 6 43]) mo Try.func13 rfl rfl (by kernel_rfl) (by kernel_rfl) (by show 3 ≤ _; decide) (.inl rfl) (by simp [allWr, keys, Res.wr]) ?_
  repeat' (first | omega | assumption | (show AL.ahead _ _ _ = true; rfl) | refine brF (fun _ => ?_) (fun _ => ?_) | refine brT (fun _ => ?_) (fun _ => ?_) | refine brVF (fun _ => ?_) (fun _ => ?_) | refine brVT (fun _ => ?_) (fun _ => ?_) | (with_reducible refine And.intro ?_ ?_) | (refine callK_by (op_nil _ 0 1 _ [] (by omega) (by simp [AV.nbs, AV.nb, nb_sum, nb_u8s]) (by simp [AV.nbs])) ?_) | (simp -dsimp -implicitDefEqProofs only [go_sem, ↓reduceIte, Nat.reduceEqDiff, Nat.reduceAdd, Nat.reduceMul, Nat.reduceLeDiff, Nat.reduceLT, Nat.reduceBEq, Nat.reducePow, Int.reduceToNat, Int.reduceLE, Int.reduceLT, Int.reduceNeg, reduceCtorEq, Int.reduceEq, Int.reduceAdd, Int.reduceSub, Int.reduceMul, Nat.reduceSub]))
  all_goals trace_state
theorem hold_nil (nx : Nat) (c : Chan) : FnSpec Try.prog 12 nx [nilP, chanA c] [] txZ [] 0 := by
  have hc := fun m => channel_spec m c
  unfold chanA at *
  refine FnSpec.of_code (cx := cx) (an := {}) (rs := [.cell 4 43]) mo Try.func12 rfl rfl (by kernel_rfl) (by kernel_rfl) (by show 2 ≤ _; decide) (.inl rfl) (by simp [allWr, keys, Res.wr]) ?_
  repeat' (first | omega | assumption | (show AL.ahead _ _ _ = true; rfl) | refine brF (fun _ => ?_) (fun _ => ?_) | refine brT (fun _ => ?_) (fun _ => ?_) | refine brVF (fun _ => ?_) (fun _ => ?_) | refine brVT (fun _ => ?_) (fun _ => ?_) | (with_reducible refine And.intro ?_ ?_) | (refine callK_by (hc _) ?_) | (refine callK_by (op_nil _ 0 1 _ [] (by omega) (by simp [AV.nbs, AV.nb, nb_sum, nb_u8s]) (by simp [AV.nbs])) ?_) | (simp -dsimp -implicitDefEqProofs only [go_sem, ↓reduceIte, Nat.reduceEqDiff, Nat.reduceAdd, Nat.reduceMul, Nat.reduceLeDiff, Nat.reduceLT, Nat.reduceBEq, Nat.reducePow, Int.reduceToNat, Int.reduceLE, Int.reduceLT, Int.reduceNeg, reduceCtorEq, Int.reduceEq, Int.reduceAdd, Int.reduceSub, Int.reduceMul, Nat.reduceSub, refA]))
  all_goals trace_state
def chanZ : Chan := ⟨0, 0, 0, ⟨zeroS, 0⟩, 0, 0, 0⟩
theorem rightChannel_zero (nx : Nat) : FnSpec Try.prog 86 nx [chanA chanZ] [] (bA false) [] 0 := by
  refine FnSpec.of_code (cx := cx) (an := {}) (rs := [.tmp 2]) mo Try.func86 rfl rfl (by kernel_rfl) (by kernel_rfl) (by show 1 ≤ _; decide) (.inl rfl) (by simp [allWr, keys, Res.wr]) ?_
  repeat' (first | omega | assumption | (show AL.ahead _ _ _ = true; rfl) | refine brF (fun _ => ?_) (fun _ => ?_) | refine brT (fun _ => ?_) (fun _ => ?_) | refine brVF (fun _ => ?_) (fun _ => ?_) | refine brVT (fun _ => ?_) (fun _ => ?_) | (with_reducible refine And.intro ?_ ?_) | (simp -dsimp -implicitDefEqProofs only [go_sem, ↓reduceIte, Nat.reduceEqDiff, Nat.reduceAdd, Nat.reduceMul, Nat.reduceLeDiff, Nat.reduceLT, Nat.reduceBEq, Nat.reducePow, Int.reduceToNat, Int.reduceLE, Int.reduceLT, Int.reduceNeg, reduceCtorEq, Int.reduceEq, Int.reduceAdd, Int.reduceSub, Int.reduceMul, Nat.reduceSub, chanA, refA, chanZ, List.append_eq, List.cons_append, List.nil_append]))
  all_goals trace_state
theorem jobsClone0 (nx sz t : Nat) : FnSpec Try.prog 47 nx [.sl sz [] t] [] (.sl 35 [] 0) [] 0 := by
  refine FnSpec.empty fun b n => ?_
  cases b with
  | none =>
    have h : FnSpec Try.prog 47 nx [.val (.slice none 0 n)] [] (.sl 0 [] 1) [] 0 := by
      refine FnSpec.of_code (cx := cx) (an := {}) (rs := [.tmp 2]) mo Try.func47 rfl rfl (by kernel_rfl) (by kernel_rfl) (by show 1 ≤ _; decide) (.inl rfl) (by simp [allWr, keys, Res.wr]) ?_
      repeat' (first | omega | assumption | (show AL.ahead _ _ _ = true; rfl) | refine brF (fun _ => ?_) (fun _ => ?_) | refine brT (fun _ => ?_) (fun _ => ?_) | refine brVF (fun _ => ?_) (fun _ => ?_) | refine brVT (fun _ => ?_) (fun _ => ?_) | (with_reducible refine And.intro ?_ ?_) | (simp -dsimp -implicitDefEqProofs only [go_sem, ↓reduceIte, Nat.reduceEqDiff, Nat.reduceAdd, Nat.reduceMul, Nat.reduceLeDiff, Nat.reduceLT, Nat.reduceBEq, Nat.reducePow, Int.reduceToNat, Int.reduceLE, Int.reduceLT, Int.reduceNeg, reduceCtorEq, Int.reduceEq, Int.reduceAdd, Int.reduceSub, Int.reduceMul, Nat.reduceSub, Option.isNone_none]))
    exact h.forget0 ⟨rfl, .inr ⟨.inr rfl, .inl rfl⟩⟩ (by simp [AV.nb, AV.nbs]) (by simp [keys])
  | some a =>
    have h : FnSpec Try.prog 47 nx [.val (.slice (some a) 0 n)] [] (.sl 35 [] (nx + 42)) [(nx + 40, some (.tail 0))] 60 := by
      refine FnSpec.of_code (cx := cx) (an := {}) (rs := [.tmp 2]) mo Try.func47 rfl rfl (by kernel_rfl) (by kernel_rfl) (by show 1 ≤ _; decide) (.inl rfl) (by simp [allWr, keys, Res.wr]) ?_
      repeat' (first | omega | assumption | (show AL.ahead _ _ _ = true; rfl) | refine brF (fun _ => ?_) (fun _ => ?_) | refine brT (fun _ => ?_) (fun _ => ?_) | refine brVF (fun _ => ?_) (fun _ => ?_) | refine brVT (fun _ => ?_) (fun _ => ?_) | (with_reducible refine And.intro ?_ ?_) | (simp -dsimp -implicitDefEqProofs only [go_sem, ↓reduceIte, Nat.reduceEqDiff, Nat.reduceAdd, Nat.reduceMul, Nat.reduceLeDiff, Nat.reduceLT, Nat.reduceBEq, Nat.reducePow, Int.reduceToNat, Int.reduceLE, Int.reduceLT, Int.reduceNeg, reduceCtorEq, Int.reduceEq, Int.reduceAdd, Int.reduceSub, Int.reduceMul, Nat.reduceSub, Option.isNone_some]))
    exact h.forget0 ⟨rfl, .inr ⟨.inl rfl, .inl rfl⟩⟩ (by simp [AV.nb, AV.nbs]) (by simp [keys])
theorem jobs_obj (nx m key t : Nat) (n : Int) (s : AV) (ht : t < 2 ∨ t - 2 < nx) : FnSpec Try.prog 24 nx [.ref m 0 []] [(m, some (.robj (towerA n key (.sl 35 [] t) s)))] (.sl 35 [] 0) [] 0 := by
  refine FnSpec.of_code (cx := cx) (an := {}) (rs := [.tmp 2]) mo Try.func24 rfl rfl (by kernel_rfl) (by kernel_rfl) (by show 1 ≤ _; decide) (.inl rfl) (by simp [allWr, keys, Res.wr]) ?_
  repeat' (first | omega | assumption | (show AL.ahead _ _ _ = true; rfl) | refine brF (fun _ => ?_) (fun _ => ?_) | refine brT (fun _ => ?_) (fun _ => ?_) | refine brVF (fun _ => ?_) (fun _ => ?_) | refine brVT (fun _ => ?_) (fun _ => ?_) | (with_reducible refine And.intro ?_ ?_) | (refine callK_by (none_obj _ m key n (.sl 35 [] t) s) ?_) | (refine callK_by (jobsClone0 _ 35 t) ?_) | (simp -dsimp -implicitDefEqProofs only [go_sem, ↓reduceIte, Nat.reduceEqDiff, Nat.reduceAdd, Nat.reduceMul, Nat.reduceLeDiff, Nat.reduceLT, Nat.reduceBEq, Nat.reducePow, Int.reduceToNat, Int.reduceLE, Int.reduceLT, Int.reduceNeg, reduceCtorEq, Int.reduceEq, Int.reduceAdd, Int.reduceSub, Int.reduceMul, Nat.reduceSub]))
theorem left_one (nx m key t : Nat) (hne : m ≠ key) (n : Int) (j s : AV) (sd : Sum) :
    FnSpec Try.prog 23 nx [.ref m 0 []] [(m, some (.robj (towerA n key j s))), (key, some (.robj (keyA sd (leavesL sd 1) t 0)))] (n64 1) [] 0 := by
  have h := left_obj nx m key t hne n j s sd (leavesL sd 1) 0 (by rw [leavesL_len]; decide) (by decide) (by rw [leavesL_len]; decide)
  rw [leavesL_len] at h
  exact h
theorem tawake_spec (nx : Nat) : FnSpec Try.prog 6 nx [] [] (bA true) [] 0 := by
  refine FnSpec.of_code (cx := cx) (an := {}) (rs := [.tmp 0]) mo Try.func6 rfl rfl (by kernel_rfl) (by kernel_rfl) (by show 0 ≤ _; decide) (.inl rfl) (by simp [allWr, keys, Res.wr]) ?_
  repeat' (first | omega | assumption | (show AL.ahead _ _ _ = true; rfl) | refine brF (fun _ => ?_) (fun _ => ?_) | refine brT (fun _ => ?_) (fun _ => ?_) | refine brVF (fun _ => ?_) (fun _ => ?_) | refine brVT (fun _ => ?_) (fun _ => ?_) | (with_reducible refine And.intro ?_ ?_) | (refine callK_by (towerNew_bad _ 16 zeroS 1 (by omega)) ?_) | (refine callK_by (towerNew_spec _ 3 zeroS 1 (by omega) (by omega) (by omega) (by omega)) ?_) | (refine callK_by (left_one _ (nx + 396) (nx + 344) (nx + 339) (by omega) 3 (.sl 35 [] (nx + 391)) (.sl 68 [] (nx + 392)) zeroS) ?_) | (refine callK_by (jobs_obj _ (nx + 396) (nx + 344) (nx + 391) 3 (.sl 68 [] (nx + 392)) (by omega)) ?_) | (simp -dsimp -implicitDefEqProofs only [go_sem, ↓reduceIte, Nat.reduceEqDiff, Nat.reduceAdd, Nat.reduceMul, Nat.reduceLeDiff, Nat.reduceLT, Nat.reduceBEq, Nat.reducePow, Int.reduceToNat, Int.reduceLE, Int.reduceLT, Int.reduceNeg, reduceCtorEq, Int.reduceEq, Int.reduceAdd, Int.reduceSub, Int.reduceMul, Nat.reduceSub]))
  all_goals trace_state
def isSumT (P : Program) (T : TypeId) : Bool :=
  match tarr P T with
  | some (len, e) => decide (len = 32) && decide (tsz P e = some 1) && decide (tagg P e = some false) && (match tint P e with | some .u8 => true | _ => false)
  | none => false
theorem cmp_sum {P : Program} {T : TypeId} {s : Sum} (h : isSumT P T = true) : cmpOK P 8 T (.vec 1 (u8s s.b)) = True := by
  unfold isSumT at h
  split at h
  · rename_i len e he
    simp only [Bool.and_eq_true, decide_eq_true_eq] at h
    obtain ⟨⟨⟨h1, h2⟩, h3⟩, h4⟩ := h
    have h5 : tint P e = some .u8 := by
      split at h4
      · assumption
      · cases h4
    simp only [eq_iff_iff, iff_true]
    rw [cmpOK]
    simp only [he, h2, h3]
    refine ⟨by rw [u8s_length, s.h, h1], trivial, fun p hp => ?_⟩
    obtain ⟨b, _, rfl⟩ := List.mem_map.1 hp
    exact ⟨rfl, rfl, by simp only [u8, cmpOK]; exact h5⟩
  · cases h
theorem wrap0 : IntKind.i64.wrap 0 = 0 := by decide
theorem eqB_self (a : AV) : eqB a a = true := eqB_yes rfl
end Go.Proofs.Ytjcnhgmaabkelaa

/-
  What sweeps, and what settles.
-/
set_option linter.unusedSimpArgs false
set_option linter.unusedVariables false
set_option maxRecDepth 100000
set_option maxHeartbeats 1000000
namespace Go.Proofs.Ytjcnhgmaabkelaa
open Go Go.AL Go.Proofs.Ytjcnhgmaabkelaa.T
attribute [local go_sem] nb_u8s u8s_length nb_sum sumA List.length_replicate zero_sum sum_h nb_vals vals_len u8s_nil
def op0 : Op_ := ⟨0, 0, 0, 0, zeroS, []⟩
def toO (k a : Int) : Out_ := ⟨a, [⟨[k], zeroS, 0, 0⟩]⟩
def sweepT (k : Int) (id : Sum) (a : Int) : Tx_ := ⟨[⟨⟨id, 0⟩, 0, []⟩], [toO k a], op0, []⟩
def settleT (ch k : Int) (tower a : Int) : Tx_ := ⟨[], [toO k a], ⟨7, tower, ch, 0, zeroS, []⟩, []⟩
noncomputable def signedT (t : Tx_) (k : Int) : Tx_ := { t with signs := [⟨k, txS t⟩] }
theorem opL_le (o : Op_) : (opL o).length ≤ 82 + o.data.length := by
  have h1 := flat_numI [o.kind, o.tower, o.channel, o.amount]
  have h2 := numI_len o.data.length
  simp only [List.length_cons, List.length_nil] at h1
  simp only [opL, List.length_append, sum_h]; omega
theorem outL_to (k a : Int) : (outL (toO k a)).length ≤ 92 := by
  have h1 := flat_numI [a, ((1 : Nat) : Int)]
  have h2 := numI_len ((1 : Nat) : Int)
  have h3 := flat_numI [k]
  have h4 := flat_numI [(0 : Int), 0]
  simp only [List.length_cons, List.length_nil] at h1 h3 h4
  simp only [outL, toO, wayL, List.flatMap_cons, List.flatMap_nil, List.append_nil, List.length_append, sum_h, List.length_cons, List.length_nil, Nat.zero_add] at *
  omega
theorem inL_le (x : In_) : (inL true x).length ≤ 62 + x.pre.length := by
  have h1 := flat_numI [x.ref.at_, x.way]
  have h2 := numI_len x.pre.length
  simp only [List.length_cons, List.length_nil] at h1
  simp only [inL, List.length_append, sum_h, if_true]; omega
theorem sweepT_len (k : Int) (id : Sum) (a : Int) : (bodyL true (sweepT k id a)).length < 2 ^ 38 := by
  have h1 := numI_len ((1 : Nat) : Int)
  have h2 := inL_le ⟨⟨id, 0⟩, 0, []⟩
  have h3 := outL_to k a
  have h4 := opL_le op0
  simp only [op0, List.length_nil] at h4 h2
  simp only [bodyL, sweepT, op0, List.flatMap_cons, List.flatMap_nil, List.append_nil, List.length_append, List.length_cons, List.length_nil, Nat.zero_add]
  omega
theorem settleT_len (ch k t a : Int) : (bodyL true (settleT ch k t a)).length < 2 ^ 38 := by
  have h1 := numI_len ((1 : Nat) : Int)
  have h2 := numI_len ((0 : Nat) : Int)
  have h3 := outL_to k a
  have h4 := opL_le ⟨7, t, ch, 0, zeroS, []⟩
  simp only [List.length_nil] at h4
  simp only [bodyL, settleT, List.flatMap_cons, List.flatMap_nil, List.append_nil, List.length_append, List.length_cons, List.length_nil, Nat.zero_add]
  omega
theorem toO_keys (k a : Int) (L : List Out_) (h : L = [toO k a]) : ∀ o ∈ L, ∀ w ∈ o.ways, w.keys.length < 2 ^ 32 := by
  subst h
  intro o ho w hw
  simp at ho; subst ho
  simp [toO] at hw; subst hw
  simp
theorem sweepSign (nx : Nat) (k : Int) (id : Sum) (a : Int) :
    FnSpec Try.prog 33 nx [.agg 40 [.sl 35 [.agg 35 [.agg 33 [sumA id, n64 0], n64 0, .sl 1 [] 1]] 1, .sl 2 [outA (toO k a)] 1, .agg 37 [n64 0, n64 0, n64 0, n64 0, sumA zeroS, .sl 1 [] 1], .sl 33 [] 1], .sl 1 [n64 k] 1] [] (txA (signedT (sweepT k id a) k)) [] 0 := by
  refine (signed_spec nx 1 (sweepT k id a) k rfl (sweepT_len k id a) (toO_keys k a _ rfl) (.inl (by decide))).le ?_
  refine ⟨_, _, rfl, ⟨_, rfl, _, _, rfl, ⟨_, _, rfl, ?_, .inr (.inl rfl)⟩, _, _, rfl, ⟨_, _, rfl, AV.les_refl _, .inr (.inl rfl)⟩, _, _, rfl, ⟨_, rfl, ?_⟩, AV.les_refl _⟩, AV.les_refl _⟩
  · exact ⟨_, _, rfl, ⟨_, rfl, _, _, rfl, AV.le_refl _, _, _, rfl, AV.le_refl _, _, _, rfl, ⟨_, _, rfl, AV.les_refl _, .inr (.inl rfl)⟩, rfl⟩, rfl⟩
  · exact ⟨_, _, rfl, AV.le_refl _, _, _, rfl, AV.le_refl _, _, _, rfl, AV.le_refl _, _, _, rfl, AV.le_refl _, _, _, rfl, AV.le_refl _, _, _, rfl, ⟨_, _, rfl, AV.les_refl _, .inr (.inl rfl)⟩, rfl⟩
theorem settleSign (nx : Nat) (ch k t a : Int) :
    FnSpec Try.prog 33 nx [.agg 40 [.sl 35 [] 1, .sl 2 [outA (toO k a)] 1, .agg 37 [n64 7, n64 t, n64 ch, n64 0, sumA zeroS, .sl 1 [] 1], .sl 33 [] 1], .sl 1 [n64 k] 1] [] (txA (signedT (settleT ch k t a) k)) [] 0 := by
  refine (signed_spec nx 1 (settleT ch k t a) k rfl (settleT_len ch k t a) (toO_keys k a _ rfl) (.inl (by decide))).le ?_
  refine ⟨_, _, rfl, ⟨_, rfl, _, _, rfl, ⟨_, _, rfl, AV.les_refl _, .inr (.inl rfl)⟩, _, _, rfl, ⟨_, _, rfl, AV.les_refl _, .inr (.inl rfl)⟩, _, _, rfl, ⟨_, rfl, ?_⟩, AV.les_refl _⟩, AV.les_refl _⟩
  · exact ⟨_, _, rfl, AV.le_refl _, _, _, rfl, AV.le_refl _, _, _, rfl, AV.le_refl _, _, _, rfl, AV.le_refl _, _, _, rfl, AV.le_refl _, _, _, rfl, ⟨_, _, rfl, AV.les_refl _, .inr (.inl rfl)⟩, rfl⟩
theorem txA_sc (t : Tx_) : (txA t).cref = .cref (txA t) := rfl
end Go.Proofs.Ytjcnhgmaabkelaa

/-
  A tower's root; the keys that signed.
-/
set_option linter.unusedSimpArgs false
set_option linter.unusedVariables false
set_option maxRecDepth 100000
set_option maxHeartbeats 1000000
namespace Go.Proofs.Ytjcnhgmaabkelaa
open Go Go.AL Go.Proofs.Ytjcnhgmaabkelaa.T
attribute [local go_sem] nb_u8s u8s_length nb_sum sumA List.length_replicate u8_wrap take32 List.drop_zero zero_sum sum_h u8s_cons u8s_one u8_gc u8_gd1 u8_cs1 List.length_append u8s_app u8s_nil sums_len nb_sums towerA keyA nb_vals vals_len
theorem sums_set (l : List Sum) (i : Nat) (s : Sum) : (sumsA l).set i (AV.vec 1 (u8s s.b)) = sumsA (l.set i s) := by simp [sumsA, sumA, List.map_set]
theorem sums_csz {l : List Sum} {i : Nat} (h : i < l.length) : ((sumsA l).getD i .undef).csize = 32 := by rw [sums_get h, sum_csz]
noncomputable def rowL (l : List Sum) (i : Nat) : List Sum := (l.take i).map leafS ++ List.replicate (l.length - i) zeroS
theorem rowL_len {l : List Sum} {i : Nat} (h : i ≤ l.length) : (rowL l i).length = l.length := by simp [rowL]; omega
theorem rowL_set {l : List Sum} {i : Nat} (h : i < l.length) : (rowL l i).set i (leafS l[i]) = rowL l (i + 1) := by
  have hl : ((l.take i).map leafS).length = i := by simp; omega
  unfold rowL
  rw [List.set_append_right _ _ (by omega), hl, Nat.sub_self, show l.length - i = (l.length - (i + 1)) + 1 by omega, List.replicate_succ, List.set_cons_zero, ← List.take_append_getElem h, List.map_append]
  simp
theorem rowL_all (l : List Sum) : rowL l l.length = l.map leafS := by simp [rowL]
theorem rowL_zero (l : List Sum) : rowL l 0 = List.replicate l.length zeroS := by simp [rowL]
theorem sums_rep (n : Nat) : List.replicate n (AV.vec 1 (u8s zeroS.b)) = sumsA (List.replicate n zeroS) := by simp [sumsA, sumA]
theorem leaves_spec (nx t : Nat) (l : List Sum) (hl : l.length < 2 ^ 40) (ht : t < 2 ∨ t - 2 < nx) : FnSpec Try.prog 74 nx [.sl 32 (sumsA l) t] [] (.aref (nx + 24) 0 [] 32 0 l.length) [(nx + 24, some (.obj (.vec 32 (sumsA (l.map leafS)))))] 300 := by
  have hz := rowL_zero l
  refine FnSpec.of_code (cx := cx) (an := {mt := [8]}) (rs := [.tmp 2]) mo Try.func74 rfl rfl (by kernel_rfl) (by kernel_rfl) (by show 1 ≤ _; decide) (.inl rfl) (by simp [allWr, keys, Res.wr]) ?_
  repeat' (first | omega | assumption | (show AL.ahead _ _ _ = true; rfl) | refine brF (fun _ => ?_) (fun _ => ?_) | refine brT (fun _ => ?_) (fun _ => ?_) | refine brVF (fun _ => ?_) (fun _ => ?_) | refine brVT (fun _ => ?_) (fun _ => ?_) | (with_reducible refine And.intro ?_ ?_) | (simp -dsimp -implicitDefEqProofs only [go_sem, ↓reduceIte, Nat.reduceEqDiff, Nat.reduceAdd, Nat.reduceMul, Nat.reduceLeDiff, Nat.reduceLT, Nat.reduceBEq, Nat.reducePow, Int.reduceToNat, Int.reduceLE, Int.reduceLT, Int.reduceNeg, reduceCtorEq, Int.reduceEq, Int.reduceAdd, Int.reduceSub, Int.reduceMul, Nat.reduceSub, sums_rep]))
  rw [← hz]
  apply loop_keep [3, 9, 10] (fun i : { i : Nat // i ≤ l.length } => [(11, n64 i.1)]) (fun i => [(nx + 24, some (.obj (.vec 32 (sumsA (rowL l i.1)))))]) (fun i => l.length - i.1) ⟨0, Nat.zero_le _⟩
  · simp -dsimp -implicitDefEqProofs only [go_sem, ↓reduceIte, Nat.reduceEqDiff, Nat.reduceAdd, Nat.reduceMul, Nat.reduceLeDiff, Nat.reduceLT, Nat.reduceBEq, Nat.reducePow, Int.reduceToNat, Int.reduceLE, Int.reduceLT, Int.reduceNeg, reduceCtorEq, Int.reduceEq, Int.reduceAdd, Int.reduceSub, Int.reduceMul, Nat.reduceSub]; try rfl
  · simp -dsimp -implicitDefEqProofs only [go_sem, ↓reduceIte, Nat.reduceEqDiff, Nat.reduceAdd, Nat.reduceMul, Nat.reduceLeDiff, Nat.reduceLT, Nat.reduceBEq, Nat.reducePow, Int.reduceToNat, Int.reduceLE, Int.reduceLT, Int.reduceNeg, reduceCtorEq, Int.reduceEq, Int.reduceAdd, Int.reduceSub, Int.reduceMul, Nat.reduceSub]; try rfl
  · simp -dsimp -implicitDefEqProofs only [go_sem, ↓reduceIte, Nat.reduceEqDiff, Nat.reduceAdd, Nat.reduceMul, Nat.reduceLeDiff, Nat.reduceLT, Nat.reduceBEq, Nat.reducePow, Int.reduceToNat, Int.reduceLE, Int.reduceLT, Int.reduceNeg, reduceCtorEq, Int.reduceEq, Int.reduceAdd, Int.reduceSub, Int.reduceMul, Nat.reduceSub]; try rfl
  · intro s
    simp -dsimp -implicitDefEqProofs only [go_sem, ↓reduceIte, Nat.reduceEqDiff, Nat.reduceAdd, Nat.reduceMul, Nat.reduceLeDiff, Nat.reduceLT, Nat.reduceBEq, Nat.reducePow, Int.reduceToNat, Int.reduceLE, Int.reduceLT, Int.reduceNeg, reduceCtorEq, Int.reduceEq, Int.reduceAdd, Int.reduceSub, Int.reduceMul, Nat.reduceSub]
    try omega
  · rintro ⟨i, hi⟩
    have hi : i ≤ l.length := hi
    have hle := rowL_len hi
    simp -dsimp -implicitDefEqProofs only [go_sem, ↓reduceIte, Nat.reduceEqDiff, Nat.reduceAdd, Nat.reduceMul, Nat.reduceLeDiff, Nat.reduceLT, Nat.reduceBEq, Nat.reducePow, Int.reduceToNat, Int.reduceLE, Int.reduceLT, Int.reduceNeg, reduceCtorEq, Int.reduceEq, Int.reduceAdd, Int.reduceSub, Int.reduceMul, Nat.reduceSub]
    refine brT (fun h => ?_) (fun h => ?_)
    · have hi2 : i < l.length := by omega
      have q1 := sums_get hi2
      have q2 := sums_csz (l := rowL l i) (i := i) (by omega)
      have q3 := rowL_set hi2
      have w1 : IntKind.i64.wrap ((i : Int) + 1) = ((i + 1 : Nat) : Int) := wrapE (by omega) (by omega)
      repeat' (first | omega | assumption | (show AL.ahead _ _ _ = true; rfl) | refine brF (fun _ => ?_) (fun _ => ?_) | refine brT (fun _ => ?_) (fun _ => ?_) | refine brVF (fun _ => ?_) (fun _ => ?_) | refine brVT (fun _ => ?_) (fun _ => ?_) | (with_reducible refine And.intro ?_ ?_) | (refine callK_by (leaf_spec _ l[i]) ?_) | (simp -dsimp -implicitDefEqProofs only [go_sem, ↓reduceIte, Nat.reduceEqDiff, Nat.reduceAdd, Nat.reduceMul, Nat.reduceLeDiff, Nat.reduceLT, Nat.reduceBEq, Nat.reducePow, Int.reduceToNat, Int.reduceLE, Int.reduceLT, Int.reduceNeg, reduceCtorEq, Int.reduceEq, Int.reduceAdd, Int.reduceSub, Int.reduceMul, Nat.reduceSub, q1, q2, hle, w1, sums_set, q3]))
      exact ⟨⟨i + 1, hi2⟩, by show l.length - (i + 1) < l.length - i; omega, rfl, rfl⟩
    · have e : i = l.length := by omega
      subst e
      repeat' (first | omega | assumption | (show AL.ahead _ _ _ = true; rfl) | refine brF (fun _ => ?_) (fun _ => ?_) | refine brT (fun _ => ?_) (fun _ => ?_) | refine brVF (fun _ => ?_) (fun _ => ?_) | refine brVT (fun _ => ?_) (fun _ => ?_) | (with_reducible refine And.intro ?_ ?_) | (simp -dsimp -implicitDefEqProofs only [go_sem, ↓reduceIte, Nat.reduceEqDiff, Nat.reduceAdd, Nat.reduceMul, Nat.reduceLeDiff, Nat.reduceLT, Nat.reduceBEq, Nat.reducePow, Int.reduceToNat, Int.reduceLE, Int.reduceLT, Int.reduceNeg, reduceCtorEq, Int.reduceEq, Int.reduceAdd, Int.reduceSub, Int.reduceMul, Nat.reduceSub, rowL_all]))
      all_goals trace_state
theorem root1_spec (nx t : Nat) (s : Sum) (ht : t < 2 ∨ t - 2 < nx) : FnSpec Try.prog 48 nx [.sl 32 [sumA s] t] [] (sumA (leafS s)) [] 0 := by
  have hlv := fun nc (h : nx ≤ nc) => leaves_spec nc t [s] (by simp) (by omega)
  simp only [List.map_cons, List.map_nil, sumsA] at hlv
  refine FnSpec.of_code (cx := cx) (an := {}) (rs := [.cell 2 23]) mo Try.func48 rfl rfl (by kernel_rfl) (by kernel_rfl) (by show 1 ≤ _; decide) (.inl rfl) (by simp [allWr, keys, Res.wr]) ?_
  repeat' (first | omega | assumption | (show AL.ahead _ _ _ = true; rfl) | refine brF (fun _ => ?_) (fun _ => ?_) | refine brT (fun _ => ?_) (fun _ => ?_) | refine brVF (fun _ => ?_) (fun _ => ?_) | refine brVT (fun _ => ?_) (fun _ => ?_) | (with_reducible refine And.intro ?_ ?_) | (refine callK_by (hlv _ (by omega)) ?_) | (simp -dsimp -implicitDefEqProofs only [go_sem, ↓reduceIte, Nat.reduceEqDiff, Nat.reduceAdd, Nat.reduceMul, Nat.reduceLeDiff, Nat.reduceLT, Nat.reduceBEq, Nat.reducePow, Int.reduceToNat, Int.reduceLE, Int.reduceLT, Int.reduceNeg, reduceCtorEq, Int.reduceEq, Int.reduceAdd, Int.reduceSub, Int.reduceMul, Nat.reduceSub, List.map_cons, List.map_nil]))
  apply loop_keep [2] (fun _ : Unit => [(3, .aref (nx + 80) 0 [] 32 0 1)]) (fun _ => [(nx + 80, some (.obj (.vec 32 [sumA (leafS s)]))), (nx, some (.obj (sumA zeroS)))]) (fun _ => 0) ()
  · simp -dsimp -implicitDefEqProofs only [go_sem, ↓reduceIte, Nat.reduceEqDiff, Nat.reduceAdd, Nat.reduceMul, Nat.reduceLeDiff, Nat.reduceLT, Nat.reduceBEq, Nat.reducePow, Int.reduceToNat, Int.reduceLE, Int.reduceLT, Int.reduceNeg, reduceCtorEq, Int.reduceEq, Int.reduceAdd, Int.reduceSub, Int.reduceMul, Nat.reduceSub]; try rfl
  · simp -dsimp -implicitDefEqProofs only [go_sem, ↓reduceIte, Nat.reduceEqDiff, Nat.reduceAdd, Nat.reduceMul, Nat.reduceLeDiff, Nat.reduceLT, Nat.reduceBEq, Nat.reducePow, Int.reduceToNat, Int.reduceLE, Int.reduceLT, Int.reduceNeg, reduceCtorEq, Int.reduceEq, Int.reduceAdd, Int.reduceSub, Int.reduceMul, Nat.reduceSub]; try rfl
  · simp -dsimp -implicitDefEqProofs only [go_sem, ↓reduceIte, Nat.reduceEqDiff, Nat.reduceAdd, Nat.reduceMul, Nat.reduceLeDiff, Nat.reduceLT, Nat.reduceBEq, Nat.reducePow, Int.reduceToNat, Int.reduceLE, Int.reduceLT, Int.reduceNeg, reduceCtorEq, Int.reduceEq, Int.reduceAdd, Int.reduceSub, Int.reduceMul, Nat.reduceSub]; try rfl
  · intro s
    simp -dsimp -implicitDefEqProofs only [go_sem, ↓reduceIte, Nat.reduceEqDiff, Nat.reduceAdd, Nat.reduceMul, Nat.reduceLeDiff, Nat.reduceLT, Nat.reduceBEq, Nat.reducePow, Int.reduceToNat, Int.reduceLE, Int.reduceLT, Int.reduceNeg, reduceCtorEq, Int.reduceEq, Int.reduceAdd, Int.reduceSub, Int.reduceMul, Nat.reduceSub]
    try omega
  · rintro ⟨⟩
    repeat' (first | omega | assumption | (show AL.ahead _ _ _ = true; rfl) | refine brF (fun _ => ?_) (fun _ => ?_) | refine brT (fun _ => ?_) (fun _ => ?_) | refine brVF (fun _ => ?_) (fun _ => ?_) | refine brVT (fun _ => ?_) (fun _ => ?_) | (with_reducible refine And.intro ?_ ?_) | (simp -dsimp -implicitDefEqProofs only [go_sem, ↓reduceIte, Nat.reduceEqDiff, Nat.reduceAdd, Nat.reduceMul, Nat.reduceLeDiff, Nat.reduceLT, Nat.reduceBEq, Nat.reducePow, Int.reduceToNat, Int.reduceLE, Int.reduceLT, Int.reduceNeg, reduceCtorEq, Int.reduceEq, Int.reduceAdd, Int.reduceSub, Int.reduceMul, Nat.reduceSub]))
    all_goals trace_state
theorem keyRoot_spec (nx m t : Nat) (s l : Sum) (next : Int) (hm : m < nx) (ht : t < 2 ∨ t - 2 < nx) : FnSpec Try.prog 26 nx [.ref m 0 []] [(m, some (.robj (keyA s [l] t next)))] (sumA (leafS l)) [] 0 := by
  have x1 := fun k => lt_nx hm k
  have x2 := fun k => nx_gt hm k
  have hr := fun nc (h : nx ≤ nc) => root1_spec nc t l (by omega)
  refine FnSpec.of_code (cx := cx) (an := {}) (rs := [.cell 2 23]) mo Try.func26 rfl rfl (by kernel_rfl) (by kernel_rfl) (by show 1 ≤ _; decide) (.inl rfl) (by simp [allWr, keys, Res.wr]) ?_
  repeat' (first | omega | assumption | (show AL.ahead _ _ _ = true; rfl) | refine brF (fun _ => ?_) (fun _ => ?_) | refine brT (fun _ => ?_) (fun _ => ?_) | refine brVF (fun _ => ?_) (fun _ => ?_) | refine brVT (fun _ => ?_) (fun _ => ?_) | (with_reducible refine And.intro ?_ ?_) | (refine callK_by (hr _ (by omega)) ?_) | (simp -dsimp -implicitDefEqProofs only [go_sem, ↓reduceIte, Nat.reduceEqDiff, Nat.reduceAdd, Nat.reduceMul, Nat.reduceLeDiff, Nat.reduceLT, Nat.reduceBEq, Nat.reducePow, Int.reduceToNat, Int.reduceLE, Int.reduceLT, Int.reduceNeg, reduceCtorEq, Int.reduceEq, Int.reduceAdd, Int.reduceSub, Int.reduceMul, Nat.reduceSub, x1, x2, lt_nx0 hm, nx_gt0 hm, sumsA, List.map_cons, List.map_nil]))
  all_goals trace_state
theorem trow_spec (nx m key t : Nat) (n : Int) (j g : AV) (s l : Sum) (next : Int) (hm : m < nx) (hk : key < nx) (hne : m ≠ key) (ht : t < 2 ∨ t - 2 < nx) :
    FnSpec Try.prog 7 nx [.ref m 0 []] [(m, some (.robj (towerA n key j g))), (key, some (.robj (keyA s [l] t next)))] (sumA (leafS l)) [] 0 := by
  have z1 : (m = key) = False := by simp [hne]
  have z2 : (key = m) = False := by simp [Ne.symm hne]
  have x1 := fun k => lt_nx hm k
  have x2 := fun k => nx_gt hm k
  have y1 := fun k => lt_nx hk k
  have y2 := fun k => nx_gt hk k
  have hr := fun nc (h : nx ≤ nc) => keyRoot_spec nc key t s l next (by omega) (by omega)
  refine FnSpec.of_code (cx := cx) (an := {}) (rs := [.cell 2 23]) mo Try.func7 rfl rfl (by kernel_rfl) (by kernel_rfl) (by show 1 ≤ _; decide) (.inl rfl) (by simp [allWr, keys, Res.wr]) ?_
  repeat' (first | omega | assumption | (show AL.ahead _ _ _ = true; rfl) | refine brF (fun _ => ?_) (fun _ => ?_) | refine brT (fun _ => ?_) (fun _ => ?_) | refine brVF (fun _ => ?_) (fun _ => ?_) | refine brVT (fun _ => ?_) (fun _ => ?_) | (with_reducible refine And.intro ?_ ?_) | (refine callK_by (none_obj _ m key n j g) ?_) | (refine callK_by (hr _ (by omega)) ?_) | (simp -dsimp -implicitDefEqProofs only [go_sem, ↓reduceIte, Nat.reduceEqDiff, Nat.reduceAdd, Nat.reduceMul, Nat.reduceLeDiff, Nat.reduceLT, Nat.reduceBEq, Nat.reducePow, Int.reduceToNat, Int.reduceLE, Int.reduceLT, Int.reduceNeg, reduceCtorEq, Int.reduceEq, Int.reduceAdd, Int.reduceSub, Int.reduceMul, Nat.reduceSub, x1, x2, y1, y2, z1, z2, lt_nx0 hm, nx_gt0 hm, lt_nx0 hk, nx_gt0 hk]))
  all_goals trace_state
end Go.Proofs.Ytjcnhgmaabkelaa

/-
  The transactions by which a tower locks, holds, asks and takes; the keys that signed.
-/
set_option linter.unusedSimpArgs false
set_option linter.unusedVariables false
set_option maxRecDepth 100000
set_option maxHeartbeats 1000000
namespace Go.Proofs.Ytjcnhgmaabkelaa
open Go Go.AL Go.Proofs.Ytjcnhgmaabkelaa.T
attribute [local go_sem] nb_u8s u8s_length nb_sum sumA List.length_replicate zero_sum sum_h nb_vals vals_len u8s_nil sums_len nb_sums towerA keyA nb_outs outs_len
theorem jkey_spec (nx : Nat) (n : Int) (h0 : 0 ≤ n) (h1 : n < 16) : FnSpec Try.prog 32 nx [n64 n] [] (n64 (100 + n)) [] 0 := by
  have w : IntKind.i64.wrap (100 + n) = 100 + n := by rw [IntKind.wrap_i64]; omega
  refine FnSpec.of_code (cx := cx) (an := {}) (rs := [.tmp 2]) mo Try.func32 rfl rfl (by kernel_rfl) (by kernel_rfl) (by show 1 ≤ _; decide) (.inl rfl) (by simp [allWr, keys, Res.wr]) ?_
  repeat' (first | omega | assumption | (show AL.ahead _ _ _ = true; rfl) | refine brF (fun _ => ?_) (fun _ => ?_) | refine brT (fun _ => ?_) (fun _ => ?_) | refine brVF (fun _ => ?_) (fun _ => ?_) | refine brVT (fun _ => ?_) (fun _ => ?_) | (with_reducible refine And.intro ?_ ?_) | (simp -dsimp -implicitDefEqProofs only [go_sem, ↓reduceIte, Nat.reduceEqDiff, Nat.reduceAdd, Nat.reduceMul, Nat.reduceLeDiff, Nat.reduceLT, Nat.reduceBEq, Nat.reducePow, Int.reduceToNat, Int.reduceLE, Int.reduceLT, Int.reduceNeg, reduceCtorEq, Int.reduceEq, Int.reduceAdd, Int.reduceSub, Int.reduceMul, Nat.reduceSub, w]))
theorem opSign (nx sz to td : Nat) (t : Tx_) (k : Int) (hs : t.signs = []) (hi : t.ins = []) (hb : (bodyL true t).length < 2 ^ 38) (hk : ∀ o ∈ t.outs, ∀ w ∈ o.ways, w.keys.length < 2 ^ 32) (hto : to < 2 ∨ to - 2 < nx) (htd : td < 2 ∨ td - 2 < nx) :
    FnSpec Try.prog 33 nx [.agg 40 [.sl 35 [] 1, .sl 2 (outsA t.outs) to, .agg 37 [n64 t.op.kind, n64 t.op.tower, n64 t.op.channel, n64 t.op.amount, sumA t.op.root, .sl 1 (u8s t.op.data) td], .sl 33 [] 1], .sl 1 [n64 k] 1] [] (txA (signedT t k)) [] 0 := by
  refine (signed_spec nx 1 t k hs hb hk (.inl (by decide))).le ?_
  refine ⟨_, _, rfl, ⟨_, rfl, _, _, rfl, ⟨_, _, rfl, ?_, .inr (.inl rfl)⟩, _, _, rfl, ⟨_, _, rfl, AV.les_refl _, .inr (.inl rfl)⟩, _, _, rfl, ⟨_, rfl, ?_⟩, AV.les_refl _⟩, AV.les_refl _⟩
  · rw [hi]; exact AV.les_refl _
  · exact ⟨_, _, rfl, AV.le_refl _, _, _, rfl, AV.le_refl _, _, _, rfl, AV.le_refl _, _, _, rfl, AV.le_refl _, _, _, rfl, AV.le_refl _, _, _, rfl, ⟨_, _, rfl, AV.les_refl _, .inr (.inl rfl)⟩, rfl⟩
theorem top_spec (nx m key td to : Nat) (n z : Int) (j g : AV) (t : Tx_) (h0 : 0 ≤ n) (h1 : n < 16) (hn : t.op.tower = n) (hs : t.signs = []) (hi : t.ins = []) (hb : (bodyL true t).length < 2 ^ 38) (hk : ∀ o ∈ t.outs, ∀ w ∈ o.ways, w.keys.length < 2 ^ 32) (hm : m < nx) (hto : to < 2 ∨ to - 2 < nx) (htd : td < 2 ∨ td - 2 < nx) :
    FnSpec Try.prog 34 nx [.ref m 0 [], .agg 37 [n64 t.op.kind, n64 z, n64 t.op.channel, n64 t.op.amount, sumA t.op.root, .sl 1 (u8s t.op.data) td], .sl 2 (outsA t.outs) to] [(m, some (.robj (towerA n key j g)))] (txA (signedT t (100 + n))) [] 0 := by
  have x1 := fun k => lt_nx hm k
  have x2 := fun k => nx_gt hm k
  have hsg := fun nc (h : nx ≤ nc) => opSign nc 2 to td t (100 + n) hs hi hb hk (by omega) (by omega)
  rw [hn] at hsg
  refine FnSpec.of_code (cx := cx) (an := {mt := [4]}) (rs := [.cell 6 43]) mo Try.func34 rfl rfl (by kernel_rfl) (by kernel_rfl) (by show 3 ≤ _; decide) (.inl rfl) (by simp [allWr, keys, Res.wr]) ?_
  repeat' (first | omega | assumption | (show AL.ahead _ _ _ = true; rfl) | refine brF (fun _ => ?_) (fun _ => ?_) | refine brT (fun _ => ?_) (fun _ => ?_) | refine brVF (fun _ => ?_) (fun _ => ?_) | refine brVT (fun _ => ?_) (fun _ => ?_) | (with_reducible refine And.intro ?_ ?_) | (refine callK_by (none_obj _ m key n j g) ?_) | (refine callK_by (jkey_spec _ n h0 h1) ?_) | (refine callK_by (hsg _ (by omega)) ?_) | (simp -dsimp -implicitDefEqProofs only [go_sem, ↓reduceIte, Nat.reduceEqDiff, Nat.reduceAdd, Nat.reduceMul, Nat.reduceLeDiff, Nat.reduceLT, Nat.reduceBEq, Nat.reducePow, Int.reduceToNat, Int.reduceLE, Int.reduceLT, Int.reduceNeg, reduceCtorEq, Int.reduceEq, Int.reduceAdd, Int.reduceSub, Int.reduceMul, Nat.reduceSub, x1, x2, lt_nx0 hm, nx_gt0 hm, txA_good, txA_csz, txA_agg, nb_tx]))
  all_goals trace_state
end Go.Proofs.Ytjcnhgmaabkelaa

/-
  The transactions by which a tower locks, holds, asks and takes.
-/
set_option linter.unusedSimpArgs false
set_option linter.unusedVariables false
set_option maxRecDepth 100000
set_option maxHeartbeats 1000000
namespace Go.Proofs.Ytjcnhgmaabkelaa
open Go Go.AL Go.Proofs.Ytjcnhgmaabkelaa.T
attribute [local go_sem] nb_u8s u8s_length nb_sum sumA List.length_replicate zero_sum sum_h nb_vals vals_len u8s_nil sums_len nb_sums towerA keyA nb_outs outs_len
def holdT (n ch : Int) (d : List UInt8) : Tx_ := ⟨[], [], ⟨2, n, ch, 0, zeroS, d⟩, []⟩
def askT (n a h : Int) : Tx_ := ⟨[], [], ⟨4, n, h, a, zeroS, []⟩, []⟩
def takeT (n a h : Int) : Tx_ := ⟨[], [toO (100 + n) a], ⟨5, n, h, 0, zeroS, []⟩, []⟩
def bondT (n : Int) (r : Ref_) (os : List Out_) (a : Int) (root : Sum) : Tx_ := ⟨[⟨r, 0, []⟩], os, ⟨1, n, 0, a, root, []⟩, []⟩
theorem chanL_len (c : Chan) : (chanL c).length ≤ 102 := by
  have h1 := flat_numI [c.id, c.client, c.peer]
  have h2 := flat_numI [c.fund.at_, c.cap, c.wait, c.window]
  simp only [List.length_cons, List.length_nil] at h1 h2
  simp only [chanL, List.length_append, sum_h]; omega
theorem op_len (o : Op_) (hd : o.data.length ≤ 65536) (os : List Out_) (ho : os = [] ∨ ∃ k a, os = [toO k a]) (is : List In_) (hi : is = [] ∨ ∃ r, is = [⟨r, 0, []⟩]) (ss : List Sign_) : (bodyL true ⟨is, os, o, ss⟩).length < 2 ^ 37 := by
  have h4 := opL_le o
  have a0 := numI_len ((0 : Nat) : Int)
  have a1 := numI_len ((1 : Nat) : Int)
  have ho2 : (numI os.length).length ≤ 10 ∧ (os.flatMap outL).length ≤ 92 := by
    rcases ho with rfl | ⟨k, a, rfl⟩
    · simp only [List.flatMap_nil, List.length_nil]; omega
    · have := outL_to k a
      simp only [List.flatMap_cons, List.flatMap_nil, List.append_nil, List.length_cons, List.length_nil, Nat.zero_add]; omega
  have hi2 : (numI is.length).length ≤ 10 ∧ (is.flatMap (inL true)).length ≤ 62 := by
    rcases hi with rfl | ⟨r, rfl⟩
    · simp only [List.flatMap_nil, List.length_nil]; omega
    · have := inL_le ⟨r, 0, []⟩
      simp only [List.length_nil] at this
      simp only [List.flatMap_cons, List.flatMap_nil, List.append_nil, List.length_cons, List.length_nil, Nat.zero_add]; omega
  simp only [bodyL, List.length_append]
  omega
theorem os_keys {os : List Out_} (ho : os = [] ∨ ∃ k a, os = [toO k a]) : ∀ o ∈ os, ∀ w ∈ o.ways, w.keys.length < 2 ^ 32 := by
  rcases ho with rfl | ⟨k, a, rfl⟩
  · intro o ho; simp at ho
  · exact toO_keys k a _ rfl
theorem thold_spec (nx m key : Nat) (n : Int) (j g : AV) (c : Chan) (h0 : 0 ≤ n) (h1 : n < 16) (hm : m < nx) :
    FnSpec Try.prog 12 nx [.ref m 0 [], chanA c] [(m, some (.robj (towerA n key j g)))] (txA (signedT (holdT n c.id (chanL c)) (100 + n))) [] 0 := by
  have x1 := fun k => lt_nx hm k
  have x2 := fun k => nx_gt hm k
  have hc := chanL_len c
  have hop := fun nc (h : nx ≤ nc) => (top_spec nc m key 0 1 n 0 j g (holdT n c.id (chanL c)) h0 h1 rfl rfl rfl (Nat.lt_trans (op_len _ (by simp only [holdT]; omega) _ (.inl rfl) _ (.inl rfl) _) (by decide)) (os_keys (.inl rfl)) (by omega) (by omega) (by omega)).sub1 (args' := [.ref m 0 [], .agg 37 [n64 2, n64 0, n64 c.id, n64 0, sumA zeroS, .sl 1 (u8s (chanL c)) 0], .sl 0 [] 1]) ⟨rfl, rfl, ⟨rfl, .inr ⟨.inr rfl, .inr rfl⟩⟩, trivial⟩
  refine FnSpec.of_code (cx := cx) (an := {}) (rs := [.cell 4 43]) mo Try.func12 rfl rfl (by kernel_rfl) (by kernel_rfl) (by show 2 ≤ _; decide) (.inl rfl) (by simp [allWr, keys, Res.wr]) ?_
  repeat' (first | omega | assumption | (show AL.ahead _ _ _ = true; rfl) | refine brF (fun _ => ?_) (fun _ => ?_) | refine brT (fun _ => ?_) (fun _ => ?_) | refine brVF (fun _ => ?_) (fun _ => ?_) | refine brVT (fun _ => ?_) (fun _ => ?_) | (with_reducible refine And.intro ?_ ?_) | (refine callK_by (channel_spec _ c) ?_) | (refine callK_by (hop _ (by omega)) ?_) | (simp -dsimp -implicitDefEqProofs only [go_sem, ↓reduceIte, Nat.reduceEqDiff, Nat.reduceAdd, Nat.reduceMul, Nat.reduceLeDiff, Nat.reduceLT, Nat.reduceBEq, Nat.reducePow, Int.reduceToNat, Int.reduceLE, Int.reduceLT, Int.reduceNeg, reduceCtorEq, Int.reduceEq, Int.reduceAdd, Int.reduceSub, Int.reduceMul, Nat.reduceSub, chanA, refA, x1, x2, lt_nx0 hm, nx_gt0 hm, txA_good, txA_csz, txA_agg, nb_tx]))
  all_goals trace_state
theorem task_spec (nx m key : Nat) (n a h : Int) (j g : AV) (h0 : 0 ≤ n) (h1 : n < 16) (hm : m < nx) :
    FnSpec Try.prog 13 nx [.ref m 0 [], n64 a, n64 h] [(m, some (.robj (towerA n key j g)))] (txA (signedT (askT n a (min (max h 0) 1048576)) (100 + n))) [] 0 := by
  have x1 := fun k => lt_nx hm k
  have x2 := fun k => nx_gt hm k
  have hop := fun nc (hh : nx ≤ nc) => (top_spec nc m key 1 1 n 0 j g (askT n a (min (max h 0) 1048576)) h0 h1 rfl rfl rfl (Nat.lt_trans (op_len _ (by simp [askT]) _ (.inl rfl) _ (.inl rfl) _) (by decide)) (os_keys (.inl rfl)) (by omega) (by omega) (by omega)).sub1 (args' := [.ref m 0 [], .agg 37 [n64 4, n64 0, n64 (min (max h 0) 1048576), n64 a, sumA zeroS, .sl 1 [] 1], .sl 0 [] 1]) ⟨rfl, rfl, ⟨rfl, .inr ⟨.inr rfl, .inr rfl⟩⟩, trivial⟩
  refine FnSpec.of_code (cx := cx) (an := {}) (rs := [.cell 6 43]) mo Try.func13 rfl rfl (by kernel_rfl) (by kernel_rfl) (by show 3 ≤ _; decide) (.inl rfl) (by simp [allWr, keys, Res.wr]) ?_
  repeat' (first | omega | assumption | (show AL.ahead _ _ _ = true; rfl) | refine brF (fun _ => ?_) (fun _ => ?_) | refine brT (fun _ => ?_) (fun _ => ?_) | refine brVF (fun _ => ?_) (fun _ => ?_) | refine brVT (fun _ => ?_) (fun _ => ?_) | (with_reducible refine And.intro ?_ ?_) | (refine callK_by (hop _ (by omega)) ?_) | (simp -dsimp -implicitDefEqProofs only [go_sem, ↓reduceIte, Nat.reduceEqDiff, Nat.reduceAdd, Nat.reduceMul, Nat.reduceLeDiff, Nat.reduceLT, Nat.reduceBEq, Nat.reducePow, Int.reduceToNat, Int.reduceLE, Int.reduceLT, Int.reduceNeg, reduceCtorEq, Int.reduceEq, Int.reduceAdd, Int.reduceSub, Int.reduceMul, Nat.reduceSub, x1, x2, lt_nx0 hm, nx_gt0 hm, txA_good, txA_csz, txA_agg, nb_tx]))
  all_goals trace_state
theorem ttake_spec (nx m key : Nat) (n a h : Int) (j g : AV) (h0 : 0 ≤ n) (h1 : n < 16) (hm : m < nx) :
    FnSpec Try.prog 14 nx [.ref m 0 [], n64 a, n64 h] [(m, some (.robj (towerA n key j g)))] (txA (signedT (takeT n a (min (max h 0) 1048576)) (100 + n))) [] 0 := by
  have x1 := fun k => lt_nx hm k
  have x2 := fun k => nx_gt hm k
  have hop := fun nc (hh : nx ≤ nc) => (top_spec nc m key 1 1 n 0 j g (takeT n a (min (max h 0) 1048576)) h0 h1 rfl rfl rfl (Nat.lt_trans (op_len _ (by simp [takeT]) _ (.inr ⟨_, _, rfl⟩) _ (.inl rfl) _) (by decide)) (os_keys (.inr ⟨_, _, rfl⟩)) (by omega) (by omega) (by omega))
  refine FnSpec.of_code (cx := cx) (an := {}) (rs := [.cell 6 43]) mo Try.func14 rfl rfl (by kernel_rfl) (by kernel_rfl) (by show 3 ≤ _; decide) (.inl rfl) (by simp [allWr, keys, Res.wr]) ?_
  repeat' (first | omega | assumption | (show AL.ahead _ _ _ = true; rfl) | refine brF (fun _ => ?_) (fun _ => ?_) | refine brT (fun _ => ?_) (fun _ => ?_) | refine brVF (fun _ => ?_) (fun _ => ?_) | refine brVT (fun _ => ?_) (fun _ => ?_) | (with_reducible refine And.intro ?_ ?_) | (refine callK_by (none_obj _ m key n j g) ?_) | (refine callK_by (jkey_spec _ n h0 h1) ?_) | (refine callK_by (to_spec _ (100 + n) a) ?_) | (refine callK_by (hop _ (by omega)) ?_) | (simp -dsimp -implicitDefEqProofs only [go_sem, ↓reduceIte, Nat.reduceEqDiff, Nat.reduceAdd, Nat.reduceMul, Nat.reduceLeDiff, Nat.reduceLT, Nat.reduceBEq, Nat.reducePow, Int.reduceToNat, Int.reduceLE, Int.reduceLT, Int.reduceNeg, reduceCtorEq, Int.reduceEq, Int.reduceAdd, Int.reduceSub, Int.reduceMul, Nat.reduceSub, x1, x2, lt_nx0 hm, nx_gt0 hm, outA, nb_ways, txA_good, txA_csz, txA_agg, nb_tx]))
  all_goals trace_state
end Go.Proofs.Ytjcnhgmaabkelaa

/-
  Towers: made; what a nil tower does; the law TowerNobody.
-/
import Derived.Test.YtdkcobnhcpgpaaaGreatZP7
set_option linter.unusedSimpArgs false
set_option linter.unusedVariables false
set_option maxRecDepth 100000
set_option maxHeartbeats 1000000
namespace Go.Proofs.YtdkcobnhcpgpaaaGreat
open Go Go.AL Go.Proofs.YtdkcobnhcpgpaaaGreat.T

def towerA (n : Int) (key : Nat) (jobs sigs : AV) : AV := .agg 4 [n64 n, .ref key 0 [], jobs, sigs]
def receiptA (t c s : Int) (h b : Sum) : AV := .agg 67 [n64 t, n64 c, n64 s, sumA h, sumA b]
def signedA (r : AV) (sig : List UInt8) (t : Nat) : AV := .agg 68 [r, .sl 1 (u8s sig) t]
def opA (k t c a : Int) (r : Sum) (d : AV) : AV := .agg 37 [n64 k, n64 t, n64 c, n64 a, sumA r, d]
/-- the zero transaction -/
def txZ : AV := .agg 40 [.sl 35 [] 1, .sl 2 [] 1, opA 0 0 0 0 zeroS (.sl 1 [] 1), .sl 33 [] 1]

attribute [local go_sem] nb_u8s u8s_length nb_sum sumA List.length_replicate u8_wrap take32 List.drop_zero zero_sum sum_h u8s_cons u8s_one u8_gc u8_gd1 u8_cs1 List.length_append u8s_app u8s_nil sums_len nb_sums towerA receiptA signedA opA keyA
theorem none_nil (nx : Nat) : FnSpec Tryz.prog 65 nx [nilP] [] (bA true) [] 0 := by
  refine FnSpec.of_code (cx := cx) (an := {}) (rs := [.tmp 2]) mo Tryz.func65 rfl rfl (by kernel_rfl) (by kernel_rfl) (by show 1 ≤ _; decide) (.inl rfl) (by simp [allWr, keys, Res.wr]) ?_
  repeat' (first | omega | assumption | (show AL.ahead _ _ _ = true; rfl) | refine brF (fun _ => ?_) (fun _ => ?_) | refine brT (fun _ => ?_) (fun _ => ?_) | refine brVF (fun _ => ?_) (fun _ => ?_) | refine brVT (fun _ => ?_) (fun _ => ?_) | (with_reducible refine And.intro ?_ ?_) | (simp -dsimp -implicitDefEqProofs only [go_sem, ↓reduceIte, Nat.reduceEqDiff, Nat.reduceAdd, Nat.reduceMul, Nat.reduceLeDiff, Nat.reduceLT, Nat.reduceBEq, Nat.reducePow, Int.reduceToNat, Int.reduceLE, Int.reduceLT, Int.reduceNeg, reduceCtorEq, Int.reduceEq, Int.reduceAdd, Int.reduceSub, Int.reduceMul, Nat.reduceSub]))
theorem none_obj (nx m key : Nat) (n : Int) (j s : AV) : FnSpec Tryz.prog 65 nx [.ref m 0 []] [(m, some (.robj (towerA n key j s)))] (bA false) [] 0 := by
  refine FnSpec.of_code (cx := cx) (an := {}) (rs := [.tmp 2]) mo Tryz.func65 rfl rfl (by kernel_rfl) (by kernel_rfl) (by show 1 ≤ _; decide) (.inl rfl) (by simp [allWr, keys, Res.wr]) ?_
  repeat' (first | omega | assumption | (show AL.ahead _ _ _ = true; rfl) | refine brF (fun _ => ?_) (fun _ => ?_) | refine brT (fun _ => ?_) (fun _ => ?_) | refine brVF (fun _ => ?_) (fun _ => ?_) | refine brVT (fun _ => ?_) (fun _ => ?_) | (with_reducible refine And.intro ?_ ?_) | (simp -dsimp -implicitDefEqProofs only [go_sem, ↓reduceIte, Nat.reduceEqDiff, Nat.reduceAdd, Nat.reduceMul, Nat.reduceLeDiff, Nat.reduceLT, Nat.reduceBEq, Nat.reducePow, Int.reduceToNat, Int.reduceLE, Int.reduceLT, Int.reduceNeg, reduceCtorEq, Int.reduceEq, Int.reduceAdd, Int.reduceSub, Int.reduceMul, Nat.reduceSub]))
theorem towerNew_bad (nx : Nat) (n : Int) (s : Sum) (k : Int) (h : n < 0 ∨ 16 ≤ n) : FnSpec Tryz.prog 19 nx [n64 n, sumA s, n64 k] [] (.tup [nilP, n64 1]) [] 0 := by
  refine FnSpec.of_code (cx := cx) (an := {}) (rs := [.tmp 6, .tmp 7]) mo Tryz.func19 rfl rfl (by kernel_rfl) (by kernel_rfl) (by show 3 ≤ _; decide) (.inr ⟨_, rfl, by simp [AV.good]⟩) (by simp [allWr, keys, Res.wr]) ?_
  repeat' (first | omega | assumption | (show AL.ahead _ _ _ = true; rfl) | refine brF (fun _ => ?_) (fun _ => ?_) | refine brT (fun _ => ?_) (fun _ => ?_) | refine brVF (fun _ => ?_) (fun _ => ?_) | refine brVT (fun _ => ?_) (fun _ => ?_) | (with_reducible refine And.intro ?_ ?_) | (simp -dsimp -implicitDefEqProofs only [go_sem, ↓reduceIte, Nat.reduceEqDiff, Nat.reduceAdd, Nat.reduceMul, Nat.reduceLeDiff, Nat.reduceLT, Nat.reduceBEq, Nat.reducePow, Int.reduceToNat, Int.reduceLE, Int.reduceLT, Int.reduceNeg, reduceCtorEq, Int.reduceEq, Int.reduceAdd, Int.reduceSub, Int.reduceMul, Nat.reduceSub]))
theorem towerNew_spec (nx : Nat) (n : Int) (s : Sum) (k : Nat) (h0 : 0 ≤ n) (h16 : n < 16) (h1 : 1 ≤ k) (h2 : k ≤ 64) :
    FnSpec Tryz.prog 19 nx [n64 n, sumA s, n64 k] [] (.tup [.ref (nx + 276) 0 [], n64 0])
      [(nx + 276, some (.obj (towerA n (nx + 224) (.sl 35 [] (nx + 271)) (.sl 68 [] (nx + 272))))), (nx + 224, some (.obj (keyA s (leavesL s k) (nx + 219) 0))), (nx + 217, some (.tail k)), (nx + 269, some (.tail 0)), (nx + 270, some (.tail 0))] 310 := by
  have c1 : ¬ n < 0 := by omega
  have c2 : ¬ 16 ≤ n := by omega
  refine FnSpec.of_code (cx := cx) (an := {mt := [28], tk := [(27, [([2], 35), ([3], 68)])]}) (rs := [.tmp 6, .tmp 7]) mo Tryz.func19 rfl rfl (by kernel_rfl) (by kernel_rfl) (by show 3 ≤ _; decide) (.inr ⟨_, rfl, by simp [AV.good]⟩) (by simp [allWr, keys, Res.wr]) ?_
  repeat' (first | omega | assumption | (show AL.ahead _ _ _ = true; rfl) | refine brF (fun _ => ?_) (fun _ => ?_) | refine brT (fun _ => ?_) (fun _ => ?_) | refine brVF (fun _ => ?_) (fun _ => ?_) | refine brVT (fun _ => ?_) (fun _ => ?_) | (with_reducible refine And.intro ?_ ?_) | (refine callK_by (keyNew_spec _ s k h1 h2) ?_) | (simp -dsimp -implicitDefEqProofs only [go_sem, ↓reduceIte, Nat.reduceEqDiff, Nat.reduceAdd, Nat.reduceMul, Nat.reduceLeDiff, Nat.reduceLT, Nat.reduceBEq, Nat.reducePow, Int.reduceToNat, Int.reduceLE, Int.reduceLT, Int.reduceNeg, reduceCtorEq, Int.reduceEq, Int.reduceAdd, Int.reduceSub, Int.reduceMul, Nat.reduceSub, c1, c2]))
theorem take_nil (nx : Nat) (l : AV) (L : List AV) (hl : l = nilP) : FnSpec Tryz.prog 17 nx [nilP, l, .agg 35 L] [] (.tup [signedA (receiptA 0 0 0 zeroS zeroS) [] 1, n64 1]) [] 0 := by
  subst hl
  refine FnSpec.of_code (cx := cx) (an := {}) (rs := [.cell 6 32, .tmp 7]) mo Tryz.func17 rfl rfl (by kernel_rfl) (by kernel_rfl) (by show 3 ≤ _; decide) (.inr ⟨_, rfl, by simp [AV.good, signedA]⟩) (by simp [allWr, keys, Res.wr]) ?_
  repeat' (first | omega | assumption | (show AL.ahead _ _ _ = true; rfl) | refine brF (fun _ => ?_) (fun _ => ?_) | refine brT (fun _ => ?_) (fun _ => ?_) | refine brVF (fun _ => ?_) (fun _ => ?_) | refine brVT (fun _ => ?_) (fun _ => ?_) | (with_reducible refine And.intro ?_ ?_) | (refine callK_by (none_nil _) ?_) | (simp -dsimp -implicitDefEqProofs only [go_sem, ↓reduceIte, Nat.reduceEqDiff, Nat.reduceAdd, Nat.reduceMul, Nat.reduceLeDiff, Nat.reduceLT, Nat.reduceBEq, Nat.reducePow, Int.reduceToNat, Int.reduceLE, Int.reduceLT, Int.reduceNeg, reduceCtorEq, Int.reduceEq, Int.reduceAdd, Int.reduceSub, Int.reduceMul, Nat.reduceSub]))
theorem take_none (nx m key : Nat) (hm : m < nx) (n : Int) (j s : AV) (L : List AV) : FnSpec Tryz.prog 17 nx [.ref m 0 [], nilP, .agg 35 L] [(m, some (.robj (towerA n key j s)))] (.tup [signedA (receiptA 0 0 0 zeroS zeroS) [] 1, n64 20]) [] 0 := by
  have x1 := fun k => lt_nx hm k
  have x2 := fun k => nx_gt hm k
  refine FnSpec.of_code (cx := cx) (an := {}) (rs := [.cell 6 32, .tmp 7]) mo Tryz.func17 rfl rfl (by kernel_rfl) (by kernel_rfl) (by show 3 ≤ _; decide) (.inr ⟨_, rfl, by simp [AV.good, signedA]⟩) (by simp [allWr, keys, Res.wr]) ?_
  repeat' (first | omega | assumption | (show AL.ahead _ _ _ = true; rfl) | refine brF (fun _ => ?_) (fun _ => ?_) | refine brT (fun _ => ?_) (fun _ => ?_) | refine brVF (fun _ => ?_) (fun _ => ?_) | refine brVT (fun _ => ?_) (fun _ => ?_) | (with_reducible refine And.intro ?_ ?_) | (refine callK_by (none_obj _ m key n j s) ?_) | (simp -dsimp -implicitDefEqProofs only [go_sem, ↓reduceIte, Nat.reduceEqDiff, Nat.reduceAdd, Nat.reduceMul, Nat.reduceLeDiff, Nat.reduceLT, Nat.reduceBEq, Nat.reducePow, Int.reduceToNat, Int.reduceLE, Int.reduceLT, Int.reduceNeg, reduceCtorEq, Int.reduceEq, Int.reduceAdd, Int.reduceSub, Int.reduceMul, Nat.reduceSub, x1, x2]))
theorem hear_nil (nx sz : Nat) (l : AV) (L : List AV) (hl : l = nilP) : FnSpec Tryz.prog 18 nx [nilP, l, .agg sz L] [] (.tup [.sl 0 [] 1, n64 1]) [] 0 := by
  subst hl
  refine FnSpec.of_code (cx := cx) (an := {}) (rs := [.tmp 6, .tmp 7]) mo Tryz.func18 rfl rfl (by kernel_rfl) (by kernel_rfl) (by show 3 ≤ _; decide) (.inr ⟨_, rfl, by simp [AV.good]⟩) (by simp [allWr, keys, Res.wr]) ?_
  repeat' (first | omega | assumption | (show AL.ahead _ _ _ = true; rfl) | refine brF (fun _ => ?_) (fun _ => ?_) | refine brT (fun _ => ?_) (fun _ => ?_) | refine brVF (fun _ => ?_) (fun _ => ?_) | refine brVT (fun _ => ?_) (fun _ => ?_) | (with_reducible refine And.intro ?_ ?_) | (refine callK_by (none_nil _) ?_) | (simp -dsimp -implicitDefEqProofs only [go_sem, ↓reduceIte, Nat.reduceEqDiff, Nat.reduceAdd, Nat.reduceMul, Nat.reduceLeDiff, Nat.reduceLT, Nat.reduceBEq, Nat.reducePow, Int.reduceToNat, Int.reduceLE, Int.reduceLT, Int.reduceNeg, reduceCtorEq, Int.reduceEq, Int.reduceAdd, Int.reduceSub, Int.reduceMul, Nat.reduceSub]))
theorem left_nil (nx : Nat) : FnSpec Tryz.prog 21 nx [nilP] [] (n64 0) [] 0 := by
  refine FnSpec.of_code (cx := cx) (an := {}) (rs := [.tmp 2]) mo Tryz.func21 rfl rfl (by kernel_rfl) (by kernel_rfl) (by show 1 ≤ _; decide) (.inl rfl) (by simp [allWr, keys, Res.wr]) ?_
  repeat' (first | omega | assumption | (show AL.ahead _ _ _ = true; rfl) | refine brF (fun _ => ?_) (fun _ => ?_) | refine brT (fun _ => ?_) (fun _ => ?_) | refine brVF (fun _ => ?_) (fun _ => ?_) | refine brVT (fun _ => ?_) (fun _ => ?_) | (with_reducible refine And.intro ?_ ?_) | (refine callK_by (none_nil _) ?_) | (simp -dsimp -implicitDefEqProofs only [go_sem, ↓reduceIte, Nat.reduceEqDiff, Nat.reduceAdd, Nat.reduceMul, Nat.reduceLeDiff, Nat.reduceLT, Nat.reduceBEq, Nat.reducePow, Int.reduceToNat, Int.reduceLE, Int.reduceLT, Int.reduceNeg, reduceCtorEq, Int.reduceEq, Int.reduceAdd, Int.reduceSub, Int.reduceMul, Nat.reduceSub]))
theorem keyLeft_spec (nx m t : Nat) (s : Sum) (l : List Sum) (next : Int) (hl : l.length < 2 ^ 40) (h0 : 0 ≤ next) (h1 : next ≤ l.length) : FnSpec Tryz.prog 76 nx [.ref m 0 []] [(m, some (.robj (keyA s l t next)))] (n64 (l.length - next)) [] 0 := by
  have w : IntKind.i64.wrap ((l.length : Int) - next) = (l.length : Int) - next := by rw [IntKind.wrap_i64]; omega
  refine FnSpec.of_code (cx := cx) (an := {}) (rs := [.tmp 2]) mo Tryz.func76 rfl rfl (by kernel_rfl) (by kernel_rfl) (by show 1 ≤ _; decide) (.inl rfl) (by simp [allWr, keys, Res.wr]) ?_
  repeat' (first | omega | assumption | (show AL.ahead _ _ _ = true; rfl) | refine brF (fun _ => ?_) (fun _ => ?_) | refine brT (fun _ => ?_) (fun _ => ?_) | refine brVF (fun _ => ?_) (fun _ => ?_) | refine brVT (fun _ => ?_) (fun _ => ?_) | (with_reducible refine And.intro ?_ ?_) | (simp -dsimp -implicitDefEqProofs only [go_sem, ↓reduceIte, Nat.reduceEqDiff, Nat.reduceAdd, Nat.reduceMul, Nat.reduceLeDiff, Nat.reduceLT, Nat.reduceBEq, Nat.reducePow, Int.reduceToNat, Int.reduceLE, Int.reduceLT, Int.reduceNeg, reduceCtorEq, Int.reduceEq, Int.reduceAdd, Int.reduceSub, Int.reduceMul, Nat.reduceSub, w]))
theorem left_obj (nx m key t : Nat) (hne : m ≠ key) (n : Int) (j s : AV) (sd : Sum) (l : List Sum) (next : Int) (hl : l.length < 2 ^ 40) (h0 : 0 ≤ next) (h1 : next ≤ l.length) :
    FnSpec Tryz.prog 21 nx [.ref m 0 []] [(m, some (.robj (towerA n key j s))), (key, some (.robj (keyA sd l t next)))] (n64 (l.length - next)) [] 0 := by
  have z1 : (m = key) = False := by simp [hne]
  have z2 : (key = m) = False := by simp [Ne.symm hne]
  refine FnSpec.of_code (cx := cx) (an := {}) (rs := [.tmp 2]) mo Tryz.func21 rfl rfl (by kernel_rfl) (by kernel_rfl) (by show 1 ≤ _; decide) (.inl rfl) (by simp [allWr, keys, Res.wr]) ?_
  repeat' (first | omega | assumption | (show AL.ahead _ _ _ = true; rfl) | refine brF (fun _ => ?_) (fun _ => ?_) | refine brT (fun _ => ?_) (fun _ => ?_) | refine brVF (fun _ => ?_) (fun _ => ?_) | refine brVT (fun _ => ?_) (fun _ => ?_) | (with_reducible refine And.intro ?_ ?_) | (refine callK_by (none_obj _ m key n j s) ?_) | (refine callK_by (keyLeft_spec _ key t sd l next hl h0 h1) ?_) | (simp -dsimp -implicitDefEqProofs only [go_sem, ↓reduceIte, Nat.reduceEqDiff, Nat.reduceAdd, Nat.reduceMul, Nat.reduceLeDiff, Nat.reduceLT, Nat.reduceBEq, Nat.reducePow, Int.reduceToNat, Int.reduceLE, Int.reduceLT, Int.reduceNeg, reduceCtorEq, Int.reduceEq, Int.reduceAdd, Int.reduceSub, Int.reduceMul, Nat.reduceSub, z1, z2]))
end Go.Proofs.YtdkcobnhcpgpaaaGreat

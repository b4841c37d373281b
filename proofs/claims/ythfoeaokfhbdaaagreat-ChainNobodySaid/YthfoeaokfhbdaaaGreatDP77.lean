/-
  Blocks of one transaction, or of none.
-/
import Derived.Test.YthfoeaokfhbdaaaGreatDP27
import Derived.Test.YthfoeaokfhbdaaaGreatDP82
set_option linter.unusedSimpArgs false
set_option linter.unusedVariables false
set_option maxRecDepth 100000
set_option maxHeartbeats 2000000
namespace Go.Proofs.YthfoeaokfhbdaaaGreat
open Go Go.AL Go.Proofs.YthfoeaokfhbdaaaGreat.T
structure Head_ where
  ahead : Sum
  height : Int
  root : Sum
  many : Int
def headA (h : Head_) : AV := .agg 66 [sumA h.ahead, n64 h.height, sumA h.root, n64 h.many]
def headL (h : Head_) : List UInt8 := h.ahead.b ++ numI h.height ++ h.root.b ++ numI h.many
noncomputable def headS (h : Head_) : Sum := joinS 81 [headL h]
def hd00 : Head_ := ⟨zeroS, 0, zeroS, 0⟩
theorem headA_good (h : Head_) : (headA h).good = true := rfl
theorem headA_agg (h : Head_) : (headA h).isAgg = true := rfl
theorem headA_csz (h : Head_) : (headA h).csize = 66 := rfl
theorem nb_head {m : Nat} (h : Head_) : AV.nb m (headA h) = True := by simp [headA, AV.nb, AV.nbs, nb_sum]
attribute [local go_sem] nb_u8s u8s_length nb_sum List.length_replicate zero_sum sum_h u8s_nil sums_len nb_sums sum_csz sum_agg sumA_good txA_good txA_csz txA_agg nb_tx
theorem headSum_spec (nx : Nat) (h : Head_) : FnSpec Tryz.prog 79 nx [headA h] [] (sumA (headS h)) [] 0 := by
  have l1 := h.ahead.h
  have l2 := h.root.h
  have l3 := numI_len h.height
  have l4 := numI_len h.many
  have p0 := fun nc (q : nx + 60 ≤ nc) => psum_spec nc (nx + 16) (nx + 17) [] h.ahead (by simp) (by omega) (by omega) (by omega)
  have p1 := fun nc (q : nx + 60 ≤ nc) => num_spec nc (nx + 16) (nx + 17) ([] ++ h.ahead.b) h.height (by simp only [List.length_append, List.length_nil]; omega) (by omega) (by omega) (by omega)
  have p2 := fun nc (q : nx + 60 ≤ nc) => psum_spec nc (nx + 16) (nx + 17) ([] ++ h.ahead.b ++ numI h.height) h.root (by simp only [List.length_append, List.length_nil]; omega) (by omega) (by omega) (by omega)
  have p3 := fun nc (q : nx + 60 ≤ nc) => num_spec nc (nx + 16) (nx + 17) ([] ++ h.ahead.b ++ numI h.height ++ h.root.b) h.many (by simp only [List.length_append, List.length_nil]; omega) (by omega) (by omega) (by omega)
  have p4 := fun nc (q : nx + 60 ≤ nc) => bytes_spec nc (nx + 16) (nx + 19) (h.ahead.b ++ numI h.height ++ h.root.b ++ numI h.many) (by simp only [List.length_append, List.length_nil]; omega) (by omega) (by omega)
  simp only [penH, penA, u8s_nil, List.length_nil] at p0 p1 p2 p3 p4
  have hL : h.ahead.b ++ numI h.height ++ h.root.b ++ numI h.many = headL h := rfl
  have hl : (headL h).length < 2 ^ 38 := by rw [← hL]; simp only [List.length_append]; omega
  unfold headS
  refine FnSpec.of_code (cx := cx) (an := {tk := [(3, [([0], 1)])]}) (rs := [.cell 2 23]) mo Tryz.func79 rfl rfl (by kernel_rfl) (by kernel_rfl) (by show 1 ≤ _; decide) (.inl rfl) (by simp [allWr, keys, Res.wr]) ?_
  repeat' (first | omega | assumption | (show AL.ahead _ _ _ = true; rfl) | refine brF (fun _ => ?_) (fun _ => ?_) | refine brT (fun _ => ?_) (fun _ => ?_) | refine brVF (fun _ => ?_) (fun _ => ?_) | refine brVT (fun _ => ?_) (fun _ => ?_) | (with_reducible refine And.intro ?_ ?_) | (simp -dsimp -implicitDefEqProofs only [go_sem, ↓reduceIte, Nat.reduceEqDiff, Nat.reduceAdd, Nat.reduceMul, Nat.reduceLeDiff, Nat.reduceLT, Nat.reduceBEq, Nat.reducePow, Int.reduceToNat, Int.reduceLE, Int.reduceLT, Int.reduceNeg, reduceCtorEq, Int.reduceEq, Int.reduceAdd, Int.reduceSub, Int.reduceMul, Nat.reduceSub, headA]))
  refine callK_by (p0 _ (by omega)) ?_
  repeat' (first | omega | assumption | (show AL.ahead _ _ _ = true; rfl) | refine brF (fun _ => ?_) (fun _ => ?_) | refine brT (fun _ => ?_) (fun _ => ?_) | refine brVF (fun _ => ?_) (fun _ => ?_) | refine brVT (fun _ => ?_) (fun _ => ?_) | (with_reducible refine And.intro ?_ ?_) | (simp -dsimp -implicitDefEqProofs only [go_sem, ↓reduceIte, Nat.reduceEqDiff, Nat.reduceAdd, Nat.reduceMul, Nat.reduceLeDiff, Nat.reduceLT, Nat.reduceBEq, Nat.reducePow, Int.reduceToNat, Int.reduceLE, Int.reduceLT, Int.reduceNeg, reduceCtorEq, Int.reduceEq, Int.reduceAdd, Int.reduceSub, Int.reduceMul, Nat.reduceSub]))
  refine callK_by (p1 _ (by omega)) ?_
  repeat' (first | omega | assumption | (show AL.ahead _ _ _ = true; rfl) | refine brF (fun _ => ?_) (fun _ => ?_) | refine brT (fun _ => ?_) (fun _ => ?_) | refine brVF (fun _ => ?_) (fun _ => ?_) | refine brVT (fun _ => ?_) (fun _ => ?_) | (with_reducible refine And.intro ?_ ?_) | (simp -dsimp -implicitDefEqProofs only [go_sem, ↓reduceIte, Nat.reduceEqDiff, Nat.reduceAdd, Nat.reduceMul, Nat.reduceLeDiff, Nat.reduceLT, Nat.reduceBEq, Nat.reducePow, Int.reduceToNat, Int.reduceLE, Int.reduceLT, Int.reduceNeg, reduceCtorEq, Int.reduceEq, Int.reduceAdd, Int.reduceSub, Int.reduceMul, Nat.reduceSub]))
  refine callK_by (p2 _ (by omega)) ?_
  repeat' (first | omega | assumption | (show AL.ahead _ _ _ = true; rfl) | refine brF (fun _ => ?_) (fun _ => ?_) | refine brT (fun _ => ?_) (fun _ => ?_) | refine brVF (fun _ => ?_) (fun _ => ?_) | refine brVT (fun _ => ?_) (fun _ => ?_) | (with_reducible refine And.intro ?_ ?_) | (simp -dsimp -implicitDefEqProofs only [go_sem, ↓reduceIte, Nat.reduceEqDiff, Nat.reduceAdd, Nat.reduceMul, Nat.reduceLeDiff, Nat.reduceLT, Nat.reduceBEq, Nat.reducePow, Int.reduceToNat, Int.reduceLE, Int.reduceLT, Int.reduceNeg, reduceCtorEq, Int.reduceEq, Int.reduceAdd, Int.reduceSub, Int.reduceMul, Nat.reduceSub]))
  refine callK_by (p3 _ (by omega)) ?_
  repeat' (first | omega | assumption | (show AL.ahead _ _ _ = true; rfl) | refine brF (fun _ => ?_) (fun _ => ?_) | refine brT (fun _ => ?_) (fun _ => ?_) | refine brVF (fun _ => ?_) (fun _ => ?_) | refine brVT (fun _ => ?_) (fun _ => ?_) | (with_reducible refine And.intro ?_ ?_) | (simp -dsimp -implicitDefEqProofs only [go_sem, ↓reduceIte, Nat.reduceEqDiff, Nat.reduceAdd, Nat.reduceMul, Nat.reduceLeDiff, Nat.reduceLT, Nat.reduceBEq, Nat.reducePow, Int.reduceToNat, Int.reduceLE, Int.reduceLT, Int.reduceNeg, reduceCtorEq, Int.reduceEq, Int.reduceAdd, Int.reduceSub, Int.reduceMul, Nat.reduceSub]))
  refine callK_by (p4 _ (by omega)) ?_
  repeat' (first | omega | assumption | (show AL.ahead _ _ _ = true; rfl) | refine brF (fun _ => ?_) (fun _ => ?_) | refine brT (fun _ => ?_) (fun _ => ?_) | refine brVF (fun _ => ?_) (fun _ => ?_) | refine brVT (fun _ => ?_) (fun _ => ?_) | (with_reducible refine And.intro ?_ ?_) | (refine callK_by (join1_spec _ 1 (nx + 194) 81 (headL h) (by omega) (by omega) (by omega)) ?_) | (simp -dsimp -implicitDefEqProofs only [go_sem, ↓reduceIte, Nat.reduceEqDiff, Nat.reduceAdd, Nat.reduceMul, Nat.reduceLeDiff, Nat.reduceLT, Nat.reduceBEq, Nat.reducePow, Int.reduceToNat, Int.reduceLE, Int.reduceLT, Int.reduceNeg, reduceCtorEq, Int.reduceEq, Int.reduceAdd, Int.reduceSub, Int.reduceMul, Nat.reduceSub, hL]))
  all_goals first | rfl | trace_state
theorem joinNil_spec (nx : Nat) (tag : UInt8) : FnSpec Tryz.prog 98 nx [u8 tag, .sl 0 [] 1] [] (sumA (joinS tag [])) [] 0 := by
  have hf := fun nc => of_spec nc (nx + 19) [tag]
  refine FnSpec.of_code (cx := cx) (an := {tk := [(10, [([], 1)])]}) (rs := [.cell 4 23]) mo Tryz.func98 rfl rfl (by kernel_rfl) (by kernel_rfl) (by show 2 ≤ _; decide) (.inl rfl) (by simp [allWr, keys, Res.wr]) ?_
  simp -dsimp -implicitDefEqProofs only [go_sem, ↓reduceIte, Nat.reduceEqDiff, Nat.reduceAdd, Nat.reduceMul, Nat.reduceLeDiff, Nat.reduceLT, Nat.reduceBEq, Nat.reducePow, Int.reduceToNat, Int.reduceLE, Int.reduceLT, Int.reduceNeg, reduceCtorEq, Int.reduceEq, Int.reduceAdd, Int.reduceSub, Int.reduceMul, Nat.reduceSub, u8s_rep]
  refine ⟨⟨rfl, rfl⟩, ?_⟩
  apply loop_keep [4, 11, 12] (fun _ : Unit => [(5, .sl 1 (u8s [tag]) (nx + 19)), (13, .val (.int .i64 0))]) (fun _ => [(nx, some (.obj (.vec 1 (u8s (List.replicate 32 0))))), (nx + 17, some (.tail 1))]) (fun _ => 0) ()
  · simp -dsimp -implicitDefEqProofs only [go_sem, ↓reduceIte, Nat.reduceEqDiff, Nat.reduceAdd, Nat.reduceMul, Nat.reduceLeDiff, Nat.reduceLT, Nat.reduceBEq, Nat.reducePow, Int.reduceToNat, Int.reduceLE, Int.reduceLT, Int.reduceNeg, reduceCtorEq, Int.reduceEq, Int.reduceAdd, Int.reduceSub, Int.reduceMul, Nat.reduceSub]; rfl
  · simp -dsimp -implicitDefEqProofs only [go_sem, ↓reduceIte, Nat.reduceEqDiff, Nat.reduceAdd, Nat.reduceMul, Nat.reduceLeDiff, Nat.reduceLT, Nat.reduceBEq, Nat.reducePow, Int.reduceToNat, Int.reduceLE, Int.reduceLT, Int.reduceNeg, reduceCtorEq, Int.reduceEq, Int.reduceAdd, Int.reduceSub, Int.reduceMul, Nat.reduceSub]; try rfl
  · simp -dsimp -implicitDefEqProofs only [go_sem, ↓reduceIte, Nat.reduceEqDiff, Nat.reduceAdd, Nat.reduceMul, Nat.reduceLeDiff, Nat.reduceLT, Nat.reduceBEq, Nat.reducePow, Int.reduceToNat, Int.reduceLE, Int.reduceLT, Int.reduceNeg, reduceCtorEq, Int.reduceEq, Int.reduceAdd, Int.reduceSub, Int.reduceMul, Nat.reduceSub]; try rfl
  · intro s
    simp -dsimp -implicitDefEqProofs only [go_sem, ↓reduceIte, Nat.reduceEqDiff, Nat.reduceAdd, Nat.reduceMul, Nat.reduceLeDiff, Nat.reduceLT, Nat.reduceBEq, Nat.reducePow, Int.reduceToNat, Int.reduceLE, Int.reduceLT, Int.reduceNeg, reduceCtorEq, Int.reduceEq, Int.reduceAdd, Int.reduceSub, Int.reduceMul, Nat.reduceSub]
    try omega
  · rintro ⟨⟩
    repeat' (first | omega | assumption | (show AL.ahead _ _ _ = true; rfl) | refine brF (fun _ => ?_) (fun _ => ?_) | refine brT (fun _ => ?_) (fun _ => ?_) | refine brVF (fun _ => ?_) (fun _ => ?_) | refine brVT (fun _ => ?_) (fun _ => ?_) | (with_reducible refine And.intro ?_ ?_) | (refine callK_by (hf _ (by simp) (by omega)) ?_) | (simp -dsimp -implicitDefEqProofs only [go_sem, ↓reduceIte, Nat.reduceEqDiff, Nat.reduceAdd, Nat.reduceMul, Nat.reduceLeDiff, Nat.reduceLT, Nat.reduceBEq, Nat.reducePow, Int.reduceToNat, Int.reduceLE, Int.reduceLT, Int.reduceNeg, reduceCtorEq, Int.reduceEq, Int.reduceAdd, Int.reduceSub, Int.reduceMul, Nat.reduceSub, shaOf_len]))
    all_goals first | rfl | trace_state
/-- a row of sums that is being filled -/
noncomputable def rowG {α : Type} (f : α → Sum) (l : List α) (i : Nat) : List Sum := (l.take i).map f ++ List.replicate (l.length - i) zeroS
theorem rowG_len {α : Type} {f : α → Sum} {l : List α} {i : Nat} (h : i ≤ l.length) : (rowG f l i).length = l.length := by simp [rowG]; omega
theorem rowG_set {α : Type} {f : α → Sum} {l : List α} {i : Nat} (h : i < l.length) : (rowG f l i).set i (f l[i]) = rowG f l (i + 1) := by
  have hl : ((l.take i).map f).length = i := by simp; omega
  unfold rowG
  rw [List.set_append_right _ _ (by omega), hl, Nat.sub_self, show l.length - i = (l.length - (i + 1)) + 1 by omega, List.replicate_succ, List.set_cons_zero, ← List.take_append_getElem h, List.map_append]
  simp
theorem rowG_all {α : Type} (f : α → Sum) (l : List α) : rowG f l l.length = l.map f := by simp [rowG]
theorem rowG_zero {α : Type} (f : α → Sum) (l : List α) : rowG f l 0 = List.replicate l.length zeroS := by simp [rowG]
theorem leavesA_spec (nx m : Nat) (l : List Sum) (hl : l.length < 2 ^ 40) (hm : m < nx) : FnSpec Tryz.prog 174 nx [.aref m 0 [] 32 0 l.length] [(m, some (.robj (.vec 32 (sumsA l))))] (.aref (nx + 24) 0 [] 32 0 l.length) [(nx + 24, some (.obj (.vec 32 (sumsA (l.map leafS)))))] 300 := by
  have x1 := ltF hm
  have hz : List.replicate l.length (sumA zeroS) = sumsA (rowG leafS l 0) := by rw [rowG_zero]; simp [sumsA]
  refine FnSpec.of_code (cx := cx) (an := {mt := [8]}) (rs := [.tmp 2]) mo Tryz.func174 rfl rfl (by kernel_rfl) (by kernel_rfl) (by show 1 ≤ _; decide) (.inl rfl) (by simp [allWr, keys, Res.wr]) ?_
  repeat' (first | omega | assumption | (show AL.ahead _ _ _ = true; rfl) | refine brF (fun _ => ?_) (fun _ => ?_) | refine brT (fun _ => ?_) (fun _ => ?_) | refine brVF (fun _ => ?_) (fun _ => ?_) | refine brVT (fun _ => ?_) (fun _ => ?_) | (with_reducible refine And.intro ?_ ?_) | (simp -dsimp -implicitDefEqProofs only [go_sem, ↓reduceIte, Nat.reduceEqDiff, Nat.reduceAdd, Nat.reduceMul, Nat.reduceLeDiff, Nat.reduceLT, Nat.reduceBEq, Nat.reducePow, Int.reduceToNat, Int.reduceLE, Int.reduceLT, Int.reduceNeg, reduceCtorEq, Int.reduceEq, Int.reduceAdd, Int.reduceSub, Int.reduceMul, Nat.reduceSub, x1, hz]))
  apply loop_keep [3, 9, 10] (fun i : { i : Nat // i ≤ l.length } => [(11, n64 i.1)]) (fun i => [(nx + 24, some (.obj (.vec 32 (sumsA (rowG leafS l i.1))))), (m, some (.robj (.vec 32 (sumsA l))))]) (fun i => l.length - i.1) ⟨0, Nat.zero_le _⟩
  · simp -dsimp -implicitDefEqProofs only [go_sem, ↓reduceIte, Nat.reduceEqDiff, Nat.reduceAdd, Nat.reduceMul, Nat.reduceLeDiff, Nat.reduceLT, Nat.reduceBEq, Nat.reducePow, Int.reduceToNat, Int.reduceLE, Int.reduceLT, Int.reduceNeg, reduceCtorEq, Int.reduceEq, Int.reduceAdd, Int.reduceSub, Int.reduceMul, Nat.reduceSub]; try rfl
  · simp -dsimp -implicitDefEqProofs only [go_sem, ↓reduceIte, Nat.reduceEqDiff, Nat.reduceAdd, Nat.reduceMul, Nat.reduceLeDiff, Nat.reduceLT, Nat.reduceBEq, Nat.reducePow, Int.reduceToNat, Int.reduceLE, Int.reduceLT, Int.reduceNeg, reduceCtorEq, Int.reduceEq, Int.reduceAdd, Int.reduceSub, Int.reduceMul, Nat.reduceSub]; try rfl
  · simp -dsimp -implicitDefEqProofs only [go_sem, ↓reduceIte, Nat.reduceEqDiff, Nat.reduceAdd, Nat.reduceMul, Nat.reduceLeDiff, Nat.reduceLT, Nat.reduceBEq, Nat.reducePow, Int.reduceToNat, Int.reduceLE, Int.reduceLT, Int.reduceNeg, reduceCtorEq, Int.reduceEq, Int.reduceAdd, Int.reduceSub, Int.reduceMul, Nat.reduceSub, x1]; try rfl
  · intro s
    simp -dsimp -implicitDefEqProofs only [go_sem, ↓reduceIte, Nat.reduceEqDiff, Nat.reduceAdd, Nat.reduceMul, Nat.reduceLeDiff, Nat.reduceLT, Nat.reduceBEq, Nat.reducePow, Int.reduceToNat, Int.reduceLE, Int.reduceLT, Int.reduceNeg, reduceCtorEq, Int.reduceEq, Int.reduceAdd, Int.reduceSub, Int.reduceMul, Nat.reduceSub]
    try omega
  · rintro ⟨i, hi⟩
    have hi : i ≤ l.length := hi
    have hle := rowG_len (f := leafS) hi
    simp -dsimp -implicitDefEqProofs only [go_sem, ↓reduceIte, Nat.reduceEqDiff, Nat.reduceAdd, Nat.reduceMul, Nat.reduceLeDiff, Nat.reduceLT, Nat.reduceBEq, Nat.reducePow, Int.reduceToNat, Int.reduceLE, Int.reduceLT, Int.reduceNeg, reduceCtorEq, Int.reduceEq, Int.reduceAdd, Int.reduceSub, Int.reduceMul, Nat.reduceSub]
    refine brT (fun h => ?_) (fun h => ?_)
    · have hi2 : i < l.length := by omega
      have q1 := sums_get hi2
      have q2 := sums_csz (l := rowG leafS l i) (i := i) (by omega)
      have q3 := rowG_set (f := leafS) hi2
      have q4 : (sumsA (rowG leafS l i)).set i (sumA (leafS l[i])) = sumsA ((rowG leafS l i).set i (leafS l[i])) := by simp [sumsA, List.map_set]
      have w1 : IntKind.i64.wrap ((i : Int) + 1) = ((i + 1 : Nat) : Int) := wrapE (by omega) (by omega)
      repeat' (first | omega | assumption | (show AL.ahead _ _ _ = true; rfl) | refine brF (fun _ => ?_) (fun _ => ?_) | refine brT (fun _ => ?_) (fun _ => ?_) | refine brVF (fun _ => ?_) (fun _ => ?_) | refine brVT (fun _ => ?_) (fun _ => ?_) | (with_reducible refine And.intro ?_ ?_) | (refine callK_by (leaf_spec _ l[i]) ?_) | (simp -dsimp -implicitDefEqProofs only [go_sem, ↓reduceIte, Nat.reduceEqDiff, Nat.reduceAdd, Nat.reduceMul, Nat.reduceLeDiff, Nat.reduceLT, Nat.reduceBEq, Nat.reducePow, Int.reduceToNat, Int.reduceLE, Int.reduceLT, Int.reduceNeg, reduceCtorEq, Int.reduceEq, Int.reduceAdd, Int.reduceSub, Int.reduceMul, Nat.reduceSub, x1, q1, q2, hle, w1, q4, q3, Nat.zero_add]))
      all_goals first
        | exact ⟨⟨i + 1, hi2⟩, by show l.length - (i + 1) < l.length - i; omega, rfl, rfl⟩
        | trace_state
    · have e : i = l.length := by omega
      subst e
      repeat' (first | omega | assumption | (show AL.ahead _ _ _ = true; rfl) | refine brF (fun _ => ?_) (fun _ => ?_) | refine brT (fun _ => ?_) (fun _ => ?_) | refine brVF (fun _ => ?_) (fun _ => ?_) | refine brVT (fun _ => ?_) (fun _ => ?_) | (with_reducible refine And.intro ?_ ?_) | (simp -dsimp -implicitDefEqProofs only [go_sem, ↓reduceIte, Nat.reduceEqDiff, Nat.reduceAdd, Nat.reduceMul, Nat.reduceLeDiff, Nat.reduceLT, Nat.reduceBEq, Nat.reducePow, Int.reduceToNat, Int.reduceLE, Int.reduceLT, Int.reduceNeg, reduceCtorEq, Int.reduceEq, Int.reduceAdd, Int.reduceSub, Int.reduceMul, Nat.reduceSub, x1, rowG_all]))
      all_goals first | rfl | trace_state
theorem sums0_spec (nx : Nat) : FnSpec Tryz.prog 138 nx [.sl 0 [] 1] [] (.aref (nx + 24) 0 [] 32 0 0) [(nx + 24, some (.obj (.vec 32 [])))] 300 := by
  refine FnSpec.of_code (cx := cx) (an := {mt := [8]}) (rs := [.tmp 2]) mo Tryz.func138 rfl rfl (by kernel_rfl) (by kernel_rfl) (by show 1 ≤ _; decide) (.inl rfl) (by simp [allWr, keys, Res.wr]) ?_
  repeat' (first | omega | assumption | (show AL.ahead _ _ _ = true; rfl) | refine brF (fun _ => ?_) (fun _ => ?_) | refine brT (fun _ => ?_) (fun _ => ?_) | refine brVF (fun _ => ?_) (fun _ => ?_) | refine brVT (fun _ => ?_) (fun _ => ?_) | (with_reducible refine And.intro ?_ ?_) | (simp -dsimp -implicitDefEqProofs only [go_sem, ↓reduceIte, Nat.reduceEqDiff, Nat.reduceAdd, Nat.reduceMul, Nat.reduceLeDiff, Nat.reduceLT, Nat.reduceBEq, Nat.reducePow, Int.reduceToNat, Int.reduceLE, Int.reduceLT, Int.reduceNeg, reduceCtorEq, Int.reduceEq, Int.reduceAdd, Int.reduceSub, Int.reduceMul, Nat.reduceSub, List.replicate]))
  apply loop_keep [3, 9, 10] (fun _ : Unit => [(11, n64 0)]) (fun i => [(nx + 24, some (.obj (.vec 32 [])))]) (fun i => 0) ()
  · simp -dsimp -implicitDefEqProofs only [go_sem, ↓reduceIte, Nat.reduceEqDiff, Nat.reduceAdd, Nat.reduceMul, Nat.reduceLeDiff, Nat.reduceLT, Nat.reduceBEq, Nat.reducePow, Int.reduceToNat, Int.reduceLE, Int.reduceLT, Int.reduceNeg, reduceCtorEq, Int.reduceEq, Int.reduceAdd, Int.reduceSub, Int.reduceMul, Nat.reduceSub]; try rfl
  · simp -dsimp -implicitDefEqProofs only [go_sem, ↓reduceIte, Nat.reduceEqDiff, Nat.reduceAdd, Nat.reduceMul, Nat.reduceLeDiff, Nat.reduceLT, Nat.reduceBEq, Nat.reducePow, Int.reduceToNat, Int.reduceLE, Int.reduceLT, Int.reduceNeg, reduceCtorEq, Int.reduceEq, Int.reduceAdd, Int.reduceSub, Int.reduceMul, Nat.reduceSub]; try rfl
  · simp -dsimp -implicitDefEqProofs only [go_sem, ↓reduceIte, Nat.reduceEqDiff, Nat.reduceAdd, Nat.reduceMul, Nat.reduceLeDiff, Nat.reduceLT, Nat.reduceBEq, Nat.reducePow, Int.reduceToNat, Int.reduceLE, Int.reduceLT, Int.reduceNeg, reduceCtorEq, Int.reduceEq, Int.reduceAdd, Int.reduceSub, Int.reduceMul, Nat.reduceSub]; try rfl
  · intro s
    simp -dsimp -implicitDefEqProofs only [go_sem, ↓reduceIte, Nat.reduceEqDiff, Nat.reduceAdd, Nat.reduceMul, Nat.reduceLeDiff, Nat.reduceLT, Nat.reduceBEq, Nat.reducePow, Int.reduceToNat, Int.reduceLE, Int.reduceLT, Int.reduceNeg, reduceCtorEq, Int.reduceEq, Int.reduceAdd, Int.reduceSub, Int.reduceMul, Nat.reduceSub]
    try omega
  · rintro ⟨⟩
    repeat' (first | omega | assumption | (show AL.ahead _ _ _ = true; rfl) | refine brF (fun _ => ?_) (fun _ => ?_) | refine brT (fun _ => ?_) (fun _ => ?_) | refine brVF (fun _ => ?_) (fun _ => ?_) | refine brVT (fun _ => ?_) (fun _ => ?_) | (with_reducible refine And.intro ?_ ?_) | (simp -dsimp -implicitDefEqProofs only [go_sem, ↓reduceIte, Nat.reduceEqDiff, Nat.reduceAdd, Nat.reduceMul, Nat.reduceLeDiff, Nat.reduceLT, Nat.reduceBEq, Nat.reducePow, Int.reduceToNat, Int.reduceLE, Int.reduceLT, Int.reduceNeg, reduceCtorEq, Int.reduceEq, Int.reduceAdd, Int.reduceSub, Int.reduceMul, Nat.reduceSub]))
    all_goals first | rfl | trace_state
theorem sumsB1_spec (nx tok : Nat) (t : Tx_) (ht : TxOk t) (hk : tok < 2 ∨ tok - 2 < nx) : FnSpec Tryz.prog 138 nx [.sl 40 [txA t] tok] [] (.aref (nx + 24) 0 [] 32 0 1) [(nx + 24, some (.obj (.vec 32 [sumA (txS t)])))] 300 := by
  have hsm := fun nc => txSum_spec nc t ht.b ht.k
  obtain ⟨s, hs⟩ : ∃ s : Bool → Sum, s = fun b => if b = true then txS t else zeroS := ⟨_, rfl⟩
  have s0 : s false = zeroS := by rw [hs]; rfl
  have s1 : s true = txS t := by rw [hs]; rfl
  refine FnSpec.of_code (cx := cx) (an := {mt := [8]}) (rs := [.tmp 2]) mo Tryz.func138 rfl rfl (by kernel_rfl) (by kernel_rfl) (by show 1 ≤ _; decide) (.inl rfl) (by simp [allWr, keys, Res.wr]) ?_
  repeat' (first | omega | assumption | (show AL.ahead _ _ _ = true; rfl) | refine brF (fun _ => ?_) (fun _ => ?_) | refine brT (fun _ => ?_) (fun _ => ?_) | refine brVF (fun _ => ?_) (fun _ => ?_) | refine brVT (fun _ => ?_) (fun _ => ?_) | (with_reducible refine And.intro ?_ ?_) | (simp -dsimp -implicitDefEqProofs only [go_sem, ↓reduceIte, Nat.reduceEqDiff, Nat.reduceAdd, Nat.reduceMul, Nat.reduceLeDiff, Nat.reduceLT, Nat.reduceBEq, Nat.reducePow, Int.reduceToNat, Int.reduceLE, Int.reduceLT, Int.reduceNeg, reduceCtorEq, Int.reduceEq, Int.reduceAdd, Int.reduceSub, Int.reduceMul, Nat.reduceSub, List.replicate]))
  apply loop_keep [3, 9, 10] (fun b : Bool => [(11, n64 (sn b))]) (fun b => [(nx + 24, some (.obj (.vec 32 [sumA (s b)])))]) (fun b => 1 - sk b) false
  · simp -dsimp -implicitDefEqProofs only [go_sem, ↓reduceIte, Nat.reduceEqDiff, Nat.reduceAdd, Nat.reduceMul, Nat.reduceLeDiff, Nat.reduceLT, Nat.reduceBEq, Nat.reducePow, Int.reduceToNat, Int.reduceLE, Int.reduceLT, Int.reduceNeg, reduceCtorEq, Int.reduceEq, Int.reduceAdd, Int.reduceSub, Int.reduceMul, Nat.reduceSub]; try rfl
  · simp -dsimp -implicitDefEqProofs only [go_sem, ↓reduceIte, Nat.reduceEqDiff, Nat.reduceAdd, Nat.reduceMul, Nat.reduceLeDiff, Nat.reduceLT, Nat.reduceBEq, Nat.reducePow, Int.reduceToNat, Int.reduceLE, Int.reduceLT, Int.reduceNeg, reduceCtorEq, Int.reduceEq, Int.reduceAdd, Int.reduceSub, Int.reduceMul, Nat.reduceSub, sn_f]; try rfl
  · simp -dsimp -implicitDefEqProofs only [go_sem, ↓reduceIte, Nat.reduceEqDiff, Nat.reduceAdd, Nat.reduceMul, Nat.reduceLeDiff, Nat.reduceLT, Nat.reduceBEq, Nat.reducePow, Int.reduceToNat, Int.reduceLE, Int.reduceLT, Int.reduceNeg, reduceCtorEq, Int.reduceEq, Int.reduceAdd, Int.reduceSub, Int.reduceMul, Nat.reduceSub, s0]; try rfl
  · intro s
    simp -dsimp -implicitDefEqProofs only [go_sem, ↓reduceIte, Nat.reduceEqDiff, Nat.reduceAdd, Nat.reduceMul, Nat.reduceLeDiff, Nat.reduceLT, Nat.reduceBEq, Nat.reducePow, Int.reduceToNat, Int.reduceLE, Int.reduceLT, Int.reduceNeg, reduceCtorEq, Int.reduceEq, Int.reduceAdd, Int.reduceSub, Int.reduceMul, Nat.reduceSub]
    try omega
  · rintro (_ | _)
    · repeat' (first | omega | assumption | (show AL.ahead _ _ _ = true; rfl) | refine brF (fun _ => ?_) (fun _ => ?_) | refine brT (fun _ => ?_) (fun _ => ?_) | refine brVF (fun _ => ?_) (fun _ => ?_) | refine brVT (fun _ => ?_) (fun _ => ?_) | (with_reducible refine And.intro ?_ ?_) | (refine callK_by (hsm _) ?_) | (simp -dsimp -implicitDefEqProofs only [go_sem, ↓reduceIte, Nat.reduceEqDiff, Nat.reduceAdd, Nat.reduceMul, Nat.reduceLeDiff, Nat.reduceLT, Nat.reduceBEq, Nat.reducePow, Int.reduceToNat, Int.reduceLE, Int.reduceLT, Int.reduceNeg, reduceCtorEq, Int.reduceEq, Int.reduceAdd, Int.reduceSub, Int.reduceMul, Nat.reduceSub, sn_f, w1_64, s0, List.set_cons_zero, List.getD_cons_zero]))
      all_goals first | exact ⟨true, by decide, rfl, by rw [s1]⟩ | trace_state
    · repeat' (first | omega | assumption | (show AL.ahead _ _ _ = true; rfl) | refine brF (fun _ => ?_) (fun _ => ?_) | refine brT (fun _ => ?_) (fun _ => ?_) | refine brVF (fun _ => ?_) (fun _ => ?_) | refine brVT (fun _ => ?_) (fun _ => ?_) | (with_reducible refine And.intro ?_ ?_) | (simp -dsimp -implicitDefEqProofs only [go_sem, ↓reduceIte, Nat.reduceEqDiff, Nat.reduceAdd, Nat.reduceMul, Nat.reduceLeDiff, Nat.reduceLT, Nat.reduceBEq, Nat.reducePow, Int.reduceToNat, Int.reduceLE, Int.reduceLT, Int.reduceNeg, reduceCtorEq, Int.reduceEq, Int.reduceAdd, Int.reduceSub, Int.reduceMul, Nat.reduceSub, sn_t, s1]))
      all_goals first | rfl | trace_state
theorem rootA0_spec (nx m : Nat) (hm : m < nx) : FnSpec Tryz.prog 137 nx [.aref m 0 [] 32 0 0] [] (sumA (joinS 3 [])) [] 0 := by
  refine FnSpec.of_code (cx := cx) (an := {}) (rs := [.cell 2 23]) mo Tryz.func137 rfl rfl (by kernel_rfl) (by kernel_rfl) (by show 1 ≤ _; decide) (.inl rfl) (by simp [allWr, keys, Res.wr]) ?_
  repeat' (first | omega | assumption | (show AL.ahead _ _ _ = true; rfl) | refine brF (fun _ => ?_) (fun _ => ?_) | refine brT (fun _ => ?_) (fun _ => ?_) | refine brVF (fun _ => ?_) (fun _ => ?_) | refine brVT (fun _ => ?_) (fun _ => ?_) | (with_reducible refine And.intro ?_ ?_) | (refine callK_by (joinNil_spec _ 3) ?_) | (simp -dsimp -implicitDefEqProofs only [go_sem, ↓reduceIte, Nat.reduceEqDiff, Nat.reduceAdd, Nat.reduceMul, Nat.reduceLeDiff, Nat.reduceLT, Nat.reduceBEq, Nat.reducePow, Int.reduceToNat, Int.reduceLE, Int.reduceLT, Int.reduceNeg, reduceCtorEq, Int.reduceEq, Int.reduceAdd, Int.reduceSub, Int.reduceMul, Nat.reduceSub]))
  all_goals first | rfl | trace_state
theorem rootA1_spec (nx m : Nat) (s : Sum) (hm : m < nx) : FnSpec Tryz.prog 137 nx [.aref m 0 [] 32 0 1] [(m, some (.robj (.vec 32 [sumA s])))] (sumA (leafS s)) [] 0 := by
  have x1 := ltF hm
  have hlv := fun nc (h : m < nc) => leavesA_spec nc m [s] (by simp) h
  simp only [List.map_cons, List.map_nil, sumsA, List.length_cons, List.length_nil, Nat.zero_add] at hlv
  refine FnSpec.of_code (cx := cx) (an := {}) (rs := [.cell 2 23]) mo Tryz.func137 rfl rfl (by kernel_rfl) (by kernel_rfl) (by show 1 ≤ _; decide) (.inl rfl) (by simp [allWr, keys, Res.wr]) ?_
  repeat' (first | omega | assumption | (show AL.ahead _ _ _ = true; rfl) | refine brF (fun _ => ?_) (fun _ => ?_) | refine brT (fun _ => ?_) (fun _ => ?_) | refine brVF (fun _ => ?_) (fun _ => ?_) | refine brVT (fun _ => ?_) (fun _ => ?_) | (with_reducible refine And.intro ?_ ?_) | (refine callK_by (hlv _ (by omega)) ?_) | (simp -dsimp -implicitDefEqProofs only [go_sem, ↓reduceIte, Nat.reduceEqDiff, Nat.reduceAdd, Nat.reduceMul, Nat.reduceLeDiff, Nat.reduceLT, Nat.reduceBEq, Nat.reducePow, Int.reduceToNat, Int.reduceLE, Int.reduceLT, Int.reduceNeg, reduceCtorEq, Int.reduceEq, Int.reduceAdd, Int.reduceSub, Int.reduceMul, Nat.reduceSub, x1, List.map_cons, List.map_nil]))
  apply loop_keep [2] (fun _ : Unit => [(3, .aref (nx + 80) 0 [] 32 0 1)]) (fun _ => [(nx + 80, some (.obj (.vec 32 [sumA (leafS s)]))), (nx, some (.obj (sumA zeroS)))]) (fun _ => 0) ()
  · simp -dsimp -implicitDefEqProofs only [go_sem, ↓reduceIte, Nat.reduceEqDiff, Nat.reduceAdd, Nat.reduceMul, Nat.reduceLeDiff, Nat.reduceLT, Nat.reduceBEq, Nat.reducePow, Int.reduceToNat, Int.reduceLE, Int.reduceLT, Int.reduceNeg, reduceCtorEq, Int.reduceEq, Int.reduceAdd, Int.reduceSub, Int.reduceMul, Nat.reduceSub]; try rfl
  · simp -dsimp -implicitDefEqProofs only [go_sem, ↓reduceIte, Nat.reduceEqDiff, Nat.reduceAdd, Nat.reduceMul, Nat.reduceLeDiff, Nat.reduceLT, Nat.reduceBEq, Nat.reducePow, Int.reduceToNat, Int.reduceLE, Int.reduceLT, Int.reduceNeg, reduceCtorEq, Int.reduceEq, Int.reduceAdd, Int.reduceSub, Int.reduceMul, Nat.reduceSub]; try rfl
  · simp -dsimp -implicitDefEqProofs only [go_sem, ↓reduceIte, Nat.reduceEqDiff, Nat.reduceAdd, Nat.reduceMul, Nat.reduceLeDiff, Nat.reduceLT, Nat.reduceBEq, Nat.reducePow, Int.reduceToNat, Int.reduceLE, Int.reduceLT, Int.reduceNeg, reduceCtorEq, Int.reduceEq, Int.reduceAdd, Int.reduceSub, Int.reduceMul, Nat.reduceSub, x1]; try rfl
  · intro s
    simp -dsimp -implicitDefEqProofs only [go_sem, ↓reduceIte, Nat.reduceEqDiff, Nat.reduceAdd, Nat.reduceMul, Nat.reduceLeDiff, Nat.reduceLT, Nat.reduceBEq, Nat.reducePow, Int.reduceToNat, Int.reduceLE, Int.reduceLT, Int.reduceNeg, reduceCtorEq, Int.reduceEq, Int.reduceAdd, Int.reduceSub, Int.reduceMul, Nat.reduceSub]
    try omega
  · rintro ⟨⟩
    repeat' (first | omega | assumption | (show AL.ahead _ _ _ = true; rfl) | refine brF (fun _ => ?_) (fun _ => ?_) | refine brT (fun _ => ?_) (fun _ => ?_) | refine brVF (fun _ => ?_) (fun _ => ?_) | refine brVT (fun _ => ?_) (fun _ => ?_) | (with_reducible refine And.intro ?_ ?_) | (simp -dsimp -implicitDefEqProofs only [go_sem, ↓reduceIte, Nat.reduceEqDiff, Nat.reduceAdd, Nat.reduceMul, Nat.reduceLeDiff, Nat.reduceLT, Nat.reduceBEq, Nat.reducePow, Int.reduceToNat, Int.reduceLE, Int.reduceLT, Int.reduceNeg, reduceCtorEq, Int.reduceEq, Int.reduceAdd, Int.reduceSub, Int.reduceMul, Nat.reduceSub]))
    all_goals first | rfl | trace_state
end Go.Proofs.YthfoeaokfhbdaaaGreat

/-
  Blocks that are made; a chain's heads.
-/
set_option linter.unusedSimpArgs false
set_option linter.unusedVariables false
set_option maxRecDepth 100000
set_option maxHeartbeats 2000000
namespace Go.Proofs.YthfoeaokfhbdaaaGreat
open Go Go.AL Go.Proofs.YthfoeaokfhbdaaaGreat.T
attribute [local go_sem] nb_u8s u8s_length nb_sum List.length_replicate zero_sum sum_h u8s_nil sums_len nb_sums sum_csz sum_agg sumA_good txA_good txA_csz txA_agg nb_tx nb_head
theorem make0_spec (nx : Nat) (h : Head_) (h0 : 0 ≤ h.height) (h1 : h.height < 1073741824) : FnSpec Tryz.prog 77 nx [headA h, .sl 0 [] 1] [] (.tup [.agg 67 [headA ⟨headS h, h.height + 1, joinS 3 [], 0⟩, .sl 40 [] (nx + 534)], n64 0]) [(nx + 532, some (.tail 0))] 600 := by
  have hh := fun nc => headSum_spec nc h
  simp only [headA] at hh
  have w1 : IntKind.i64.wrap (h.height + 1) = h.height + 1 := by rw [IntKind.wrap_i64]; omega
  have c1 : ¬ h.height < 0 := by omega
  have c2 : ¬ (1073741824 : Int) ≤ h.height := by omega
  refine FnSpec.of_code (cx := cx) (an := {}) (rs := [.cell 4 87, .tmp 5]) mo Tryz.func77 rfl rfl (by kernel_rfl) (by kernel_rfl) (by show 2 ≤ _; decide) (.inr ⟨_, rfl, by simp [AV.good, headA]⟩) (by simp [allWr, keys, Res.wr]) ?_
  repeat' (first | omega | assumption | (show AL.ahead _ _ _ = true; rfl) | refine brF (fun _ => ?_) (fun _ => ?_) | refine brT (fun _ => ?_) (fun _ => ?_) | refine brVF (fun _ => ?_) (fun _ => ?_) | refine brVT (fun _ => ?_) (fun _ => ?_) | (with_reducible refine And.intro ?_ ?_) | (refine callK_by (hh _) ?_) | (refine callK_by (sums0_spec _) ?_) | (refine callK_by (rootA0_spec _ (nx + 240) (by omega)) ?_) | (simp -dsimp -implicitDefEqProofs only [go_sem, ↓reduceIte, Nat.reduceEqDiff, Nat.reduceAdd, Nat.reduceMul, Nat.reduceLeDiff, Nat.reduceLT, Nat.reduceBEq, Nat.reducePow, Int.reduceToNat, Int.reduceLE, Int.reduceLT, Int.reduceNeg, reduceCtorEq, Int.reduceEq, Int.reduceAdd, Int.reduceSub, Int.reduceMul, Nat.reduceSub, headA, c1, c2, w1, ge_iff_le]))
  all_goals first | rfl | trace_state
theorem make1_spec (nx tok : Nat) (h : Head_) (t : Tx_) (ht : TxOk t) (h0 : 0 ≤ h.height) (h1 : h.height < 1073741824) (hk : tok < 2 ∨ tok - 2 < nx) : FnSpec Tryz.prog 77 nx [headA h, .sl 40 [txA t] tok] [] (.tup [.agg 67 [headA ⟨headS h, h.height + 1, leafS (txS t), 1⟩, .sl 40 [txA t] (nx + 534)], n64 0]) [(nx + 532, some (.tail 1))] 600 := by
  have hh := fun nc => headSum_spec nc h
  simp only [headA] at hh
  have w1 : IntKind.i64.wrap (h.height + 1) = h.height + 1 := by rw [IntKind.wrap_i64]; omega
  have c1 : ¬ h.height < 0 := by omega
  have c2 : ¬ (1073741824 : Int) ≤ h.height := by omega
  refine FnSpec.of_code (cx := cx) (an := {}) (rs := [.cell 4 87, .tmp 5]) mo Tryz.func77 rfl rfl (by kernel_rfl) (by kernel_rfl) (by show 2 ≤ _; decide) (.inr ⟨_, rfl, by simp [AV.good, headA]⟩) (by simp [allWr, keys, Res.wr]) ?_
  repeat' (first | omega | assumption | (show AL.ahead _ _ _ = true; rfl) | refine brF (fun _ => ?_) (fun _ => ?_) | refine brT (fun _ => ?_) (fun _ => ?_) | refine brVF (fun _ => ?_) (fun _ => ?_) | refine brVT (fun _ => ?_) (fun _ => ?_) | (with_reducible refine And.intro ?_ ?_) | (refine callK_by (hh _) ?_) | (refine callK_by (sumsB1_spec _ tok t ht (by omega)) ?_) | (refine callK_by (rootA1_spec _ (nx + 240) (txS t) (by omega)) ?_) | (simp -dsimp -implicitDefEqProofs only [go_sem, ↓reduceIte, Nat.reduceEqDiff, Nat.reduceAdd, Nat.reduceMul, Nat.reduceLeDiff, Nat.reduceLT, Nat.reduceBEq, Nat.reducePow, Int.reduceToNat, Int.reduceLE, Int.reduceLT, Int.reduceNeg, reduceCtorEq, Int.reduceEq, Int.reduceAdd, Int.reduceSub, Int.reduceMul, Nat.reduceSub, headA, c1, c2, w1, ge_iff_le]))
  all_goals first | rfl | trace_state
theorem right1_spec (nx tok : Nat) (a : Sum) (ht : Int) (t : Tx_) (hT : TxOk t) (h0 : 0 ≤ ht) (h1 : ht ≤ 1073741824) (hk : tok < 2 ∨ tok - 2 < nx) : FnSpec Tryz.prog 78 nx [.agg 67 [headA ⟨a, ht, leafS (txS t), 1⟩, .sl 40 [txA t] tok]] [] (bA true) [] 0 := by
  have e1 : eqB (AV.vec 1 (u8s (leafS (txS t)).b)) (AV.vec 1 (u8s (leafS (txS t)).b)) = true := eqB_yes rfl
  have c1 : ht ≥ 0 := h0
  have r1 := fun nc (q : nx ≤ nc) => sumsB1_spec nc tok t hT (by omega)
  have r2 := fun nc (q : nx + 328 < nc) => rootA1_spec nc (nx + 328) (txS t) q
  simp only [sumA] at r1 r2
  refine FnSpec.of_code (cx := cx) (an := {}) (rs := [.tmp 2]) mo Tryz.func78 rfl rfl (by kernel_rfl) (by kernel_rfl) (by show 1 ≤ _; decide) (.inl rfl) (by simp [allWr, keys, Res.wr]) ?_
  repeat' (first | omega | assumption | (show AL.ahead _ _ _ = true; rfl) | refine brF (fun _ => ?_) (fun _ => ?_) | refine brT (fun _ => ?_) (fun _ => ?_) | refine brVF (fun _ => ?_) (fun _ => ?_) | refine brVT (fun _ => ?_) (fun _ => ?_) | (with_reducible refine And.intro ?_ ?_) | (refine callK_by (r1 _ (by omega)) ?_) | (refine callK_by (r2 _ (by omega)) ?_) | (simp -dsimp -implicitDefEqProofs only [go_sem, ↓reduceIte, Nat.reduceEqDiff, Nat.reduceAdd, Nat.reduceMul, Nat.reduceLeDiff, Nat.reduceLT, Nat.reduceBEq, Nat.reducePow, Int.reduceToNat, Int.reduceLE, Int.reduceLT, Int.reduceNeg, reduceCtorEq, Int.reduceEq, Int.reduceAdd, Int.reduceSub, Int.reduceMul, Nat.reduceSub, headA, c1, h1, sumA, e1, ↓cmp_sum, isSumT]))
  all_goals first | rfl | trace_state
end Go.Proofs.YthfoeaokfhbdaaaGreat

/-
  Two sums that are reckoned: of a first out, and of what spends it.
-/
set_option linter.unusedSimpArgs false
set_option linter.unusedVariables false
set_option maxRecDepth 100000
set_option maxHeartbeats 2000000
namespace Go.Proofs.YthfoeaokfhbdaaaGreat
open Go Go.AL
theorem numI_lit (n : Int) (h : 0 ≤ n) (h2 : n < 128) : numI n = [UInt8.ofNat n.toNat] := by
  have e : numV n = n.toNat := by simp only [numV, IntKind.wrap_u64]; omega
  rw [numI, e, numN_small (by omega)]

noncomputable def id1 : Sum := txS (txO [toO 1 5])
noncomputable def tx1 (os : List Out_) : Tx_ := ⟨[⟨⟨id1, 0⟩, 0, []⟩], os, opZ, []⟩
theorem n0 : numI 0 = [0] := numI_lit 0 (by decide) (by decide)
theorem n1 : numI 1 = [1] := numI_lit 1 (by decide) (by decide)
theorem n2 : numI 2 = [2] := numI_lit 2 (by decide) (by decide)
theorem n4 : numI 4 = [4] := numI_lit 4 (by decide) (by decide)
theorem n5 : numI 5 = [5] := numI_lit 5 (by decide) (by decide)
theorem body1 : bodyL false (txO [toO 1 5]) = [0, 1, 5, 1, 1, 1] ++ List.replicate 32 0 ++ [0, 0] ++ [0, 0, 0, 0] ++ List.replicate 32 0 ++ [0] := by
  simp only [bodyL, txO, toO, opZ, inL, outL, wayL, opL, zeroS, List.length_cons, List.length_nil, List.flatMap_cons, List.flatMap_nil, Nat.zero_add, Int.natCast_zero, Int.cast_ofNat_Int, Int.natCast_one, n0, n1, n5, List.append_nil, List.nil_append]
  rfl
theorem id1_eq : id1.b = [138, 4, 24, 214, 199, 194, 139, 96, 145, 89, 127, 179, 144, 51, 208, 158, 29, 134, 88, 184, 20, 202, 124, 7, 216, 90, 161, 105, 179, 154, 110, 200] := by
  show shaOf (joinL 41 [bodyL false (txO [toO 1 5])]) = _
  rw [body1]
  decide +kernel
theorem body2 : bodyL false (tx1 [toO 2 4]) = [1] ++ id1.b ++ [0, 0] ++ [1, 4, 1, 1, 2] ++ List.replicate 32 0 ++ [0, 0] ++ [0, 0, 0, 0] ++ List.replicate 32 0 ++ [0] := by
  simp only [bodyL, tx1, toO, opZ, inL, outL, wayL, opL, zeroS, List.length_cons, List.length_nil, List.flatMap_cons, List.flatMap_nil, Nat.zero_add, Int.natCast_zero, Int.cast_ofNat_Int, Int.natCast_one, n0, n1, n2, n4, List.append_nil, List.nil_append, Bool.false_eq_true, if_false]
  simp only [List.append_assoc, List.cons_append, List.nil_append]
theorem id2_eq : (txS (tx1 [toO 2 4])).b = [251, 83, 93, 123, 138, 207, 100, 84, 134, 137, 201, 54, 250, 198, 242, 177, 222, 251, 0, 66, 32, 20, 135, 224, 140, 236, 134, 194, 2, 237, 142, 77] := by
  show shaOf (joinL 41 [bodyL false (tx1 [toO 2 4])]) = _
  rw [body2, id1_eq]
  decide +kernel
theorem body3 : bodyL false (tx1 []) = [1] ++ id1.b ++ [0, 0] ++ [0] ++ [0, 0, 0, 0] ++ List.replicate 32 0 ++ [0] := by
  simp only [bodyL, tx1, toO, opZ, inL, outL, wayL, opL, zeroS, List.length_cons, List.length_nil, List.flatMap_cons, List.flatMap_nil, Nat.zero_add, Int.natCast_zero, Int.cast_ofNat_Int, Int.natCast_one, n0, n1, n2, n4, List.append_nil, List.nil_append, Bool.false_eq_true, if_false]
  simp only [List.append_assoc, List.cons_append, List.nil_append]
theorem id3_eq : (txS (tx1 [])).b = [158, 179, 78, 84, 14, 84, 99, 40, 98, 74, 80, 232, 125, 21, 37, 161, 114, 93, 202, 98, 249, 184, 123, 90, 170, 221, 159, 230, 232, 235, 221, 125] := by
  show shaOf (joinL 41 [bodyL false (tx1 [])]) = _
  rw [body3, id1_eq]
  decide +kernel
theorem id2_ne : txS (tx1 [toO 2 4]) ≠ id1 := fun h => by
  have := congrArg Sum.b h
  rw [id2_eq, id1_eq] at this
  exact absurd this (by decide)
theorem id3_ne : txS (tx1 []) ≠ id1 := fun h => by
  have := congrArg Sum.b h
  rw [id3_eq, id1_eq] at this
  exact absurd this (by decide)
end Go.Proofs.YthfoeaokfhbdaaaGreat

/-
  A view of one coin: all its coins, and how much they are.
-/
import Derived.Test.YthfoeaokfhbdaaaGreatDP75
set_option linter.unusedSimpArgs false
set_option linter.unusedVariables false
set_option maxRecDepth 100000
set_option maxHeartbeats 2000000
namespace Go.Proofs.YthfoeaokfhbdaaaGreat
open Go Go.AL Go.Proofs.YthfoeaokfhbdaaaGreat.T
def rowA (p : Ref_ × Coin_) : AV := .agg 36 [refA p.1, coinA p.2]
theorem rowA_good (r : Ref_ × Coin_) : (rowA r).good = true := rfl
theorem rowA_agg (r : Ref_ × Coin_) : (rowA r).isAgg = true := rfl
theorem rowA_csz (r : Ref_ × Coin_) : (rowA r).csize = 36 := rfl
theorem nb_row {m : Nat} (r : Ref_ × Coin_) : AV.nb m (rowA r) = True := by simp [rowA, AV.nb, AV.nbs, nb_ref, nb_coin]
attribute [local go_sem] nb_u8s u8s_length nb_sum List.length_replicate zero_sum sum_h u8s_nil rowA_good rowA_agg rowA_csz nb_row nb_ref nb_coin refA_good refA_agg refA_csz coinA_good coinA_agg coinA_csz nbK_ref nbV_coin kk_ref k1_ref
theorem len64_one (nx : Nat) : FnSpec Tryz.prog 229 nx [.val (.int .u64 1)] [] (n64 1) [] 0 := by
  refine FnSpec.of_code (cx := cx) (an := {}) (rs := [.tmp 2]) mo Tryz.func229 rfl rfl (by kernel_rfl) (by kernel_rfl) (by show 1 ≤ _; decide) (.inl rfl) (by simp [allWr, keys, Res.wr]) ?_
  repeat' (first | omega | assumption | (show AL.ahead _ _ _ = true; rfl) | refine brF (fun _ => ?_) (fun _ => ?_) | refine brT (fun _ => ?_) (fun _ => ?_) | refine brVF (fun _ => ?_) (fun _ => ?_) | refine brVT (fun _ => ?_) (fun _ => ?_) | (with_reducible refine And.intro ?_ ?_) | (simp -dsimp -implicitDefEqProofs only [go_sem, ↓reduceIte, Nat.reduceEqDiff, Nat.reduceAdd, Nat.reduceMul, Nat.reduceLeDiff, Nat.reduceLT, Nat.reduceBEq, Nat.reducePow, Int.reduceToNat, Int.reduceLE, Int.reduceLT, Int.reduceNeg, reduceCtorEq, Int.reduceEq, Int.reduceAdd, Int.reduceSub, Int.reduceMul, Nat.reduceSub]))
  all_goals first | kernel_rfl | decide +kernel | trace_state
theorem len_one (nx : Nat) : FnSpec Tryz.prog 204 nx [.val (.int .u64 1)] [] (n64 1) [] 0 := by
  refine FnSpec.of_code (cx := cx) (an := {}) (rs := [.tmp 2]) mo Tryz.func204 rfl rfl (by kernel_rfl) (by kernel_rfl) (by show 1 ≤ _; decide) (.inl rfl) (by simp [allWr, keys, Res.wr]) ?_
  repeat' (first | omega | assumption | (show AL.ahead _ _ _ = true; rfl) | refine brF (fun _ => ?_) (fun _ => ?_) | refine brT (fun _ => ?_) (fun _ => ?_) | refine brVF (fun _ => ?_) (fun _ => ?_) | refine brVT (fun _ => ?_) (fun _ => ?_) | (with_reducible refine And.intro ?_ ?_) | (refine callK_by (len64_one _) ?_) | (simp -dsimp -implicitDefEqProofs only [go_sem, ↓reduceIte, Nat.reduceEqDiff, Nat.reduceAdd, Nat.reduceMul, Nat.reduceLeDiff, Nat.reduceLT, Nat.reduceBEq, Nat.reducePow, Int.reduceToNat, Int.reduceLE, Int.reduceLT, Int.reduceNeg, reduceCtorEq, Int.reduceEq, Int.reduceAdd, Int.reduceSub, Int.reduceMul, Nat.reduceSub]))
  all_goals trace_state
theorem insRow_spec (nx t : Nat) (x : AV) (f : Nat) (hx : ∀ m, x.nb m) (ht : t < 2 ∨ t - 2 < nx) : FnSpec Tryz.prog 220 nx [.sl 36 [x] t, n64 0, n64 1, .clos f []] [] (.tup []) [] 0 := by
  refine FnSpec.of_code (cx := cx) (an := {}) (rs := []) mo Tryz.func220 rfl rfl (by kernel_rfl) (by kernel_rfl) (by show 4 ≤ _; decide) (.inr ⟨_, rfl, by simp [AV.good]⟩) (by simp [allWr, keys, Res.wr]) ?_
  repeat' (first | omega | assumption | (show AL.ahead _ _ _ = true; rfl) | refine brF (fun _ => ?_) (fun _ => ?_) | refine brT (fun _ => ?_) (fun _ => ?_) | refine brVF (fun _ => ?_) (fun _ => ?_) | refine brVT (fun _ => ?_) (fun _ => ?_) | (with_reducible refine And.intro ?_ ?_) | (simp -dsimp -implicitDefEqProofs only [go_sem, ↓reduceIte, Nat.reduceEqDiff, Nat.reduceAdd, Nat.reduceMul, Nat.reduceLeDiff, Nat.reduceLT, Nat.reduceBEq, Nat.reducePow, Int.reduceToNat, Int.reduceLE, Int.reduceLT, Int.reduceNeg, reduceCtorEq, Int.reduceEq, Int.reduceAdd, Int.reduceSub, Int.reduceMul, Nat.reduceSub, w1_64]))
  apply loop_keep [0, 1, 2, 3] (fun _ : Unit => [(8, n64 1)]) (fun _ => []) (fun _ => 0) ()
  · simp -dsimp -implicitDefEqProofs only [go_sem, ↓reduceIte, Nat.reduceEqDiff, Nat.reduceAdd, Nat.reduceMul, Nat.reduceLeDiff, Nat.reduceLT, Nat.reduceBEq, Nat.reducePow, Int.reduceToNat, Int.reduceLE, Int.reduceLT, Int.reduceNeg, reduceCtorEq, Int.reduceEq, Int.reduceAdd, Int.reduceSub, Int.reduceMul, Nat.reduceSub]; rfl
  · simp -dsimp -implicitDefEqProofs only [go_sem, ↓reduceIte, Nat.reduceEqDiff, Nat.reduceAdd, Nat.reduceMul, Nat.reduceLeDiff, Nat.reduceLT, Nat.reduceBEq, Nat.reducePow, Int.reduceToNat, Int.reduceLE, Int.reduceLT, Int.reduceNeg, reduceCtorEq, Int.reduceEq, Int.reduceAdd, Int.reduceSub, Int.reduceMul, Nat.reduceSub]; try rfl
  · simp -dsimp -implicitDefEqProofs only [go_sem, ↓reduceIte, Nat.reduceEqDiff, Nat.reduceAdd, Nat.reduceMul, Nat.reduceLeDiff, Nat.reduceLT, Nat.reduceBEq, Nat.reducePow, Int.reduceToNat, Int.reduceLE, Int.reduceLT, Int.reduceNeg, reduceCtorEq, Int.reduceEq, Int.reduceAdd, Int.reduceSub, Int.reduceMul, Nat.reduceSub]; try rfl
  · intro s
    simp -dsimp -implicitDefEqProofs only [go_sem, ↓reduceIte, Nat.reduceEqDiff, Nat.reduceAdd, Nat.reduceMul, Nat.reduceLeDiff, Nat.reduceLT, Nat.reduceBEq, Nat.reducePow, Int.reduceToNat, Int.reduceLE, Int.reduceLT, Int.reduceNeg, reduceCtorEq, Int.reduceEq, Int.reduceAdd, Int.reduceSub, Int.reduceMul, Nat.reduceSub, hx]
    try omega
  · rintro ⟨⟩
    repeat' (first | omega | assumption | (show AL.ahead _ _ _ = true; rfl) | refine brF (fun _ => ?_) (fun _ => ?_) | refine brT (fun _ => ?_) (fun _ => ?_) | refine brVF (fun _ => ?_) (fun _ => ?_) | refine brVT (fun _ => ?_) (fun _ => ?_) | (with_reducible refine And.intro ?_ ?_) | (simp -dsimp -implicitDefEqProofs only [go_sem, ↓reduceIte, Nat.reduceEqDiff, Nat.reduceAdd, Nat.reduceMul, Nat.reduceLeDiff, Nat.reduceLT, Nat.reduceBEq, Nat.reducePow, Int.reduceToNat, Int.reduceLE, Int.reduceLT, Int.reduceNeg, reduceCtorEq, Int.reduceEq, Int.reduceAdd, Int.reduceSub, Int.reduceMul, Nat.reduceSub, w1_64]))
theorem pdqRow_spec (nx t : Nat) (x : AV) (f : Nat) (hx : ∀ m, x.nb m) (ht : t < 2 ∨ t - 2 < nx) : FnSpec Tryz.prog 203 nx [.sl 36 [x] t, n64 0, n64 1, n64 1, .clos f []] [] (.tup []) [] 0 := by
  refine FnSpec.of_code (cx := cx) (an := {}) (rs := []) mo Tryz.func203 rfl rfl (by kernel_rfl) (by kernel_rfl) (by show 5 ≤ _; decide) (.inr ⟨_, rfl, by simp [AV.good]⟩) (by simp [allWr, keys, Res.wr]) ?_
  repeat' (first | omega | assumption | (show AL.ahead _ _ _ = true; rfl) | refine brF (fun _ => ?_) (fun _ => ?_) | refine brT (fun _ => ?_) (fun _ => ?_) | refine brVF (fun _ => ?_) (fun _ => ?_) | refine brVT (fun _ => ?_) (fun _ => ?_) | (with_reducible refine And.intro ?_ ?_) | (simp -dsimp -implicitDefEqProofs only [go_sem, ↓reduceIte, Nat.reduceEqDiff, Nat.reduceAdd, Nat.reduceMul, Nat.reduceLeDiff, Nat.reduceLT, Nat.reduceBEq, Nat.reducePow, Int.reduceToNat, Int.reduceLE, Int.reduceLT, Int.reduceNeg, reduceCtorEq, Int.reduceEq, Int.reduceAdd, Int.reduceSub, Int.reduceMul, Nat.reduceSub, w1_64]))
  apply loop_keep [0, 4] (fun _ : Unit => [(1, n64 0), (2, n64 1), (3, n64 1), (10, bA true), (11, bA true)]) (fun _ => []) (fun _ => 0) ()
  · simp -dsimp -implicitDefEqProofs only [go_sem, ↓reduceIte, Nat.reduceEqDiff, Nat.reduceAdd, Nat.reduceMul, Nat.reduceLeDiff, Nat.reduceLT, Nat.reduceBEq, Nat.reducePow, Int.reduceToNat, Int.reduceLE, Int.reduceLT, Int.reduceNeg, reduceCtorEq, Int.reduceEq, Int.reduceAdd, Int.reduceSub, Int.reduceMul, Nat.reduceSub]; rfl
  · simp -dsimp -implicitDefEqProofs only [go_sem, ↓reduceIte, Nat.reduceEqDiff, Nat.reduceAdd, Nat.reduceMul, Nat.reduceLeDiff, Nat.reduceLT, Nat.reduceBEq, Nat.reducePow, Int.reduceToNat, Int.reduceLE, Int.reduceLT, Int.reduceNeg, reduceCtorEq, Int.reduceEq, Int.reduceAdd, Int.reduceSub, Int.reduceMul, Nat.reduceSub]; try rfl
  · simp -dsimp -implicitDefEqProofs only [go_sem, ↓reduceIte, Nat.reduceEqDiff, Nat.reduceAdd, Nat.reduceMul, Nat.reduceLeDiff, Nat.reduceLT, Nat.reduceBEq, Nat.reducePow, Int.reduceToNat, Int.reduceLE, Int.reduceLT, Int.reduceNeg, reduceCtorEq, Int.reduceEq, Int.reduceAdd, Int.reduceSub, Int.reduceMul, Nat.reduceSub]; try rfl
  · intro s
    simp -dsimp -implicitDefEqProofs only [go_sem, ↓reduceIte, Nat.reduceEqDiff, Nat.reduceAdd, Nat.reduceMul, Nat.reduceLeDiff, Nat.reduceLT, Nat.reduceBEq, Nat.reducePow, Int.reduceToNat, Int.reduceLE, Int.reduceLT, Int.reduceNeg, reduceCtorEq, Int.reduceEq, Int.reduceAdd, Int.reduceSub, Int.reduceMul, Nat.reduceSub, hx]
    try omega
  · rintro ⟨⟩
    repeat' (first | omega | assumption | (show AL.ahead _ _ _ = true; rfl) | refine brF (fun _ => ?_) (fun _ => ?_) | refine brT (fun _ => ?_) (fun _ => ?_) | refine brVF (fun _ => ?_) (fun _ => ?_) | refine brVT (fun _ => ?_) (fun _ => ?_) | (with_reducible refine And.intro ?_ ?_) | (refine callK_by (insRow_spec _ t x f hx (by omega)) ?_) | (simp -dsimp -implicitDefEqProofs only [go_sem, ↓reduceIte, Nat.reduceEqDiff, Nat.reduceAdd, Nat.reduceMul, Nat.reduceLeDiff, Nat.reduceLT, Nat.reduceBEq, Nat.reducePow, Int.reduceToNat, Int.reduceLE, Int.reduceLT, Int.reduceNeg, reduceCtorEq, Int.reduceEq, Int.reduceAdd, Int.reduceSub, Int.reduceMul, Nat.reduceSub, w1_64]))
    all_goals trace_state
theorem sortRow_spec (nx t : Nat) (x : AV) (f : Nat) (hx : ∀ m, x.nb m) (ht : t < 2 ∨ t - 2 < nx) : FnSpec Tryz.prog 171 nx [.sl 36 [x] t, .clos f []] [] (.tup []) [] 0 := by
  refine FnSpec.of_code (cx := cx) (an := {}) (rs := []) mo Tryz.func171 rfl rfl (by kernel_rfl) (by kernel_rfl) (by show 2 ≤ _; decide) (.inr ⟨_, rfl, by simp [AV.good]⟩) (by simp [allWr, keys, Res.wr]) ?_
  repeat' (first | omega | assumption | (show AL.ahead _ _ _ = true; rfl) | refine brF (fun _ => ?_) (fun _ => ?_) | refine brT (fun _ => ?_) (fun _ => ?_) | refine brVF (fun _ => ?_) (fun _ => ?_) | refine brVT (fun _ => ?_) (fun _ => ?_) | (with_reducible refine And.intro ?_ ?_) | (refine callK_by (pdqRow_spec _ t x f hx (by omega)) ?_) | (refine callK_by (len_one _) ?_) | (simp -dsimp -implicitDefEqProofs only [go_sem, ↓reduceIte, Nat.reduceEqDiff, Nat.reduceAdd, Nat.reduceMul, Nat.reduceLeDiff, Nat.reduceLT, Nat.reduceBEq, Nat.reducePow, Int.reduceToNat, Int.reduceLE, Int.reduceLT, Int.reduceNeg, reduceCtorEq, Int.reduceEq, Int.reduceAdd, Int.reduceSub, Int.reduceMul, Nat.reduceSub]))
  all_goals trace_state
theorem perm_one {α : Type} {a : α} {l : List α} (h : l.Perm [a]) : l = [a] := List.perm_singleton.1 h
/-- what was seen of one entry: nothing, or it -/
theorem seen_one (se : Seen 1) : se.1 = [] ∨ se.1 = [0] := by
  obtain ⟨se, h1, h2⟩ := se
  cases se with
  | nil => exact .inl rfl
  | cons a r =>
    right
    have ha := h2 a List.mem_cons_self
    have : a = 0 := by omega
    subst this
    cases r with
    | nil => rfl
    | cons b r =>
      have hb := h2 b (List.mem_cons_of_mem _ List.mem_cons_self)
      have : b = 0 := by omega
      subst this
      simp at h1
noncomputable def cn0 : Ref_ × Coin_ := (⟨zeroS, 0⟩, ⟨⟨0, []⟩, 0⟩)
theorem vall_one (nx v vm : Nat) (p : Ref_ × Coin_) (hv : v < nx) (hm : vm < nx) (hne : v ≠ vm) :
    FnSpec Tryz.prog 129 nx [.ref v 0 []] (viewR v vm [p]) (.sl 36 [rowA p] 0) [] 0 := by
  have x1 := ltF hv
  have x2 := ltF hm
  have x3 := neF hne
  have hso := fun nc (q : nx + 25 < nc) => sortRow_spec nc (nx + 27) (rowA p) 172 (fun m => by rw [nb_row]; trivial) (by omega)
  have hnb : ∀ (m : Nat) (se : List Nat), AV.nbs m (se.map fun _ => rowA p) = True := fun m se => by
    simp only [eq_iff_iff, iff_true]
    exact nbs_map (fun s => by rw [nb_row]; trivial) se
  have h : FnSpec Tryz.prog 129 nx [.ref v 0 []] (viewR v vm [p]) (.sl 36 [rowA p] (nx + 27)) [(nx + 25, some (.tail 1))] 2000 := by
    refine FnSpec.of_code (cx := cx) (an := {tk := [(3, [([], 36)])], vw := [4], nxt := [5]}) (rs := [.tmp 2]) mo Tryz.func129 rfl rfl (by kernel_rfl) (by kernel_rfl) (by show 1 ≤ _; decide) (.inl rfl) (by simp [allWr, keys, Res.wr]) ?_
    repeat' (first | omega | assumption | (show AL.ahead _ _ _ = true; rfl) | refine brF (fun _ => ?_) (fun _ => ?_) | refine brT (fun _ => ?_) (fun _ => ?_) | refine brVF (fun _ => ?_) (fun _ => ?_) | refine brVT (fun _ => ?_) (fun _ => ?_) | (with_reducible refine And.intro ?_ ?_) | (refine callK_by (vnone_spec _ v vm (by omega)) ?_) | (simp -dsimp -implicitDefEqProofs only [go_sem, ↓reduceIte, Nat.reduceEqDiff, Nat.reduceAdd, Nat.reduceMul, Nat.reduceLeDiff, Nat.reduceLT, Nat.reduceBEq, Nat.reducePow, Int.reduceToNat, Int.reduceLE, Int.reduceLT, Int.reduceNeg, reduceCtorEq, Int.reduceEq, Int.reduceAdd, Int.reduceSub, Int.reduceMul, Nat.reduceSub, x1, x2, x3]))
    refine view_enc (kA := refA) (vA := coinA) vm [p] (by simp only [Heap.get, x2, x3, if_true, if_false]) (fun l' bs clk hp => ?_)
    obtain rfl := perm_one hp
    repeat' (first | omega | assumption | (show AL.ahead _ _ _ = true; rfl) | refine brF (fun _ => ?_) (fun _ => ?_) | refine brT (fun _ => ?_) (fun _ => ?_) | refine brVF (fun _ => ?_) (fun _ => ?_) | refine brVT (fun _ => ?_) (fun _ => ?_) | (with_reducible refine And.intro ?_ ?_) | (simp -dsimp -implicitDefEqProofs only [go_sem, ↓reduceIte, Nat.reduceEqDiff, Nat.reduceAdd, Nat.reduceMul, Nat.reduceLeDiff, Nat.reduceLT, Nat.reduceBEq, Nat.reducePow, Int.reduceToNat, Int.reduceLE, Int.reduceLT, Int.reduceNeg, reduceCtorEq, Int.reduceEq, Int.reduceAdd, Int.reduceSub, Int.reduceMul, Nat.reduceSub, x1, x2, x3]))
    apply loop_keep [12] (fun se : Seen 1 => [(3, .sl 36 (se.1.map fun _ => rowA p) (nx + 27))]) (fun se => [(nx + 25, some (.tail se.1.length)), (nx + 64, some (.itr vm bs clk se.1)), (vm, some (.xmp (coinsE [p]) bs clk))]) (fun se => 1 - se.1.length) Seen.nil
    · simp -dsimp -implicitDefEqProofs only [go_sem, ↓reduceIte, Nat.reduceEqDiff, Nat.reduceAdd, Nat.reduceMul, Nat.reduceLeDiff, Nat.reduceLT, Nat.reduceBEq, Nat.reducePow, Int.reduceToNat, Int.reduceLE, Int.reduceLT, Int.reduceNeg, reduceCtorEq, Int.reduceEq, Int.reduceAdd, Int.reduceSub, Int.reduceMul, Nat.reduceSub]; try rfl
    · simp -dsimp -implicitDefEqProofs only [go_sem, ↓reduceIte, Nat.reduceEqDiff, Nat.reduceAdd, Nat.reduceMul, Nat.reduceLeDiff, Nat.reduceLT, Nat.reduceBEq, Nat.reducePow, Int.reduceToNat, Int.reduceLE, Int.reduceLT, Int.reduceNeg, reduceCtorEq, Int.reduceEq, Int.reduceAdd, Int.reduceSub, Int.reduceMul, Nat.reduceSub]; try rfl
    · simp -dsimp -implicitDefEqProofs only [go_sem, ↓reduceIte, Nat.reduceEqDiff, Nat.reduceAdd, Nat.reduceMul, Nat.reduceLeDiff, Nat.reduceLT, Nat.reduceBEq, Nat.reducePow, Int.reduceToNat, Int.reduceLE, Int.reduceLT, Int.reduceNeg, reduceCtorEq, Int.reduceEq, Int.reduceAdd, Int.reduceSub, Int.reduceMul, Nat.reduceSub, x1, x2, x3]; try exact ⟨rfl, rfl⟩
    · intro s
      simp -dsimp -implicitDefEqProofs only [go_sem, ↓reduceIte, Nat.reduceEqDiff, Nat.reduceAdd, Nat.reduceMul, Nat.reduceLeDiff, Nat.reduceLT, Nat.reduceBEq, Nat.reducePow, Int.reduceToNat, Int.reduceLE, Int.reduceLT, Int.reduceNeg, reduceCtorEq, Int.reduceEq, Int.reduceAdd, Int.reduceSub, Int.reduceMul, Nat.reduceSub, hnb]
      try omega
    · intro se
      simp -dsimp -implicitDefEqProofs only [go_sem, ↓reduceIte, Nat.reduceEqDiff, Nat.reduceAdd, Nat.reduceMul, Nat.reduceLeDiff, Nat.reduceLT, Nat.reduceBEq, Nat.reducePow, Int.reduceToNat, Int.reduceLE, Int.reduceLT, Int.reduceNeg, reduceCtorEq, Int.reduceEq, Int.reduceAdd, Int.reduceSub, Int.reduceMul, Nat.reduceSub, x1, x2, x3]
      refine steps_by (fun j hj => se.2.2 j hj) (fun hall => ?_) (fun i hi hni => ?_)
      · have h0 : 0 ∈ se.1 := hall 0 (by rw [enc_len]; exact Nat.zero_lt_one)
        have h1 : se.1 = [0] := (seen_one se).resolve_left (fun q => by rw [q] at h0; simp at h0)
        have h2 : se.1.map (fun _ => rowA p) = [rowA p] := by rw [h1]; rfl
        have h3 : se.1.length = 1 := by rw [h1]; rfl
        repeat' (first | omega | assumption | (show AL.ahead _ _ _ = true; rfl) | refine brF (fun _ => ?_) (fun _ => ?_) | refine brT (fun _ => ?_) (fun _ => ?_) | refine brVF (fun _ => ?_) (fun _ => ?_) | refine brVT (fun _ => ?_) (fun _ => ?_) | (with_reducible refine And.intro ?_ ?_) | (refine callK_by (hso _ (by omega)) ?_) | (simp -dsimp -implicitDefEqProofs only [go_sem, ↓reduceIte, Nat.reduceEqDiff, Nat.reduceAdd, Nat.reduceMul, Nat.reduceLeDiff, Nat.reduceLT, Nat.reduceBEq, Nat.reducePow, Int.reduceToNat, Int.reduceLE, Int.reduceLT, Int.reduceNeg, reduceCtorEq, Int.reduceEq, Int.reduceAdd, Int.reduceSub, Int.reduceMul, Nat.reduceSub, h2, h3]))
        all_goals first | exact ⟨rfl, rfl⟩ | rfl | trace_state
      · rw [enc_len] at hi
        have hi0 : i = 0 := by simpa using hi
        subst hi0
        have h1 : se.1 = [] := (seen_one se).resolve_right (fun q => hni (by rw [q]; simp))
        have h2 : se.1.map (fun _ => rowA p) = [] := by rw [h1]; rfl
        have h3 : se.1.length = 0 := by rw [h1]; rfl
        have hg := enc_get (kA := refA) (vA := coinA) (d := cn0) hi
        have hp0 : (([p] : List (Ref_ × Coin_)).getD 0 cn0) = p := rfl
        rw [hp0] at hg
        repeat' (first | omega | assumption | (show AL.ahead _ _ _ = true; rfl) | refine brF (fun _ => ?_) (fun _ => ?_) | refine brT (fun _ => ?_) (fun _ => ?_) | refine brVF (fun _ => ?_) (fun _ => ?_) | refine brVT (fun _ => ?_) (fun _ => ?_) | (with_reducible refine And.intro ?_ ?_) | (simp -dsimp -implicitDefEqProofs only [go_sem, ↓reduceIte, Nat.reduceEqDiff, Nat.reduceAdd, Nat.reduceMul, Nat.reduceLeDiff, Nat.reduceLT, Nat.reduceBEq, Nat.reducePow, Int.reduceToNat, Int.reduceLE, Int.reduceLT, Int.reduceNeg, reduceCtorEq, Int.reduceEq, Int.reduceAdd, Int.reduceSub, Int.reduceMul, Nat.reduceSub, x1, x2, x3, hg, h2, h3, List.append_eq, List.cons_append, List.nil_append]))
        all_goals first
          | exact ⟨⟨[0], by decide⟩, by decide, rfl, rfl, by rw [h1]⟩
          | trace_state
  exact h.forget ⟨rfl, .inr ⟨.inl rfl, .inl rfl⟩⟩ (by simp [AV.nb, AV.nbs, nb_row]) trivial (fun n hn => by simp [keys] at hn) (fun m hm _ => by
    simp [keys] at hm; subst hm; exact ⟨by simp [Heap.get, x1, x2], by omega⟩)
theorem vtotal_one (nx v vm : Nat) (p : Ref_ × Coin_) (hv : v < nx) (hm : vm < nx) (hne : v ≠ vm) (ha : addF 0 [0, p.2.out.amount] = (p.2.out.amount, 0)) :
    FnSpec Tryz.prog 65 nx [.ref v 0 []] (viewR v vm [p]) (.tup [n64 p.2.out.amount, n64 0]) [] 0 := by
  have x1 := ltF hv
  have x2 := ltF hm
  have x3 := neF hne
  have had := fun nc => add_spec nc [0, p.2.out.amount] (by simp)
  rw [ha] at had
  simp only [vals, List.map_cons, List.map_nil] at had
  have hal := fun nc (q1 : v < nc) (q2 : vm < nc) => vall_one nc v vm p q1 q2 hne
  obtain ⟨s, hs⟩ : ∃ s : Bool → Int, s = fun b => if b = true then p.2.out.amount else 0 := ⟨_, rfl⟩
  have s0 : s false = 0 := by rw [hs]; rfl
  have s1 : s true = p.2.out.amount := by rw [hs]; rfl
  refine FnSpec.of_code (cx := cx) (an := {}) (rs := [.tmp 2, .tmp 3]) mo Tryz.func65 rfl rfl (by kernel_rfl) (by kernel_rfl) (by show 1 ≤ _; decide) (.inr ⟨_, rfl, by simp [AV.good]⟩) (by simp [allWr, keys, Res.wr]) ?_
  repeat' (first | omega | assumption | (show AL.ahead _ _ _ = true; rfl) | refine brF (fun _ => ?_) (fun _ => ?_) | refine brT (fun _ => ?_) (fun _ => ?_) | refine brVF (fun _ => ?_) (fun _ => ?_) | refine brVT (fun _ => ?_) (fun _ => ?_) | (with_reducible refine And.intro ?_ ?_) | (refine callK_by (hal _ (by omega) (by omega)) ?_) | (simp -dsimp -implicitDefEqProofs only [go_sem, ↓reduceIte, Nat.reduceEqDiff, Nat.reduceAdd, Nat.reduceMul, Nat.reduceLeDiff, Nat.reduceLT, Nat.reduceBEq, Nat.reducePow, Int.reduceToNat, Int.reduceLE, Int.reduceLT, Int.reduceNeg, reduceCtorEq, Int.reduceEq, Int.reduceAdd, Int.reduceSub, Int.reduceMul, Nat.reduceSub, x1, x2, x3]))
  apply loop_keep [10, 11] (fun b : Bool => [(4, n64 (s b)), (12, n64 (sn b))]) (fun _ => []) (fun b => 1 - sk b) false
  · simp -dsimp -implicitDefEqProofs only [go_sem, ↓reduceIte, Nat.reduceEqDiff, Nat.reduceAdd, Nat.reduceMul, Nat.reduceLeDiff, Nat.reduceLT, Nat.reduceBEq, Nat.reducePow, Int.reduceToNat, Int.reduceLE, Int.reduceLT, Int.reduceNeg, reduceCtorEq, Int.reduceEq, Int.reduceAdd, Int.reduceSub, Int.reduceMul, Nat.reduceSub]; try rfl
  · simp -dsimp -implicitDefEqProofs only [go_sem, ↓reduceIte, Nat.reduceEqDiff, Nat.reduceAdd, Nat.reduceMul, Nat.reduceLeDiff, Nat.reduceLT, Nat.reduceBEq, Nat.reducePow, Int.reduceToNat, Int.reduceLE, Int.reduceLT, Int.reduceNeg, reduceCtorEq, Int.reduceEq, Int.reduceAdd, Int.reduceSub, Int.reduceMul, Nat.reduceSub, s0, sn_f]; try rfl
  · simp -dsimp -implicitDefEqProofs only [go_sem, ↓reduceIte, Nat.reduceEqDiff, Nat.reduceAdd, Nat.reduceMul, Nat.reduceLeDiff, Nat.reduceLT, Nat.reduceBEq, Nat.reducePow, Int.reduceToNat, Int.reduceLE, Int.reduceLT, Int.reduceNeg, reduceCtorEq, Int.reduceEq, Int.reduceAdd, Int.reduceSub, Int.reduceMul, Nat.reduceSub, x1, x2, x3]; try rfl
  · intro b
    simp -dsimp -implicitDefEqProofs only [go_sem, ↓reduceIte, Nat.reduceEqDiff, Nat.reduceAdd, Nat.reduceMul, Nat.reduceLeDiff, Nat.reduceLT, Nat.reduceBEq, Nat.reducePow, Int.reduceToNat, Int.reduceLE, Int.reduceLT, Int.reduceNeg, reduceCtorEq, Int.reduceEq, Int.reduceAdd, Int.reduceSub, Int.reduceMul, Nat.reduceSub]
    try omega
  · rintro (_ | _)
    · repeat' (first | omega | assumption | (show AL.ahead _ _ _ = true; rfl) | refine brF (fun _ => ?_) (fun _ => ?_) | refine brT (fun _ => ?_) (fun _ => ?_) | refine brVF (fun _ => ?_) (fun _ => ?_) | refine brVT (fun _ => ?_) (fun _ => ?_) | (with_reducible refine And.intro ?_ ?_) | (refine callK_by (had _) ?_) | (simp -dsimp -implicitDefEqProofs only [go_sem, ↓reduceIte, Nat.reduceEqDiff, Nat.reduceAdd, Nat.reduceMul, Nat.reduceLeDiff, Nat.reduceLT, Nat.reduceBEq, Nat.reducePow, Int.reduceToNat, Int.reduceLE, Int.reduceLT, Int.reduceNeg, reduceCtorEq, Int.reduceEq, Int.reduceAdd, Int.reduceSub, Int.reduceMul, Nat.reduceSub, s0, sn_f, sk_f, w1_64, rowA, coinA, outA, nb_ways, refA]))
      all_goals first | exact ⟨true, by decide, by rw [s1], rfl⟩ | trace_state
    · repeat' (first | omega | assumption | (show AL.ahead _ _ _ = true; rfl) | refine brF (fun _ => ?_) (fun _ => ?_) | refine brT (fun _ => ?_) (fun _ => ?_) | refine brVF (fun _ => ?_) (fun _ => ?_) | refine brVT (fun _ => ?_) (fun _ => ?_) | (with_reducible refine And.intro ?_ ?_) | (simp -dsimp -implicitDefEqProofs only [go_sem, ↓reduceIte, Nat.reduceEqDiff, Nat.reduceAdd, Nat.reduceMul, Nat.reduceLeDiff, Nat.reduceLT, Nat.reduceBEq, Nat.reducePow, Int.reduceToNat, Int.reduceLE, Int.reduceLT, Int.reduceNeg, reduceCtorEq, Int.reduceEq, Int.reduceAdd, Int.reduceSub, Int.reduceMul, Nat.reduceSub, s1, sn_t, sk_t, w1_64]))
      all_goals trace_state
theorem lworth_one (nx : Nat) (n : LN) (x : LS) (p : Ref_ × Coin_) (hn : n.ok nx) (hc : x.coins = [p]) (ha : addF 0 [0, p.2.out.amount] = (p.2.out.amount, 0)) :
    FnSpec Tryz.prog 15 nx [.ref n.l 0 []] [(n.l, some (.robj (ledA n x))), (n.v, some (.robj (.agg 1 [.map n.vm]))), (n.vm, some (.rmp (coinsE x.coins))), (n.b, some (.robj (boardA n.tm n.hm))), (n.tm, some (.rmp (towsE x.towers)))] (n64 (w64 (w64 (p.2.out.amount + totT x.towers) + x.fees))) [] 0 := by
  have xf := hn.xf
  have yf := hn.nf
  have hlt := hn.lt
  have b1 := hn.ne.2.1.1
  have b2 := hn.ne.2.2.2.1.1
  have htv := fun nc (q1 : n.v < nc) (q2 : n.vm < nc) => vtotal_one nc n.v n.vm p q1 q2 b1 ha
  have hbt := fun nc (q1 : n.b < nc) (q2 : n.tm < nc) => btotal_spec nc n.b n.tm n.hm x.towers q1 q2 b2
  rw [hc]
  refine FnSpec.of_code (cx := cx) (an := {}) (rs := [.tmp 2]) mo Tryz.func15 rfl rfl (by kernel_rfl) (by kernel_rfl) (by show 1 ≤ _; decide) (.inl rfl) (by simp [allWr, keys, Res.wr]) ?_
  repeat' (first | omega | assumption | (show AL.ahead _ _ _ = true; rfl) | refine brF (fun _ => ?_) (fun _ => ?_) | refine brT (fun _ => ?_) (fun _ => ?_) | refine brVF (fun _ => ?_) (fun _ => ?_) | refine brVT (fun _ => ?_) (fun _ => ?_) | (with_reducible refine And.intro ?_ ?_) | (refine callK_by (lnone_spec _ n x (by omega)) ?_) | (refine callK_by (htv _ (by omega) (by omega)) ?_) | (refine callK_by (hbt _ (by omega) (by omega)) ?_) | (simp -dsimp -implicitDefEqProofs only [go_sem, ↓reduceIte, Nat.reduceEqDiff, Nat.reduceAdd, Nat.reduceMul, Nat.reduceLeDiff, Nat.reduceLT, Nat.reduceBEq, Nat.reducePow, Int.reduceToNat, Int.reduceLE, Int.reduceLT, Int.reduceNeg, reduceCtorEq, Int.reduceEq, Int.reduceAdd, Int.reduceSub, Int.reduceMul, Nat.reduceSub, xf, yf, ledA]))
  all_goals first | rfl | trace_state
end Go.Proofs.YthfoeaokfhbdaaaGreat

/-
  Ledgers: what a transaction that comes does.
-/
set_option linter.unusedSimpArgs false
set_option linter.unusedVariables false
set_option maxRecDepth 100000
set_option maxHeartbeats 2000000
namespace Go.Proofs.YthfoeaokfhbdaaaGreat
open Go Go.AL Go.Proofs.YthfoeaokfhbdaaaGreat.T
/-- coins that are taken out, one behind the other -/
noncomputable def takeAll : List In_ → List (Ref_ × Coin_) → List (Ref_ × Coin_)
  | [], cs => cs
  | y :: r, cs => takeAll r (delM y.ref cs)
/-- by what they are spent -/
noncomputable def spendAll (id : Sum) (h : Int) : List In_ → List (Ref_ × Spend_) → List (Ref_ × Spend_)
  | [], s => s
  | y :: r, s => spendAll id h r (setM y.ref ⟨id, y.way, h⟩ s)
theorem takeAll_snoc (y : In_) : ∀ (l : List In_) (cs : List (Ref_ × Coin_)), takeAll (l ++ [y]) cs = delM y.ref (takeAll l cs)
  | [], cs => rfl
  | a :: l, cs => by simp only [List.cons_append, takeAll]; exact takeAll_snoc y l _
theorem spendAll_snoc (id : Sum) (h : Int) (y : In_) : ∀ (l : List In_) (s : List (Ref_ × Spend_)), spendAll id h (l ++ [y]) s = setM y.ref ⟨id, y.way, h⟩ (spendAll id h l s)
  | [], s => rfl
  | a :: l, s => by simp only [List.cons_append, spendAll]; exact spendAll_snoc id h y l _
/-- what a ledger is behind a transaction that came -/
noncomputable def applyS (t : Tx_) (h fee : Int) (ts : List (Int × Tw_)) (hs : List ((Int × Int) × Hold_)) (x : LS) : LS :=
  comeS (txS t) t h { x with coins := takeAll t.ins x.coins, towers := ts, holds := hs, spent := spendAll (txS t) h t.ins x.spent, fees := w64 (x.fees + fee) }
/-- a transaction's lists are of lengths that there are -/
structure TxOk (t : Tx_) : Prop where
  l : txL t
  b : (bodyL true t).length < 2 ^ 38
  k : ∀ o ∈ t.outs, ∀ w ∈ o.ways, w.keys.length < 2 ^ 32
  p : ∀ y ∈ t.ins, y.pre.length < 2 ^ 39
/-- a ledger's coins have ways of lengths that there are -/
def CoOk (cs : List (Ref_ × Coin_)) : Prop := ∀ p ∈ cs, p.2.out.ways.length < 2 ^ 40 ∧ ∀ w ∈ p.2.out.ways, w.keys.length < 2 ^ 32
theorem setM_mem {K V : Type} {k : K} {v : V} : ∀ {l : List (K × V)} {p : K × V}, p ∈ setM k v l → p = (k, v) ∨ p ∈ l
  | [], p, h => by simp [setM] at h; exact .inl h
  | (a, u) :: r, p, h => by
    simp only [setM] at h
    split at h
    · rcases List.mem_cons.1 h with q | q
      · exact .inl q
      · exact .inr (List.mem_cons_of_mem _ q)
    · rcases List.mem_cons.1 h with q | q
      · exact .inr (by rw [q]; exact List.mem_cons_self)
      · rcases setM_mem q with q | q
        · exact .inl q
        · exact .inr (List.mem_cons_of_mem _ q)
theorem putAll_ok (id : Sum) (h : Int) : ∀ (os : List Out_) (i : Nat) (cs : List (Ref_ × Coin_)), CoOk cs → (∀ o ∈ os, o.ways.length < 2 ^ 40 ∧ ∀ w ∈ o.ways, w.keys.length < 2 ^ 32) → CoOk (putAll id h os i cs)
  | [], _, cs, h1, _ => h1
  | o :: r, i, cs, h1, h2 => by
    refine putAll_ok id h r (i + 1) _ (fun p hp => ?_) (fun q hq => h2 q (List.mem_cons_of_mem _ hq))
    unfold putL at hp
    split at hp
    · rcases setM_mem hp with q | q
      · rw [q]; exact h2 o List.mem_cons_self
      · exact h1 p q
    · exact h1 p hp
theorem takeAll_sub : ∀ (l : List In_) (cs : List (Ref_ × Coin_)) (p : Ref_ × Coin_), p ∈ takeAll l cs → p ∈ cs
  | [], _, _, h => h
  | y :: r, cs, p, h => (delM_sub cs).subset (takeAll_sub r _ p h)
theorem applyS_ok {t : Tx_} {h fee : Int} {ts : List (Int × Tw_)} {hs : List ((Int × Int) × Hold_)} {x : LS} (hx : CoOk x.coins) (ht : TxOk t) : CoOk (applyS t h fee ts hs x).coins :=
  putAll_ok _ _ _ _ _ (fun p hp => hx p (takeAll_sub _ _ _ hp)) (fun o ho => ⟨(ht.l.2.2.2.2.2 o ho).1, ht.k o ho⟩)
theorem applyS_order (t : Tx_) (h fee : Int) (ts : List (Int × Tw_)) (hs : List ((Int × Int) × Hold_)) (x : LS) : (applyS t h fee ts hs x).order = x.order ++ [txS t] := rfl
/-- what is read of a ledger, and a board of its own -/
abbrev effH (n : LN) (x : LS) (b tm hm : Nat) : Heap := [(n.l, some (.robj (ledA n x))), (n.d, some (.rmp (donesE x.done))), (n.s, some (.rmp (spentE x.spent))), (b, some (.robj (boardA tm hm))), (tm, some (.mp (towsE x.towers))), (hm, some (.mp (holdsE x.holds)))]
/-- what an op does: how much goes in, how much comes out, why not; and what becomes of the board -/
def EffSpec (t : Tx_) (h : Int) (x : LS) (i o e : Int) (ts : List (Int × Tw_)) (hs : List ((Int × Int) × Hold_)) : Prop :=
  ∀ nx n b tm hm, n.ok nx → b < nx → tm < nx → hm < nx → n.l < b ∧ n.d < b ∧ n.s < b ∧ b < tm ∧ tm < hm →
    FnSpec Tryz.prog 59 nx [.ref n.l 0 [], .ref b 0 [], txA t, n64 h] (effH n x b tm hm) (.tup [n64 i, n64 o, n64 e]) [(tm, some (.mp (towsE ts))), (hm, some (.mp (holdsE hs)))] 0
attribute [local go_sem] nb_u8s u8s_length nb_sum List.length_replicate zero_sum sum_h nb_vals vals_len u8s_nil txA_good txA_csz txA_agg nb_tx tA_len
theorem eff_none (t : Tx_) (h : Int) (x : LS) (h0 : t.op.kind = 0) : EffSpec t h x 0 0 0 x.towers x.holds := by
  intro nx n b tm hm hn hb ht hh hlt
  have xf := hn.xf
  have yf := hn.nf
  have x0 := ltF hb
  have x1 := ltF ht
  have x2 := ltF hh
  have z1 := neF (show tm ≠ hm by omega)
  have z2 := neF (show b ≠ hm by omega)
  have z3 := neF (show b ≠ tm by omega)
  have z4 := neF (show n.l ≠ b by omega)
  have z5 := neF (show n.l ≠ tm by omega)
  have z6 := neF (show n.l ≠ hm by omega)
  have z7 := neF (show n.d ≠ b by omega)
  have z8 := neF (show n.d ≠ tm by omega)
  have z9 := neF (show n.d ≠ hm by omega)
  have z10 := neF (show n.s ≠ b by omega)
  have z11 := neF (show n.s ≠ tm by omega)
  have z12 := neF (show n.s ≠ hm by omega)
  refine FnSpec.of_code (cx := cx) (an := {}) (rs := [.tmp 8, .tmp 9, .tmp 10]) mo Tryz.func59 rfl rfl (by kernel_rfl) (by kernel_rfl) (by show 4 ≤ _; decide) (.inr ⟨_, rfl, by simp [AV.good]⟩) (by simp [allWr, keys, Res.wr]) ?_
  repeat' (first | omega | assumption | (show AL.ahead _ _ _ = true; rfl) | refine brF (fun _ => ?_) (fun _ => ?_) | refine brT (fun _ => ?_) (fun _ => ?_) | refine brVF (fun _ => ?_) (fun _ => ?_) | refine brVT (fun _ => ?_) (fun _ => ?_) | (with_reducible refine And.intro ?_ ?_) | (simp -dsimp -implicitDefEqProofs only [go_sem, ↓reduceIte, Nat.reduceEqDiff, Nat.reduceAdd, Nat.reduceMul, Nat.reduceLeDiff, Nat.reduceLT, Nat.reduceBEq, Nat.reducePow, Int.reduceToNat, Int.reduceLE, Int.reduceLT, Int.reduceNeg, reduceCtorEq, Int.reduceEq, Int.reduceAdd, Int.reduceSub, Int.reduceMul, Nat.reduceSub, oA_p2, oA_off2, opT, h0, xf, yf, x0, x1, x2, z1, z2, z3, z4, z5, z6, z7, z8, z9, z10, z11, z12, nbK_int, nbK_pair, nbV_tow, nbV_hold]))
  all_goals trace_state
end Go.Proofs.YthfoeaokfhbdaaaGreat

/-
  Two sums that are reckoned: of a first out, and of what spends it.
-/
set_option linter.unusedSimpArgs false
set_option linter.unusedVariables false
set_option maxRecDepth 100000
set_option maxHeartbeats 2000000
namespace Go.Proofs.YthfoeaokfhbdaaaGreat
open Go Go.AL
theorem numI_lit (n : Int) (h : 0 ≤ n) (h2 : n < 128) : numI n = [UInt8.ofNat n.toNat] := by
  have e : numV n = n.toNat := by simp only [numV, IntKind.wrap_u64]; omega
  rw [numI, e, numN_small (by omega)]

noncomputable def id1 : Sum := txS (txO [toO 1 5])
noncomputable def tx1 (os : List Out_) : Tx_ := ⟨[⟨⟨id1, 0⟩, 0, []⟩], os, opZ, []⟩
theorem n0 : numI 0 = [0] := numI_lit 0 (by decide) (by decide)
theorem n1 : numI 1 = [1] := numI_lit 1 (by decide) (by decide)
theorem n2 : numI 2 = [2] := numI_lit 2 (by decide) (by decide)
theorem n4 : numI 4 = [4] := numI_lit 4 (by decide) (by decide)
theorem n5 : numI 5 = [5] := numI_lit 5 (by decide) (by decide)
theorem body1 : bodyL false (txO [toO 1 5]) = [0, 1, 5, 1, 1, 1] ++ List.replicate 32 0 ++ [0, 0] ++ [0, 0, 0, 0] ++ List.replicate 32 0 ++ [0] := by
  simp only [bodyL, txO, toO, opZ, inL, outL, wayL, opL, zeroS, List.length_cons, List.length_nil, List.flatMap_cons, List.flatMap_nil, Nat.zero_add, Int.natCast_zero, Int.cast_ofNat_Int, Int.natCast_one, n0, n1, n5, List.append_nil, List.nil_append]
  rfl
theorem id1_eq : id1.b = [138, 4, 24, 214, 199, 194, 139, 96, 145, 89, 127, 179, 144, 51, 208, 158, 29, 134, 88, 184, 20, 202, 124, 7, 216, 90, 161, 105, 179, 154, 110, 200] := by
  show shaOf (joinL 41 [bodyL false (txO [toO 1 5])]) = _
  rw [body1]
  decide +kernel
theorem body2 : bodyL false (tx1 [toO 2 4]) = [1] ++ id1.b ++ [0, 0] ++ [1, 4, 1, 1, 2] ++ List.replicate 32 0 ++ [0, 0] ++ [0, 0, 0, 0] ++ List.replicate 32 0 ++ [0] := by
  simp only [bodyL, tx1, toO, opZ, inL, outL, wayL, opL, zeroS, List.length_cons, List.length_nil, List.flatMap_cons, List.flatMap_nil, Nat.zero_add, Int.natCast_zero, Int.cast_ofNat_Int, Int.natCast_one, n0, n1, n2, n4, List.append_nil, List.nil_append, Bool.false_eq_true, if_false]
  simp only [List.append_assoc, List.cons_append, List.nil_append]
theorem id2_eq : (txS (tx1 [toO 2 4])).b = [251, 83, 93, 123, 138, 207, 100, 84, 134, 137, 201, 54, 250, 198, 242, 177, 222, 251, 0, 66, 32, 20, 135, 224, 140, 236, 134, 194, 2, 237, 142, 77] := by
  show shaOf (joinL 41 [bodyL false (tx1 [toO 2 4])]) = _
  rw [body2, id1_eq]
  decide +kernel
theorem body3 : bodyL false (tx1 []) = [1] ++ id1.b ++ [0, 0] ++ [0] ++ [0, 0, 0, 0] ++ List.replicate 32 0 ++ [0] := by
  simp only [bodyL, tx1, toO, opZ, inL, outL, wayL, opL, zeroS, List.length_cons, List.length_nil, List.flatMap_cons, List.flatMap_nil, Nat.zero_add, Int.natCast_zero, Int.cast_ofNat_Int, Int.natCast_one, n0, n1, n2, n4, List.append_nil, List.nil_append, Bool.false_eq_true, if_false]
  simp only [List.append_assoc, List.cons_append, List.nil_append]
theorem id3_eq : (txS (tx1 [])).b = [158, 179, 78, 84, 14, 84, 99, 40, 98, 74, 80, 232, 125, 21, 37, 161, 114, 93, 202, 98, 249, 184, 123, 90, 170, 221, 159, 230, 232, 235, 221, 125] := by
  show shaOf (joinL 41 [bodyL false (tx1 [])]) = _
  rw [body3, id1_eq]
  decide +kernel
theorem id2_ne : txS (tx1 [toO 2 4]) ≠ id1 := fun h => by
  have := congrArg Sum.b h
  rw [id2_eq, id1_eq] at this
  exact absurd this (by decide)
theorem id3_ne : txS (tx1 []) ≠ id1 := fun h => by
  have := congrArg Sum.b h
  rw [id3_eq, id1_eq] at this
  exact absurd this (by decide)
end Go.Proofs.YthfoeaokfhbdaaaGreat

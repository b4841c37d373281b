/-
  The coins that are not spent: looked up, put in, taken out.
-/
import Derived.Test.YthfoeaokfhbdaaaGreatDP72
import Derived.Test.YthfoeaokfhbdaaaGreatDP22
set_option linter.unusedSimpArgs false
set_option linter.unusedVariables false
set_option maxRecDepth 100000
set_option maxHeartbeats 1000000
namespace Go.Proofs.YthfoeaokfhbdaaaGreat
open Go Go.AL Go.Proofs.YthfoeaokfhbdaaaGreat.T
abbrev viewH (v vm : Nat) (l : List (Ref_ × Coin_)) : Heap := [(v, some (.obj (.agg 1 [.map vm]))), (vm, some (.mp (coinsE l)))]
abbrev viewR (v vm : Nat) (l : List (Ref_ × Coin_)) : Heap := [(v, some (.robj (.agg 1 [.map vm]))), (vm, some (.rmp (coinsE l)))]
abbrev viewW (v vm : Nat) (l : List (Ref_ × Coin_)) : Heap := [(v, some (.robj (.agg 1 [.map vm]))), (vm, some (.mp (coinsE l)))]
theorem o_some {α β : Type} {f : α → β} {a : α} : Option.map f (some a) = some (f a) := rfl
theorem o_none {α β : Type} {f : α → β} : Option.map f none = none := rfl
attribute [local go_sem] nb_u8s u8s_length nb_sum List.length_replicate zero_sum sum_h u8s_nil nb_ref nb_out1 nb_coin refA_good refA_agg refA_csz outA_good outA_agg outA_csz coinA_good coinA_agg coinA_csz nbK_ref nbV_coin kk_ref k1_ref o_some o_none Option.getD_some Option.getD_none Option.isSome_some Option.isSome_none
theorem newv_spec (nx : Nat) : FnSpec Tryz.prog 130 nx [] [] (.ref (nx + 24) 0 []) (viewH (nx + 24) (nx + 8) []) 40 := by
  refine FnSpec.of_code (cx := cx) (an := {mt := [3]}) (rs := [.tmp 0]) mo Tryz.func130 rfl rfl (by kernel_rfl) (by kernel_rfl) (by show 0 ≤ _; decide) (.inl rfl) (by simp [allWr, keys, Res.wr]) ?_
  repeat' (first | omega | assumption | (show AL.ahead _ _ _ = true; rfl) | refine brF (fun _ => ?_) (fun _ => ?_) | refine brT (fun _ => ?_) (fun _ => ?_) | refine brVF (fun _ => ?_) (fun _ => ?_) | refine brVT (fun _ => ?_) (fun _ => ?_) | (with_reducible refine And.intro ?_ ?_) | (simp -dsimp -implicitDefEqProofs only [go_sem, ↓reduceIte, Nat.reduceEqDiff, Nat.reduceAdd, Nat.reduceMul, Nat.reduceLeDiff, Nat.reduceLT, Nat.reduceBEq, Nat.reducePow, Int.reduceToNat, Int.reduceLE, Int.reduceLT, Int.reduceNeg, reduceCtorEq, Int.reduceEq, Int.reduceAdd, Int.reduceSub, Int.reduceMul, Nat.reduceSub, enc_nil]))
  all_goals first | rfl | trace_state
theorem vnone_spec (nx v vm : Nat) (hv : v < nx) : FnSpec Tryz.prog 126 nx [.ref v 0 []] [(v, some (.robj (.agg 1 [.map vm])))] (bA false) [] 0 := by
  have x1 := ltF hv
  refine FnSpec.of_code (cx := cx) (an := {}) (rs := [.tmp 2]) mo Tryz.func126 rfl rfl (by kernel_rfl) (by kernel_rfl) (by show 1 ≤ _; decide) (.inl rfl) (by simp [allWr, keys, Res.wr]) ?_
  repeat' (first | omega | assumption | (show AL.ahead _ _ _ = true; rfl) | refine brF (fun _ => ?_) (fun _ => ?_) | refine brT (fun _ => ?_) (fun _ => ?_) | refine brVF (fun _ => ?_) (fun _ => ?_) | refine brVT (fun _ => ?_) (fun _ => ?_) | (with_reducible refine And.intro ?_ ?_) | (simp -dsimp -implicitDefEqProofs only [go_sem, ↓reduceIte, Nat.reduceEqDiff, Nat.reduceAdd, Nat.reduceMul, Nat.reduceLeDiff, Nat.reduceLT, Nat.reduceBEq, Nat.reducePow, Int.reduceToNat, Int.reduceLE, Int.reduceLT, Int.reduceNeg, reduceCtorEq, Int.reduceEq, Int.reduceAdd, Int.reduceSub, Int.reduceMul, Nat.reduceSub, x1]))
  all_goals trace_state
theorem vget_spec (nx v vm : Nat) (l : List (Ref_ × Coin_)) (r : Ref_) (hv : v < nx) (hm : vm < nx) (hne : v ≠ vm) :
    FnSpec Tryz.prog 111 nx [.ref v 0 [], refA r] (viewR v vm l) (.tup [optC (lookM r l), bA (lookM r l).isSome]) [] 0 := by
  have x1 := ltF hv
  have x2 := ltF hm
  have x3 := neF hne
  cases h : lookM r l with
  | none =>
    refine FnSpec.of_code (cx := cx) (an := {}) (rs := [.cell 4 146, .tmp 5]) mo Tryz.func111 rfl rfl (by kernel_rfl) (by kernel_rfl) (by show 2 ≤ _; decide) (.inr ⟨_, rfl, by simp [AV.good, optC, coinA, h]⟩) (by simp [allWr, keys, Res.wr]) ?_
    repeat' (first | omega | assumption | (show AL.ahead _ _ _ = true; rfl) | refine brF (fun _ => ?_) (fun _ => ?_) | refine brT (fun _ => ?_) (fun _ => ?_) | refine brVF (fun _ => ?_) (fun _ => ?_) | refine brVT (fun _ => ?_) (fun _ => ?_) | (with_reducible refine And.intro ?_ ?_) | (refine callK_by (vnone_spec _ v vm (by omega)) ?_) | (simp -dsimp -implicitDefEqProofs only [go_sem, ↓reduceIte, Nat.reduceEqDiff, Nat.reduceAdd, Nat.reduceMul, Nat.reduceLeDiff, Nat.reduceLT, Nat.reduceBEq, Nat.reducePow, Int.reduceToNat, Int.reduceLE, Int.reduceLT, Int.reduceNeg, reduceCtorEq, Int.reduceEq, Int.reduceAdd, Int.reduceSub, Int.reduceMul, Nat.reduceSub, x1, x2, x3, h, lookA_enc refA_inj, optC]))
    all_goals trace_state
  | some c =>
    refine FnSpec.of_code (cx := cx) (an := {}) (rs := [.cell 4 146, .tmp 5]) mo Tryz.func111 rfl rfl (by kernel_rfl) (by kernel_rfl) (by show 2 ≤ _; decide) (.inr ⟨_, rfl, by simp [AV.good, optC, coinA, h]⟩) (by simp [allWr, keys, Res.wr]) ?_
    repeat' (first | omega | assumption | (show AL.ahead _ _ _ = true; rfl) | refine brF (fun _ => ?_) (fun _ => ?_) | refine brT (fun _ => ?_) (fun _ => ?_) | refine brVF (fun _ => ?_) (fun _ => ?_) | refine brVT (fun _ => ?_) (fun _ => ?_) | (with_reducible refine And.intro ?_ ?_) | (refine callK_by (vnone_spec _ v vm (by omega)) ?_) | (simp -dsimp -implicitDefEqProofs only [go_sem, ↓reduceIte, Nat.reduceEqDiff, Nat.reduceAdd, Nat.reduceMul, Nat.reduceLeDiff, Nat.reduceLT, Nat.reduceBEq, Nat.reducePow, Int.reduceToNat, Int.reduceLE, Int.reduceLT, Int.reduceNeg, reduceCtorEq, Int.reduceEq, Int.reduceAdd, Int.reduceSub, Int.reduceMul, Nat.reduceSub, x1, x2, x3, h, lookA_enc refA_inj, optC]))
    all_goals trace_state
theorem vhas_spec (nx v vm : Nat) (l : List (Ref_ × Coin_)) (r : Ref_) (hv : v < nx) (hm : vm < nx) (hne : v ≠ vm) :
    FnSpec Tryz.prog 127 nx [.ref v 0 [], refA r] (viewR v vm l) (bA (lookM r l).isSome) [] 0 := by
  have x1 := ltF hv
  have x2 := ltF hm
  have x3 := neF hne
  cases h : lookM r l with
  | none =>
    refine FnSpec.of_code (cx := cx) (an := {}) (rs := [.tmp 4]) mo Tryz.func127 rfl rfl (by kernel_rfl) (by kernel_rfl) (by show 2 ≤ _; decide) (.inl rfl) (by simp [allWr, keys, Res.wr]) ?_
    repeat' (first | omega | assumption | (show AL.ahead _ _ _ = true; rfl) | refine brF (fun _ => ?_) (fun _ => ?_) | refine brT (fun _ => ?_) (fun _ => ?_) | refine brVF (fun _ => ?_) (fun _ => ?_) | refine brVT (fun _ => ?_) (fun _ => ?_) | (with_reducible refine And.intro ?_ ?_) | (simp -dsimp -implicitDefEqProofs only [go_sem, ↓reduceIte, Nat.reduceEqDiff, Nat.reduceAdd, Nat.reduceMul, Nat.reduceLeDiff, Nat.reduceLT, Nat.reduceBEq, Nat.reducePow, Int.reduceToNat, Int.reduceLE, Int.reduceLT, Int.reduceNeg, reduceCtorEq, Int.reduceEq, Int.reduceAdd, Int.reduceSub, Int.reduceMul, Nat.reduceSub, x1, x2, x3, h, lookA_enc refA_inj, optC]))
    all_goals trace_state
  | some c =>
    refine FnSpec.of_code (cx := cx) (an := {}) (rs := [.tmp 4]) mo Tryz.func127 rfl rfl (by kernel_rfl) (by kernel_rfl) (by show 2 ≤ _; decide) (.inl rfl) (by simp [allWr, keys, Res.wr]) ?_
    repeat' (first | omega | assumption | (show AL.ahead _ _ _ = true; rfl) | refine brF (fun _ => ?_) (fun _ => ?_) | refine brT (fun _ => ?_) (fun _ => ?_) | refine brVF (fun _ => ?_) (fun _ => ?_) | refine brVT (fun _ => ?_) (fun _ => ?_) | (with_reducible refine And.intro ?_ ?_) | (simp -dsimp -implicitDefEqProofs only [go_sem, ↓reduceIte, Nat.reduceEqDiff, Nat.reduceAdd, Nat.reduceMul, Nat.reduceLeDiff, Nat.reduceLT, Nat.reduceBEq, Nat.reducePow, Int.reduceToNat, Int.reduceLE, Int.reduceLT, Int.reduceNeg, reduceCtorEq, Int.reduceEq, Int.reduceAdd, Int.reduceSub, Int.reduceMul, Nat.reduceSub, x1, x2, x3, h, lookA_enc refA_inj, optC]))
    all_goals trace_state
theorem coin_mk (o : Out_) (h : Int) : AV.agg 3 [outA o, n64 h] = coinA ⟨o, h⟩ := rfl
/-- why a coin is not put in -/
noncomputable def putE (r : Ref_) (o : Out_) (h : Int) (l : List (Ref_ × Coin_)) : Int := @ite _ (outB o = false ∨ h < 0 ∨ 1073741824 < h) (Classical.propDecidable _) 1 (if (lookM r l).isSome then 8 else 0)
noncomputable def putL (r : Ref_) (o : Out_) (h : Int) (l : List (Ref_ × Coin_)) : List (Ref_ × Coin_) := if putE r o h l = 0 then setM r ⟨o, h⟩ l else l
theorem putL_ok {r : Ref_} {o : Out_} {h : Int} {l : List (Ref_ × Coin_)} (h1 : outB o = true) (h2 : 0 ≤ h) (h3 : h ≤ 1073741824) (h4 : lookM r l = none) : putL r o h l = setM r ⟨o, h⟩ l ∧ putE r o h l = 0 := by
  have : putE r o h l = 0 := by
    unfold putE
    rw [if_neg (by rw [h1]; simp; omega), h4]; rfl
  exact ⟨by unfold putL; rw [if_pos this], this⟩
theorem vput_spec (nx v vm : Nat) (l : List (Ref_ × Coin_)) (r : Ref_) (o : Out_) (h : Int) (hv : v < nx) (hm : vm < nx) (hne : v ≠ vm) (hl : o.ways.length < 2 ^ 40) (hk : ∀ w ∈ o.ways, w.keys.length < 2 ^ 40) :
    FnSpec Tryz.prog 128 nx [.ref v 0 [], refA r, outA o, n64 h] (viewW v vm l) (n64 (putE r o h l)) [(vm, some (.mp (coinsE (putL r o h l))))] 0 := by
  have x1 := ltF hv
  have x2 := ltF hm
  have x3 := neF hne
  have ho := fun nc => outR_spec nc o hl hk
  by_cases c : outB o = false ∨ h < 0 ∨ 1073741824 < h
  · have e1 : putE r o h l = 1 := by unfold putE; rw [if_pos c]
    have e2 : putL r o h l = l := by unfold putL; rw [if_neg (by rw [e1]; decide)]
    rw [e1, e2]
    rcases Bool.eq_false_or_eq_true (outB o) with c1 | c1
    · by_cases c2 : h < 0
      · refine FnSpec.of_code (cx := cx) (an := {}) (rs := [.tmp 8]) mo Tryz.func128 rfl rfl (by kernel_rfl) (by kernel_rfl) (by show 4 ≤ _; decide) (.inl rfl) (by simp [allWr, keys, Res.wr]) ?_
        repeat' (first | omega | assumption | (show AL.ahead _ _ _ = true; rfl) | refine brF (fun _ => ?_) (fun _ => ?_) | refine brT (fun _ => ?_) (fun _ => ?_) | refine brVF (fun _ => ?_) (fun _ => ?_) | refine brVT (fun _ => ?_) (fun _ => ?_) | (with_reducible refine And.intro ?_ ?_) | (refine callK_by (vnone_spec _ v vm (by omega)) ?_) | (refine callK_by (ho _) ?_) | (simp -dsimp -implicitDefEqProofs only [go_sem, ↓reduceIte, Nat.reduceEqDiff, Nat.reduceAdd, Nat.reduceMul, Nat.reduceLeDiff, Nat.reduceLT, Nat.reduceBEq, Nat.reducePow, Int.reduceToNat, Int.reduceLE, Int.reduceLT, Int.reduceNeg, reduceCtorEq, Int.reduceEq, Int.reduceAdd, Int.reduceSub, Int.reduceMul, Nat.reduceSub, x1, x2, x3, c1, c2]))
        all_goals trace_state
      · have c3 : 1073741824 < h := by rcases c with c | c | c; · rw [c1] at c; cases c
                                       · omega
                                       · exact c
        refine FnSpec.of_code (cx := cx) (an := {}) (rs := [.tmp 8]) mo Tryz.func128 rfl rfl (by kernel_rfl) (by kernel_rfl) (by show 4 ≤ _; decide) (.inl rfl) (by simp [allWr, keys, Res.wr]) ?_
        repeat' (first | omega | assumption | (show AL.ahead _ _ _ = true; rfl) | refine brF (fun _ => ?_) (fun _ => ?_) | refine brT (fun _ => ?_) (fun _ => ?_) | refine brVF (fun _ => ?_) (fun _ => ?_) | refine brVT (fun _ => ?_) (fun _ => ?_) | (with_reducible refine And.intro ?_ ?_) | (refine callK_by (vnone_spec _ v vm (by omega)) ?_) | (refine callK_by (ho _) ?_) | (simp -dsimp -implicitDefEqProofs only [go_sem, ↓reduceIte, Nat.reduceEqDiff, Nat.reduceAdd, Nat.reduceMul, Nat.reduceLeDiff, Nat.reduceLT, Nat.reduceBEq, Nat.reducePow, Int.reduceToNat, Int.reduceLE, Int.reduceLT, Int.reduceNeg, reduceCtorEq, Int.reduceEq, Int.reduceAdd, Int.reduceSub, Int.reduceMul, Nat.reduceSub, x1, x2, x3, c1, c2, c3]))
        all_goals trace_state
    · refine FnSpec.of_code (cx := cx) (an := {}) (rs := [.tmp 8]) mo Tryz.func128 rfl rfl (by kernel_rfl) (by kernel_rfl) (by show 4 ≤ _; decide) (.inl rfl) (by simp [allWr, keys, Res.wr]) ?_
      repeat' (first | omega | assumption | (show AL.ahead _ _ _ = true; rfl) | refine brF (fun _ => ?_) (fun _ => ?_) | refine brT (fun _ => ?_) (fun _ => ?_) | refine brVF (fun _ => ?_) (fun _ => ?_) | refine brVT (fun _ => ?_) (fun _ => ?_) | (with_reducible refine And.intro ?_ ?_) | (refine callK_by (vnone_spec _ v vm (by omega)) ?_) | (refine callK_by (ho _) ?_) | (simp -dsimp -implicitDefEqProofs only [go_sem, ↓reduceIte, Nat.reduceEqDiff, Nat.reduceAdd, Nat.reduceMul, Nat.reduceLeDiff, Nat.reduceLT, Nat.reduceBEq, Nat.reducePow, Int.reduceToNat, Int.reduceLE, Int.reduceLT, Int.reduceNeg, reduceCtorEq, Int.reduceEq, Int.reduceAdd, Int.reduceSub, Int.reduceMul, Nat.reduceSub, x1, x2, x3, c1]))
      all_goals trace_state
  · have c1 : outB o = true := by
      rcases Bool.eq_false_or_eq_true (outB o) with q | q
      · exact q
      · exact absurd (.inl q) c
    have c2 : (h < 0) = False := by simp only [eq_iff_iff, iff_false]; exact fun q => c (.inr (.inl q))
    have c3 : (1073741824 < h) = False := by simp only [eq_iff_iff, iff_false]; exact fun q => c (.inr (.inr q))
    have hb := fun nc (h : v < nc) (h2 : vm < nc) => vhas_spec nc v vm l r h h2 hne
    cases hf : lookM r l with
    | some c0 =>
      have e1 : putE r o h l = 8 := by unfold putE; rw [if_neg c, hf]; rfl
      have e2 : putL r o h l = l := by unfold putL; rw [if_neg (by rw [e1]; decide)]
      rw [e1, e2]
      simp only [hf, Option.isSome_some] at hb
      refine FnSpec.of_code (cx := cx) (an := {}) (rs := [.tmp 8]) mo Tryz.func128 rfl rfl (by kernel_rfl) (by kernel_rfl) (by show 4 ≤ _; decide) (.inl rfl) (by simp [allWr, keys, Res.wr]) ?_
      repeat' (first | omega | assumption | (show AL.ahead _ _ _ = true; rfl) | refine brF (fun _ => ?_) (fun _ => ?_) | refine brT (fun _ => ?_) (fun _ => ?_) | refine brVF (fun _ => ?_) (fun _ => ?_) | refine brVT (fun _ => ?_) (fun _ => ?_) | (with_reducible refine And.intro ?_ ?_) | (refine callK_by (vnone_spec _ v vm (by omega)) ?_) | (refine callK_by (ho _) ?_) | (refine callK_by (hb _ (by omega) (by omega)) ?_) | (simp -dsimp -implicitDefEqProofs only [go_sem, ↓reduceIte, Nat.reduceEqDiff, Nat.reduceAdd, Nat.reduceMul, Nat.reduceLeDiff, Nat.reduceLT, Nat.reduceBEq, Nat.reducePow, Int.reduceToNat, Int.reduceLE, Int.reduceLT, Int.reduceNeg, reduceCtorEq, Int.reduceEq, Int.reduceAdd, Int.reduceSub, Int.reduceMul, Nat.reduceSub, x1, x2, x3, c1, c2, c3]))
      all_goals trace_state
    | none =>
      obtain ⟨e2, e1⟩ := putL_ok (r := r) (o := o) (h := h) c1 (by have : ¬ h < 0 := fun q => c (.inr (.inl q)); omega) (by have : ¬ 1073741824 < h := fun q => c (.inr (.inr q)); omega) hf
      rw [e1, e2]
      simp only [hf, Option.isSome_none] at hb
      have hset : setA (refA r) (.agg 3 [outA o, n64 h]) (coinsE l) = coinsE (setM r ⟨o, h⟩ l) := setA_enc (vA := coinA) refA_inj r (⟨o, h⟩ : Coin_) l
      refine FnSpec.of_code (cx := cx) (an := {}) (rs := [.tmp 8]) mo Tryz.func128 rfl rfl (by kernel_rfl) (by kernel_rfl) (by show 4 ≤ _; decide) (.inl rfl) (by simp [allWr, keys, Res.wr]) ?_
      repeat' (first | omega | assumption | (show AL.ahead _ _ _ = true; rfl) | refine brF (fun _ => ?_) (fun _ => ?_) | refine brT (fun _ => ?_) (fun _ => ?_) | refine brVF (fun _ => ?_) (fun _ => ?_) | refine brVT (fun _ => ?_) (fun _ => ?_) | (with_reducible refine And.intro ?_ ?_) | (refine callK_by (vnone_spec _ v vm (by omega)) ?_) | (refine callK_by (ho _) ?_) | (refine callK_by (hb _ (by omega) (by omega)) ?_) | (simp -dsimp -implicitDefEqProofs only [go_sem, ↓reduceIte, Nat.reduceEqDiff, Nat.reduceAdd, Nat.reduceMul, Nat.reduceLeDiff, Nat.reduceLT, Nat.reduceBEq, Nat.reducePow, Int.reduceToNat, Int.reduceLE, Int.reduceLT, Int.reduceNeg, reduceCtorEq, Int.reduceEq, Int.reduceAdd, Int.reduceSub, Int.reduceMul, Nat.reduceSub, x1, x2, x3, c1, c2, c3, hset]))
      all_goals trace_state
/-- what becomes of coins that are taken out -/
theorem vtake_spec (nx v vm : Nat) (l : List (Ref_ × Coin_)) (r : Ref_) (hv : v < nx) (hm : vm < nx) (hne : v ≠ vm) :
    FnSpec Tryz.prog 62 nx [.ref v 0 [], refA r] (viewW v vm l) (.tup [optC (lookM r l), n64 (if (lookM r l).isSome then 0 else 13)]) [(vm, some (.mp (coinsE (delM r l))))] 0 := by
  have x1 := ltF hv
  have x2 := ltF hm
  have x3 := neF hne
  have hb := fun nc (h : v < nc) (h2 : vm < nc) => vhas_spec nc v vm l r h h2 hne
  cases h : lookM r l with
  | none =>
    have hd : delM r l = l := by
      clear hb
      induction l with
      | nil => rfl
      | cons a l ih =>
        obtain ⟨a, b⟩ := a
        by_cases q : r = a
        · subst q; simp [lookM] at h
        · simp only [lookM, if_neg q] at h
          simp only [delM, if_neg q, ih h]
    rw [hd]
    simp only [h, Option.isSome_none] at hb
    refine FnSpec.of_code (cx := cx) (an := {}) (rs := [.cell 4 146, .tmp 5]) mo Tryz.func62 rfl rfl (by kernel_rfl) (by kernel_rfl) (by show 2 ≤ _; decide) (.inr ⟨_, rfl, by simp [AV.good, optC, coinA]⟩) (by simp [allWr, keys, Res.wr]) ?_
    repeat' (first | omega | assumption | (show AL.ahead _ _ _ = true; rfl) | refine brF (fun _ => ?_) (fun _ => ?_) | refine brT (fun _ => ?_) (fun _ => ?_) | refine brVF (fun _ => ?_) (fun _ => ?_) | refine brVT (fun _ => ?_) (fun _ => ?_) | (with_reducible refine And.intro ?_ ?_) | (refine callK_by (vnone_spec _ v vm (by omega)) ?_) | (refine callK_by (hb _ (by omega) (by omega)) ?_) | (simp -dsimp -implicitDefEqProofs only [go_sem, ↓reduceIte, Nat.reduceEqDiff, Nat.reduceAdd, Nat.reduceMul, Nat.reduceLeDiff, Nat.reduceLT, Nat.reduceBEq, Nat.reducePow, Int.reduceToNat, Int.reduceLE, Int.reduceLT, Int.reduceNeg, reduceCtorEq, Int.reduceEq, Int.reduceAdd, Int.reduceSub, Int.reduceMul, Nat.reduceSub, x1, x2, x3, h, lookA_enc refA_inj, optC]))
    all_goals first | rfl | trace_state
  | some c =>
    simp only [h, Option.isSome_some] at hb
    refine FnSpec.of_code (cx := cx) (an := {}) (rs := [.cell 4 146, .tmp 5]) mo Tryz.func62 rfl rfl (by kernel_rfl) (by kernel_rfl) (by show 2 ≤ _; decide) (.inr ⟨_, rfl, by simp [AV.good, optC, coinA]⟩) (by simp [allWr, keys, Res.wr]) ?_
    repeat' (first | omega | assumption | (show AL.ahead _ _ _ = true; rfl) | refine brF (fun _ => ?_) (fun _ => ?_) | refine brT (fun _ => ?_) (fun _ => ?_) | refine brVF (fun _ => ?_) (fun _ => ?_) | refine brVT (fun _ => ?_) (fun _ => ?_) | (with_reducible refine And.intro ?_ ?_) | (refine callK_by (vnone_spec _ v vm (by omega)) ?_) | (refine callK_by (hb _ (by omega) (by omega)) ?_) | (simp -dsimp -implicitDefEqProofs only [go_sem, ↓reduceIte, Nat.reduceEqDiff, Nat.reduceAdd, Nat.reduceMul, Nat.reduceLeDiff, Nat.reduceLT, Nat.reduceBEq, Nat.reducePow, Int.reduceToNat, Int.reduceLE, Int.reduceLT, Int.reduceNeg, reduceCtorEq, Int.reduceEq, Int.reduceAdd, Int.reduceSub, Int.reduceMul, Nat.reduceSub, x1, x2, x3, h, lookA_enc refA_inj, delA_enc refA_inj, optC]))
    all_goals first | rfl | trace_state
end Go.Proofs.YthfoeaokfhbdaaaGreat

/-
  Boards: a new one, what a tower has, what it holds, a clone.
-/
set_option linter.unusedSimpArgs false
set_option linter.unusedVariables false
set_option maxRecDepth 100000
set_option maxHeartbeats 1000000
namespace Go.Proofs.YthfoeaokfhbdaaaGreat
open Go Go.AL Go.Proofs.YthfoeaokfhbdaaaGreat.T
def boardA (tm hm : Nat) : AV := .agg 2 [.map tm, .map hm]
abbrev boardH (b tm hm : Nat) (ts : List (Int × Tw_)) (hs : List ((Int × Int) × Hold_)) : Heap := [(b, some (.obj (boardA tm hm))), (tm, some (.mp (towsE ts))), (hm, some (.mp (holdsE hs)))]
abbrev boardR (b tm hm : Nat) (ts : List (Int × Tw_)) (hs : List ((Int × Int) × Hold_)) : Heap := [(b, some (.robj (boardA tm hm))), (tm, some (.rmp (towsE ts))), (hm, some (.rmp (holdsE hs)))]
theorem rep2 {α : Type} (a : α) : List.replicate 2 a = [a, a] := rfl
theorem pair_mk (a b : Int) : AV.vec 1 [n64 a, n64 b] = pairKA (a, b) := rfl
theorem k2_pair (a b : Int) : keyOK Tryz.prog 187 (.vec 1 [n64 a, n64 b]) = True := k1_pair (a, b)
theorem look_pair {V : Type} {vA : V → AV} (a b : Int) (l : List ((Int × Int) × V)) : lookA (.vec 1 [n64 a, n64 b]) (encM pairKA vA l) = (lookM (a, b) l).map vA := lookA_enc pairKA_inj (a, b) l
attribute [local go_sem] nb_u8s u8s_length nb_sum List.length_replicate zero_sum sum_h u8s_nil towA_good towA_agg towA_csz holdA_good holdA_agg holdA_csz nbK_int nbK_pair nbV_tow nbV_hold nb_tow nb_hold kk_int kk_pair k2_pair o_some o_none Option.getD_some Option.getD_none Option.isSome_some Option.isSome_none
theorem newb_spec (nx : Nat) : FnSpec Tryz.prog 131 nx [] [] (.ref (nx + 32) 0 []) (boardH (nx + 32) (nx + 8) (nx + 16) [] []) 40 := by
  refine FnSpec.of_code (cx := cx) (an := {mt := [4]}) (rs := [.tmp 0]) mo Tryz.func131 rfl rfl (by kernel_rfl) (by kernel_rfl) (by show 0 ≤ _; decide) (.inl rfl) (by simp [allWr, keys, Res.wr]) ?_
  repeat' (first | omega | assumption | (show AL.ahead _ _ _ = true; rfl) | refine brF (fun _ => ?_) (fun _ => ?_) | refine brT (fun _ => ?_) (fun _ => ?_) | refine brVF (fun _ => ?_) (fun _ => ?_) | refine brVT (fun _ => ?_) (fun _ => ?_) | (with_reducible refine And.intro ?_ ?_) | (simp -dsimp -implicitDefEqProofs only [go_sem, ↓reduceIte, Nat.reduceEqDiff, Nat.reduceAdd, Nat.reduceMul, Nat.reduceLeDiff, Nat.reduceLT, Nat.reduceBEq, Nat.reducePow, Int.reduceToNat, Int.reduceLE, Int.reduceLT, Int.reduceNeg, reduceCtorEq, Int.reduceEq, Int.reduceAdd, Int.reduceSub, Int.reduceMul, Nat.reduceSub, enc_nil, boardA]))
  all_goals first | rfl | trace_state
theorem bnone2_spec (nx b tm hm : Nat) (hv : b < nx) : FnSpec Tryz.prog 113 nx [.ref b 0 []] [(b, some (.robj (boardA tm hm)))] (bA false) [] 0 := by
  have x1 := ltF hv
  refine FnSpec.of_code (cx := cx) (an := {}) (rs := [.tmp 2]) mo Tryz.func113 rfl rfl (by kernel_rfl) (by kernel_rfl) (by show 1 ≤ _; decide) (.inl rfl) (by simp [allWr, keys, Res.wr]) ?_
  repeat' (first | omega | assumption | (show AL.ahead _ _ _ = true; rfl) | refine brF (fun _ => ?_) (fun _ => ?_) | refine brT (fun _ => ?_) (fun _ => ?_) | refine brVF (fun _ => ?_) (fun _ => ?_) | refine brVT (fun _ => ?_) (fun _ => ?_) | (with_reducible refine And.intro ?_ ?_) | (simp -dsimp -implicitDefEqProofs only [go_sem, ↓reduceIte, Nat.reduceEqDiff, Nat.reduceAdd, Nat.reduceMul, Nat.reduceLeDiff, Nat.reduceLT, Nat.reduceBEq, Nat.reducePow, Int.reduceToNat, Int.reduceLE, Int.reduceLT, Int.reduceNeg, reduceCtorEq, Int.reduceEq, Int.reduceAdd, Int.reduceSub, Int.reduceMul, Nat.reduceSub, x1, boardA]))
  all_goals trace_state
theorem bget_spec (nx b tm hm : Nat) (ts : List (Int × Tw_)) (t : Int) (hb : b < nx) (ht : tm < nx) (hne : b ≠ tm) :
    FnSpec Tryz.prog 165 nx [.ref b 0 [], n64 t] [(b, some (.robj (boardA tm hm))), (tm, some (.rmp (towsE ts)))] (.tup [optT (lookM t ts), bA (lookM t ts).isSome]) [] 0 := by
  have x1 := ltF hb
  have x2 := ltF ht
  have x3 := neF hne
  cases h : lookM t ts with
  | none =>
    refine FnSpec.of_code (cx := cx) (an := {}) (rs := [.cell 4 223, .tmp 5]) mo Tryz.func165 rfl rfl (by kernel_rfl) (by kernel_rfl) (by show 2 ≤ _; decide) (.inr ⟨_, rfl, by simp [AV.good, optT, towA]⟩) (by simp [allWr, keys, Res.wr]) ?_
    repeat' (first | omega | assumption | (show AL.ahead _ _ _ = true; rfl) | refine brF (fun _ => ?_) (fun _ => ?_) | refine brT (fun _ => ?_) (fun _ => ?_) | refine brVF (fun _ => ?_) (fun _ => ?_) | refine brVT (fun _ => ?_) (fun _ => ?_) | (with_reducible refine And.intro ?_ ?_) | (refine callK_by (bnone2_spec _ b tm hm (by omega)) ?_) | (simp -dsimp -implicitDefEqProofs only [go_sem, ↓reduceIte, Nat.reduceEqDiff, Nat.reduceAdd, Nat.reduceMul, Nat.reduceLeDiff, Nat.reduceLT, Nat.reduceBEq, Nat.reducePow, Int.reduceToNat, Int.reduceLE, Int.reduceLT, Int.reduceNeg, reduceCtorEq, Int.reduceEq, Int.reduceAdd, Int.reduceSub, Int.reduceMul, Nat.reduceSub, x1, x2, x3, h, lookA_enc n64_inj, optT, boardA, towA]))
    all_goals trace_state
  | some c =>
    refine FnSpec.of_code (cx := cx) (an := {}) (rs := [.cell 4 223, .tmp 5]) mo Tryz.func165 rfl rfl (by kernel_rfl) (by kernel_rfl) (by show 2 ≤ _; decide) (.inr ⟨_, rfl, by simp [AV.good, optT, towA]⟩) (by simp [allWr, keys, Res.wr]) ?_
    repeat' (first | omega | assumption | (show AL.ahead _ _ _ = true; rfl) | refine brF (fun _ => ?_) (fun _ => ?_) | refine brT (fun _ => ?_) (fun _ => ?_) | refine brVF (fun _ => ?_) (fun _ => ?_) | refine brVT (fun _ => ?_) (fun _ => ?_) | (with_reducible refine And.intro ?_ ?_) | (refine callK_by (bnone2_spec _ b tm hm (by omega)) ?_) | (simp -dsimp -implicitDefEqProofs only [go_sem, ↓reduceIte, Nat.reduceEqDiff, Nat.reduceAdd, Nat.reduceMul, Nat.reduceLeDiff, Nat.reduceLT, Nat.reduceBEq, Nat.reducePow, Int.reduceToNat, Int.reduceLE, Int.reduceLT, Int.reduceNeg, reduceCtorEq, Int.reduceEq, Int.reduceAdd, Int.reduceSub, Int.reduceMul, Nat.reduceSub, x1, x2, x3, h, lookA_enc n64_inj, optT, boardA]))
    all_goals trace_state
theorem bholds_spec (nx b tm hm : Nat) (hs : List ((Int × Int) × Hold_)) (t c : Int) (hb : b < nx) (hh : hm < nx) (hne : b ≠ hm) :
    FnSpec Tryz.prog 118 nx [.ref b 0 [], n64 t, n64 c] [(b, some (.robj (boardA tm hm))), (hm, some (.rmp (holdsE hs)))] (.tup [optH (lookM (t, c) hs), bA (lookM (t, c) hs).isSome]) [] 0 := by
  have x1 := ltF hb
  have x2 := ltF hh
  have x3 := neF hne
  cases h : lookM (t, c) hs with
  | none =>
    refine FnSpec.of_code (cx := cx) (an := {}) (rs := [.cell 6 229, .tmp 7]) mo Tryz.func118 rfl rfl (by kernel_rfl) (by kernel_rfl) (by show 3 ≤ _; decide) (.inr ⟨_, rfl, by simp [AV.good, optH, holdA]⟩) (by simp [allWr, keys, Res.wr]) ?_
    repeat' (first | omega | assumption | (show AL.ahead _ _ _ = true; rfl) | refine brF (fun _ => ?_) (fun _ => ?_) | refine brT (fun _ => ?_) (fun _ => ?_) | refine brVF (fun _ => ?_) (fun _ => ?_) | refine brVT (fun _ => ?_) (fun _ => ?_) | (with_reducible refine And.intro ?_ ?_) | (refine callK_by (bnone2_spec _ b tm hm (by omega)) ?_) | (simp -dsimp -implicitDefEqProofs only [go_sem, ↓reduceIte, Nat.reduceEqDiff, Nat.reduceAdd, Nat.reduceMul, Nat.reduceLeDiff, Nat.reduceLT, Nat.reduceBEq, Nat.reducePow, Int.reduceToNat, Int.reduceLE, Int.reduceLT, Int.reduceNeg, reduceCtorEq, Int.reduceEq, Int.reduceAdd, Int.reduceSub, Int.reduceMul, Nat.reduceSub, x1, x2, x3, h, rep2, List.set_cons_zero, List.set_cons_succ, List.getD_cons_zero, List.getD_cons_succ, look_pair, optH, boardA, holdA, chanA, refA]))
    all_goals trace_state
  | some q =>
    refine FnSpec.of_code (cx := cx) (an := {}) (rs := [.cell 6 229, .tmp 7]) mo Tryz.func118 rfl rfl (by kernel_rfl) (by kernel_rfl) (by show 3 ≤ _; decide) (.inr ⟨_, rfl, by simp [AV.good, optH, holdA]⟩) (by simp [allWr, keys, Res.wr]) ?_
    repeat' (first | omega | assumption | (show AL.ahead _ _ _ = true; rfl) | refine brF (fun _ => ?_) (fun _ => ?_) | refine brT (fun _ => ?_) (fun _ => ?_) | refine brVF (fun _ => ?_) (fun _ => ?_) | refine brVT (fun _ => ?_) (fun _ => ?_) | (with_reducible refine And.intro ?_ ?_) | (refine callK_by (bnone2_spec _ b tm hm (by omega)) ?_) | (simp -dsimp -implicitDefEqProofs only [go_sem, ↓reduceIte, Nat.reduceEqDiff, Nat.reduceAdd, Nat.reduceMul, Nat.reduceLeDiff, Nat.reduceLT, Nat.reduceBEq, Nat.reducePow, Int.reduceToNat, Int.reduceLE, Int.reduceLT, Int.reduceNeg, reduceCtorEq, Int.reduceEq, Int.reduceAdd, Int.reduceSub, Int.reduceMul, Nat.reduceSub, x1, x2, x3, h, rep2, List.set_cons_zero, List.set_cons_succ, List.getD_cons_zero, List.getD_cons_succ, look_pair, optH, boardA]))
    all_goals trace_state
theorem isClone : cloneFn Tryz.prog 162 := ⟨Tryz.f162, by kernel_rfl, by kernel_rfl, by kernel_rfl, by kernel_rfl, by kernel_rfl⟩
theorem cloneT_spec (nx m : Nat) (ts : List (Int × Tw_)) (hm : m < nx) : FnSpec Tryz.prog 114 nx [.map m] [(m, some (.rmp (towsE ts)))] (.map (nx + 24)) [(nx + 24, some (.mp (towsE ts)))] 40 := by
  have x1 := ltF hm
  refine FnSpec.of_code (cx := cx) (an := {nxt := [3]}) (rs := [.tmp 2]) mo Tryz.func114 rfl rfl (by kernel_rfl) (by kernel_rfl) (by show 1 ≤ _; decide) (.inl rfl) (by simp [allWr, keys, Res.wr]) ?_
  repeat' (first | omega | assumption | (show AL.ahead _ _ _ = true; rfl) | refine brF (fun _ => ?_) (fun _ => ?_) | refine brT (fun _ => ?_) (fun _ => ?_) | refine brVF (fun _ => ?_) (fun _ => ?_) | refine brVT (fun _ => ?_) (fun _ => ?_) | (with_reducible refine And.intro ?_ ?_) | (simp -dsimp -implicitDefEqProofs only [go_sem, ↓reduceIte, Nat.reduceEqDiff, Nat.reduceAdd, Nat.reduceMul, Nat.reduceLeDiff, Nat.reduceLT, Nat.reduceBEq, Nat.reducePow, Int.reduceToNat, Int.reduceLE, Int.reduceLT, Int.reduceNeg, reduceCtorEq, Int.reduceEq, Int.reduceAdd, Int.reduceSub, Int.reduceMul, Nat.reduceSub, x1, isClone]))
  all_goals trace_state
theorem cloneH_spec (nx m : Nat) (hs : List ((Int × Int) × Hold_)) (hm : m < nx) : FnSpec Tryz.prog 115 nx [.map m] [(m, some (.rmp (holdsE hs)))] (.map (nx + 24)) [(nx + 24, some (.mp (holdsE hs)))] 40 := by
  have x1 := ltF hm
  refine FnSpec.of_code (cx := cx) (an := {nxt := [3]}) (rs := [.tmp 2]) mo Tryz.func115 rfl rfl (by kernel_rfl) (by kernel_rfl) (by show 1 ≤ _; decide) (.inl rfl) (by simp [allWr, keys, Res.wr]) ?_
  repeat' (first | omega | assumption | (show AL.ahead _ _ _ = true; rfl) | refine brF (fun _ => ?_) (fun _ => ?_) | refine brT (fun _ => ?_) (fun _ => ?_) | refine brVF (fun _ => ?_) (fun _ => ?_) | refine brVT (fun _ => ?_) (fun _ => ?_) | (with_reducible refine And.intro ?_ ?_) | (simp -dsimp -implicitDefEqProofs only [go_sem, ↓reduceIte, Nat.reduceEqDiff, Nat.reduceAdd, Nat.reduceMul, Nat.reduceLeDiff, Nat.reduceLT, Nat.reduceBEq, Nat.reducePow, Int.reduceToNat, Int.reduceLE, Int.reduceLT, Int.reduceNeg, reduceCtorEq, Int.reduceEq, Int.reduceAdd, Int.reduceSub, Int.reduceMul, Nat.reduceSub, x1, isClone]))
  all_goals trace_state
theorem bclone_spec (nx b tm hm : Nat) (ts : List (Int × Tw_)) (hs : List ((Int × Int) × Hold_)) (hb : b < nx) (ht : tm < nx) (hh : hm < nx) (h1 : b ≠ tm) (h2 : b ≠ hm) (h3 : tm ≠ hm) :
    FnSpec Tryz.prog 58 nx [.ref b 0 []] (boardR b tm hm ts hs) (.ref (nx + 112) 0 []) (boardH (nx + 112) (nx + 152) (nx + 192) ts hs) 300 := by
  have x1 := ltF hb
  have x2 := ltF ht
  have x3 := ltF hh
  have y1 := neF h1
  have y2 := neF h2
  have y3 := neF h3
  refine FnSpec.of_code (cx := cx) (an := {mt := [17]}) (rs := [.tmp 2]) mo Tryz.func58 rfl rfl (by kernel_rfl) (by kernel_rfl) (by show 1 ≤ _; decide) (.inl rfl) (by simp [allWr, keys, Res.wr]) ?_
  repeat' (first | omega | assumption | (show AL.ahead _ _ _ = true; rfl) | refine brF (fun _ => ?_) (fun _ => ?_) | refine brT (fun _ => ?_) (fun _ => ?_) | refine brVF (fun _ => ?_) (fun _ => ?_) | refine brVT (fun _ => ?_) (fun _ => ?_) | (with_reducible refine And.intro ?_ ?_) | (refine callK_by (bnone2_spec _ b tm hm (by omega)) ?_) | (refine callK_by (cloneT_spec _ tm ts (by omega)) ?_) | (refine callK_by (cloneH_spec _ hm hs (by omega)) ?_) | (simp -dsimp -implicitDefEqProofs only [go_sem, ↓reduceIte, Nat.reduceEqDiff, Nat.reduceAdd, Nat.reduceMul, Nat.reduceLeDiff, Nat.reduceLT, Nat.reduceBEq, Nat.reducePow, Int.reduceToNat, Int.reduceLE, Int.reduceLT, Int.reduceNeg, reduceCtorEq, Int.reduceEq, Int.reduceAdd, Int.reduceSub, Int.reduceMul, Nat.reduceSub, x1, x2, x3, y1, y2, y3, boardA]))
  all_goals trace_state
end Go.Proofs.YthfoeaokfhbdaaaGreat

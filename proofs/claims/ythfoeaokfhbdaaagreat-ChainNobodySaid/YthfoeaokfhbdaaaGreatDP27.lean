/-
  A ledger of its own that is alike.
-/
import Derived.Test.YthfoeaokfhbdaaaGreatDP82
import Derived.Test.YthfoeaokfhbdaaaGreatDP14
set_option linter.unusedSimpArgs false
set_option linter.unusedVariables false
set_option maxRecDepth 100000
set_option maxHeartbeats 4000000
namespace Go.Proofs.YthfoeaokfhbdaaaGreat
open Go Go.AL Go.Proofs.YthfoeaokfhbdaaaGreat.T
attribute [local go_sem] nb_u8s u8s_length nb_sum List.length_replicate zero_sum sum_h u8s_nil sums_len nb_sums sum_csz sum_agg sumA_good nb_ref refA_good refA_agg refA_csz nbK_ref nbK_sum nbK_int nbK_pair nbV_coin nbV_done nbV_spend nbV_tow nbV_hold kk_ref k1_ref kk_sum k1_sum doneA_good doneA_agg doneA_csz nb_done spendA_good spendA_agg spendA_csz nb_spend o_some o_none enc_len enc_nil
theorem cloneSumT_spec (nx t : Nat) (a : Sum) (l : List Sum) (hl : (a :: l).length < 2 ^ 40) (ht : t < 2 ∨ t - 2 < nx) : FnSpec Tryz.prog 64 nx [.sl 32 (sumsA (a :: l)) t] [] (.sl 32 (sumsA (a :: l)) (nx + 42)) [(nx + 40, some (.tail (a :: l).length))] 60 := by
  have e : sumsA (a :: l) = sumA a :: sumsA l := rfl
  simp only [List.length_cons] at hl
  rw [e]
  refine FnSpec.of_code (cx := cx) (an := {}) (rs := [.tmp 2]) mo Tryz.func64 rfl rfl (by kernel_rfl) (by kernel_rfl) (by show 1 ≤ _; decide) (.inl rfl) (by simp [allWr, keys, Res.wr]) ?_
  repeat' (first | omega | assumption | (show AL.ahead _ _ _ = true; rfl) | refine brF (fun _ => ?_) (fun _ => ?_) | refine brT (fun _ => ?_) (fun _ => ?_) | refine brVF (fun _ => ?_) (fun _ => ?_) | refine brVT (fun _ => ?_) (fun _ => ?_) | (with_reducible refine And.intro ?_ ?_) | (simp -dsimp -implicitDefEqProofs only [go_sem, ↓reduceIte, Nat.reduceEqDiff, Nat.reduceAdd, Nat.reduceMul, Nat.reduceLeDiff, Nat.reduceLT, Nat.reduceBEq, Nat.reducePow, Int.reduceToNat, Int.reduceLE, Int.reduceLT, Int.reduceNeg, reduceCtorEq, Int.reduceEq, Int.reduceAdd, Int.reduceSub, Int.reduceMul, Nat.reduceSub]))
  all_goals first | rfl | trace_state
def dn0 : Sum × Done_ := (zeroS, ⟨⟨[], [], opZ, []⟩, 0⟩)
def sd0 : Ref_ × Spend_ := (⟨zeroS, 0⟩, ⟨zeroS, 0, 0⟩)
/-- what is read of a ledger that is cloned -/
abbrev ledR (n : LN) (x : LS) : Heap := [(n.l, some (.robj (ledA n x))), (n.v, some (.robj (.agg 1 [.map n.vm]))), (n.vm, some (.rmp (coinsE x.coins))), (n.b, some (.robj (boardA n.tm n.hm))), (n.tm, some (.rmp (towsE x.towers))), (n.hm, some (.rmp (holdsE x.holds))), (n.d, some (.rmp (donesE x.done))), (n.s, some (.rmp (spentE x.spent)))]
/-- the names of a clone's parts -/
def clN (nx : Nat) : LN := ⟨nx + 200, nx + 280, nx + 264, nx + 728, nx + 768, nx + 808, nx + 104, nx + 112, nx + 956⟩
theorem lclone_spec (nx : Nat) (n : LN) (x : LS) (hn : n.ok nx) (a : Sum) (r : List Sum) (ho : x.order = a :: r) (hol : x.order.length < 2 ^ 40) :
    FnSpec Tryz.prog 16 nx [.ref n.l 0 []] (ledR n x) (.ref (nx + 200) 0 []) (ledH (clN nx) x) 4000 := by
  have xf := hn.xf
  have yf := hn.nf
  have hlt := hn.lt
  have b1 := hn.ne.2.1.1
  have hvc := fun nc (q1 : n.v < nc) (q2 : n.vm < nc) => vclone_spec nc n.v n.vm x.coins q1 q2 b1
  have hcl := fun nc (q1 : n.b < nc) (q2 : n.tm < nc) (q3 : n.hm < nc) => bclone_spec nc n.b n.tm n.hm x.towers x.holds q1 q2 q3 hn.ne.2.2.2.1.1 hn.ne.2.2.2.1.2.1 hn.ne.2.2.2.2.1.1
  have hcs := fun nc (q : n.o < nc) => cloneSumT_spec nc (n.o + 2) a r (by rw [← ho]; exact hol) (by omega)
  rw [← ho] at hcs
  refine FnSpec.of_code (cx := cx) (an := {mt := [33], vw := [3, 4, 8, 12], nxt := [5, 9]}) (rs := [.tmp 2]) mo Tryz.func16 rfl rfl (by kernel_rfl) (by kernel_rfl) (by show 1 ≤ _; decide) (.inl rfl) (by simp [allWr, keys, Res.wr]) ?_
  repeat' (first | omega | assumption | (show AL.ahead _ _ _ = true; rfl) | refine brF (fun _ => ?_) (fun _ => ?_) | refine brT (fun _ => ?_) (fun _ => ?_) | refine brVF (fun _ => ?_) (fun _ => ?_) | refine brVT (fun _ => ?_) (fun _ => ?_) | (with_reducible refine And.intro ?_ ?_) | (refine callK_by (lnone_spec _ n x (by omega)) ?_) | (simp -dsimp -implicitDefEqProofs only [go_sem, ↓reduceIte, Nat.reduceEqDiff, Nat.reduceAdd, Nat.reduceMul, Nat.reduceLeDiff, Nat.reduceLT, Nat.reduceBEq, Nat.reducePow, Int.reduceToNat, Int.reduceLE, Int.reduceLT, Int.reduceNeg, reduceCtorEq, Int.reduceEq, Int.reduceAdd, Int.reduceSub, Int.reduceMul, Nat.reduceSub, xf, yf, ledA]))
  refine view_pin n.s (fun p : Ref_ × Spend_ => (refA p.1, spendA p.2)) x.spent (by simp only [Heap.get, xf, yf, if_true, if_false]; rfl) (fun lsp bs2 clk2 hp2 hnd2 hb2 => ?_)
  have hnk2 : NodK lsp := pin_nod (kA := refA) (vA := spendA) hp2 hnd2
  repeat' (first | omega | assumption | (show AL.ahead _ _ _ = true; rfl) | refine brF (fun _ => ?_) (fun _ => ?_) | refine brT (fun _ => ?_) (fun _ => ?_) | refine brVF (fun _ => ?_) (fun _ => ?_) | refine brVT (fun _ => ?_) (fun _ => ?_) | (with_reducible refine And.intro ?_ ?_) | (refine callK_by (hvc _ (by omega) (by omega)) ?_) | (refine callK_by (hcl _ (by omega) (by omega) (by omega)) ?_) | (refine callK_by (hcs _ (by omega)) ?_) | (simp -dsimp -implicitDefEqProofs only [go_sem, ↓reduceIte, Nat.reduceEqDiff, Nat.reduceAdd, Nat.reduceMul, Nat.reduceLeDiff, Nat.reduceLT, Nat.reduceBEq, Nat.reducePow, Int.reduceToNat, Int.reduceLE, Int.reduceLT, Int.reduceNeg, reduceCtorEq, Int.reduceEq, Int.reduceAdd, Int.reduceSub, Int.reduceMul, Nat.reduceSub, xf, yf, ledA]))
  refine view_pin n.d (fun p : Sum × Done_ => (sumA p.1, doneA p.2)) x.done (by simp only [Heap.get, xf, yf, if_true, if_false]; rfl) (fun ld bs clk hp hnd hb => ?_)
  have hnk : NodK ld := pin_nod (kA := sumA) (vA := doneA) hp hnd
  repeat' (first | omega | assumption | (show AL.ahead _ _ _ = true; rfl) | refine brF (fun _ => ?_) (fun _ => ?_) | refine brT (fun _ => ?_) (fun _ => ?_) | refine brVF (fun _ => ?_) (fun _ => ?_) | refine brVT (fun _ => ?_) (fun _ => ?_) | (with_reducible refine And.intro ?_ ?_) | (simp -dsimp -implicitDefEqProofs only [go_sem, ↓reduceIte, Nat.reduceEqDiff, Nat.reduceAdd, Nat.reduceMul, Nat.reduceLeDiff, Nat.reduceLT, Nat.reduceBEq, Nat.reducePow, Int.reduceToNat, Int.reduceLE, Int.reduceLT, Int.reduceNeg, reduceCtorEq, Int.reduceEq, Int.reduceAdd, Int.reduceSub, Int.reduceMul, Nat.reduceSub, xf, yf, ledA]))
  apply loop_keep [0, 3, 38] (fun se : Seen ld.length => []) (fun se => [(nx + 1008, some (.itr n.d bs clk se.1)), (n.d, some (.xmp (donesE ld) bs clk)), (nx + 104, some (.mp (donesE (grewL ld dn0 se.1)))), (nx + 112, some (.mp (spentE []))), (n.l, some (.robj (ledA n x))), (n.s, some (.xmp (spentE lsp) bs2 clk2)), (nx + 200, some (.obj (.agg 6 [.ref (nx + 280) 0 [], .ref (nx + 728) 0 [], .map (nx + 104), .map (nx + 112), .sl 32 (sumsA x.order) (nx + 958), n64 x.fees]))), (nx + 956, some (.tail x.order.length)), (nx + 728, some (.obj (boardA (nx + 768) (nx + 808)))), (nx + 768, some (.mp (towsE x.towers))), (nx + 808, some (.mp (holdsE x.holds))), (nx + 280, some (.obj (.agg 1 [.map (nx + 264)]))), (nx + 264, some (.mp (coinsE x.coins)))]) (fun se => ld.length - se.1.length) Seen.nil
  · simp -dsimp -implicitDefEqProofs only [go_sem, ↓reduceIte, Nat.reduceEqDiff, Nat.reduceAdd, Nat.reduceMul, Nat.reduceLeDiff, Nat.reduceLT, Nat.reduceBEq, Nat.reducePow, Int.reduceToNat, Int.reduceLE, Int.reduceLT, Int.reduceNeg, reduceCtorEq, Int.reduceEq, Int.reduceAdd, Int.reduceSub, Int.reduceMul, Nat.reduceSub]; try rfl
  · simp -dsimp -implicitDefEqProofs only [go_sem, ↓reduceIte, Nat.reduceEqDiff, Nat.reduceAdd, Nat.reduceMul, Nat.reduceLeDiff, Nat.reduceLT, Nat.reduceBEq, Nat.reducePow, Int.reduceToNat, Int.reduceLE, Int.reduceLT, Int.reduceNeg, reduceCtorEq, Int.reduceEq, Int.reduceAdd, Int.reduceSub, Int.reduceMul, Nat.reduceSub]; try rfl
  · simp -dsimp -implicitDefEqProofs only [go_sem, ↓reduceIte, Nat.reduceEqDiff, Nat.reduceAdd, Nat.reduceMul, Nat.reduceLeDiff, Nat.reduceLT, Nat.reduceBEq, Nat.reducePow, Int.reduceToNat, Int.reduceLE, Int.reduceLT, Int.reduceNeg, reduceCtorEq, Int.reduceEq, Int.reduceAdd, Int.reduceSub, Int.reduceMul, Nat.reduceSub, xf, yf, ledA]; try exact ⟨rfl, rfl, rfl, rfl⟩
  · intro s
    simp -dsimp -implicitDefEqProofs only [go_sem, ↓reduceIte, Nat.reduceEqDiff, Nat.reduceAdd, Nat.reduceMul, Nat.reduceLeDiff, Nat.reduceLT, Nat.reduceBEq, Nat.reducePow, Int.reduceToNat, Int.reduceLE, Int.reduceLT, Int.reduceNeg, reduceCtorEq, Int.reduceEq, Int.reduceAdd, Int.reduceSub, Int.reduceMul, Nat.reduceSub, ledA, boardA]
    try omega
  · intro se
    simp -dsimp -implicitDefEqProofs only [go_sem, ↓reduceIte, Nat.reduceEqDiff, Nat.reduceAdd, Nat.reduceMul, Nat.reduceLeDiff, Nat.reduceLT, Nat.reduceBEq, Nat.reducePow, Int.reduceToNat, Int.reduceLE, Int.reduceLT, Int.reduceNeg, reduceCtorEq, Int.reduceEq, Int.reduceAdd, Int.reduceSub, Int.reduceMul, Nat.reduceSub, xf, yf]
    refine steps_by (fun j hj => se.2.2 j hj) (fun hall => ?_) (fun i hi hni => ?_)
    · have hperm := grew_all (kA := sumA) (vA := doneA) x.done ld dn0 hp se.1 se.2.1 se.2.2 hall
      generalize hG : grewL ld dn0 se.1 = G at *
      repeat' (first | omega | assumption | (show AL.ahead _ _ _ = true; rfl) | refine brF (fun _ => ?_) (fun _ => ?_) | refine brT (fun _ => ?_) (fun _ => ?_) | refine brVF (fun _ => ?_) (fun _ => ?_) | refine brVT (fun _ => ?_) (fun _ => ?_) | (with_reducible refine And.intro ?_ ?_) | (simp -dsimp -implicitDefEqProofs only [go_sem, ↓reduceIte, Nat.reduceEqDiff, Nat.reduceAdd, Nat.reduceMul, Nat.reduceLeDiff, Nat.reduceLT, Nat.reduceBEq, Nat.reducePow, Int.reduceToNat, Int.reduceLE, Int.reduceLT, Int.reduceNeg, reduceCtorEq, Int.reduceEq, Int.reduceAdd, Int.reduceSub, Int.reduceMul, Nat.reduceSub, xf, yf, ledA]))
      refine view_turn (nx + 104) (by simp only [Heap.get, xf, yf, if_true, if_false, Nat.add_right_cancel_iff, Nat.add_left_cancel_iff, Nat.reduceEqDiff]) hperm ?_
      repeat' (first | omega | assumption | (show AL.ahead _ _ _ = true; rfl) | refine brF (fun _ => ?_) (fun _ => ?_) | refine brT (fun _ => ?_) (fun _ => ?_) | refine brVF (fun _ => ?_) (fun _ => ?_) | refine brVT (fun _ => ?_) (fun _ => ?_) | (with_reducible refine And.intro ?_ ?_) | (simp -dsimp -implicitDefEqProofs only [go_sem, ↓reduceIte, Nat.reduceEqDiff, Nat.reduceAdd, Nat.reduceMul, Nat.reduceLeDiff, Nat.reduceLT, Nat.reduceBEq, Nat.reducePow, Int.reduceToNat, Int.reduceLE, Int.reduceLT, Int.reduceNeg, reduceCtorEq, Int.reduceEq, Int.reduceAdd, Int.reduceSub, Int.reduceMul, Nat.reduceSub, xf, yf, ledA]))
      apply loop_keep [3, 54] (fun _ : Seen lsp.length => []) (fun st => [(nx + 1048, some (.itr n.s bs2 clk2 st.1)), (n.s, some (.xmp (spentE lsp) bs2 clk2)), (nx + 112, some (.mp (spentE (grewL lsp sd0 st.1)))), (nx + 104, some (.mp (donesE x.done))), (nx + 200, some (.obj (.agg 6 [.ref (nx + 280) 0 [], .ref (nx + 728) 0 [], .map (nx + 104), .map (nx + 112), .sl 32 (sumsA x.order) (nx + 958), n64 x.fees]))), (nx + 956, some (.tail x.order.length)), (nx + 728, some (.obj (boardA (nx + 768) (nx + 808)))), (nx + 768, some (.mp (towsE x.towers))), (nx + 808, some (.mp (holdsE x.holds))), (nx + 280, some (.obj (.agg 1 [.map (nx + 264)]))), (nx + 264, some (.mp (coinsE x.coins)))]) (fun st => lsp.length - st.1.length) Seen.nil
      · simp -dsimp -implicitDefEqProofs only [go_sem, ↓reduceIte, Nat.reduceEqDiff, Nat.reduceAdd, Nat.reduceMul, Nat.reduceLeDiff, Nat.reduceLT, Nat.reduceBEq, Nat.reducePow, Int.reduceToNat, Int.reduceLE, Int.reduceLT, Int.reduceNeg, reduceCtorEq, Int.reduceEq, Int.reduceAdd, Int.reduceSub, Int.reduceMul, Nat.reduceSub]; try rfl
      · simp -dsimp -implicitDefEqProofs only [go_sem, ↓reduceIte, Nat.reduceEqDiff, Nat.reduceAdd, Nat.reduceMul, Nat.reduceLeDiff, Nat.reduceLT, Nat.reduceBEq, Nat.reducePow, Int.reduceToNat, Int.reduceLE, Int.reduceLT, Int.reduceNeg, reduceCtorEq, Int.reduceEq, Int.reduceAdd, Int.reduceSub, Int.reduceMul, Nat.reduceSub]; try rfl
      · simp -dsimp -implicitDefEqProofs only [go_sem, ↓reduceIte, Nat.reduceEqDiff, Nat.reduceAdd, Nat.reduceMul, Nat.reduceLeDiff, Nat.reduceLT, Nat.reduceBEq, Nat.reducePow, Int.reduceToNat, Int.reduceLE, Int.reduceLT, Int.reduceNeg, reduceCtorEq, Int.reduceEq, Int.reduceAdd, Int.reduceSub, Int.reduceMul, Nat.reduceSub, xf, yf, ledA]; try exact ⟨rfl, rfl⟩
      · intro s
        simp -dsimp -implicitDefEqProofs only [go_sem, ↓reduceIte, Nat.reduceEqDiff, Nat.reduceAdd, Nat.reduceMul, Nat.reduceLeDiff, Nat.reduceLT, Nat.reduceBEq, Nat.reducePow, Int.reduceToNat, Int.reduceLE, Int.reduceLT, Int.reduceNeg, reduceCtorEq, Int.reduceEq, Int.reduceAdd, Int.reduceSub, Int.reduceMul, Nat.reduceSub, ledA, boardA]
        try omega
      · intro se2
        simp -dsimp -implicitDefEqProofs only [go_sem, ↓reduceIte, Nat.reduceEqDiff, Nat.reduceAdd, Nat.reduceMul, Nat.reduceLeDiff, Nat.reduceLT, Nat.reduceBEq, Nat.reducePow, Int.reduceToNat, Int.reduceLE, Int.reduceLT, Int.reduceNeg, reduceCtorEq, Int.reduceEq, Int.reduceAdd, Int.reduceSub, Int.reduceMul, Nat.reduceSub, xf, yf]
        refine steps_by (fun j hj => se2.2.2 j hj) (fun hall2 => ?_) (fun i hi hni => ?_)
        · have hperm2 := grew_all (kA := refA) (vA := spendA) x.spent lsp sd0 hp2 se2.1 se2.2.1 se2.2.2 hall2
          generalize grewL lsp sd0 se2.1 = G2 at *
          repeat' (first | omega | assumption | (show AL.ahead _ _ _ = true; rfl) | refine brF (fun _ => ?_) (fun _ => ?_) | refine brT (fun _ => ?_) (fun _ => ?_) | refine brVF (fun _ => ?_) (fun _ => ?_) | refine brVT (fun _ => ?_) (fun _ => ?_) | (with_reducible refine And.intro ?_ ?_) | (simp -dsimp -implicitDefEqProofs only [go_sem, ↓reduceIte, Nat.reduceEqDiff, Nat.reduceAdd, Nat.reduceMul, Nat.reduceLeDiff, Nat.reduceLT, Nat.reduceBEq, Nat.reducePow, Int.reduceToNat, Int.reduceLE, Int.reduceLT, Int.reduceNeg, reduceCtorEq, Int.reduceEq, Int.reduceAdd, Int.reduceSub, Int.reduceMul, Nat.reduceSub, xf, yf, ledA]))
          refine view_turn (nx + 112) (by simp only [Heap.get, xf, yf, if_true, if_false, Nat.add_right_cancel_iff, Nat.add_left_cancel_iff, Nat.reduceEqDiff]) hperm2 ?_
          repeat' (first | omega | assumption | (show AL.ahead _ _ _ = true; rfl) | refine brF (fun _ => ?_) (fun _ => ?_) | refine brT (fun _ => ?_) (fun _ => ?_) | refine brVF (fun _ => ?_) (fun _ => ?_) | refine brVT (fun _ => ?_) (fun _ => ?_) | (with_reducible refine And.intro ?_ ?_) | (simp -dsimp -implicitDefEqProofs only [go_sem, ↓reduceIte, Nat.reduceEqDiff, Nat.reduceAdd, Nat.reduceMul, Nat.reduceLeDiff, Nat.reduceLT, Nat.reduceBEq, Nat.reducePow, Int.reduceToNat, Int.reduceLE, Int.reduceLT, Int.reduceNeg, reduceCtorEq, Int.reduceEq, Int.reduceAdd, Int.reduceSub, Int.reduceMul, Nat.reduceSub, xf, yf, clN, ledA]))
          all_goals first | rfl | (simp only [clN]; omega) | (simp only [boardA, AV.nb, AV.nbs, and_true]; omega) | trace_state
        · have hg := enc_get (kA := refA) (vA := spendA) (d := sd0) hi
          have hgr := grew_cons (kA := refA) (vA := spendA) refA_inj lsp sd0 hnk2 se2.1 se2.2.2 i hi hni
          have hlt2 := se2.lt hi hni
          repeat' (first | omega | assumption | (show AL.ahead _ _ _ = true; rfl) | refine brF (fun _ => ?_) (fun _ => ?_) | refine brT (fun _ => ?_) (fun _ => ?_) | refine brVF (fun _ => ?_) (fun _ => ?_) | refine brVT (fun _ => ?_) (fun _ => ?_) | (with_reducible refine And.intro ?_ ?_) | (simp -dsimp -implicitDefEqProofs only [go_sem, ↓reduceIte, Nat.reduceEqDiff, Nat.reduceAdd, Nat.reduceMul, Nat.reduceLeDiff, Nat.reduceLT, Nat.reduceBEq, Nat.reducePow, Int.reduceToNat, Int.reduceLE, Int.reduceLT, Int.reduceNeg, reduceCtorEq, Int.reduceEq, Int.reduceAdd, Int.reduceSub, Int.reduceMul, Nat.reduceSub, xf, yf, hg, hi, hgr]))
          all_goals first
            | exact ⟨se2.cons i hi hni, by show lsp.length - (se2.1.length + 1) < lsp.length - se2.1.length; omega, rfl, rfl⟩
            | trace_state
    · have hg := enc_get (kA := sumA) (vA := doneA) (d := dn0) hi
      have hgr := grew_cons (kA := sumA) (vA := doneA) sumA_inj ld dn0 hnk se.1 se.2.2 i hi hni
      have hlt2 := se.lt hi hni
      repeat' (first | omega | assumption | (show AL.ahead _ _ _ = true; rfl) | refine brF (fun _ => ?_) (fun _ => ?_) | refine brT (fun _ => ?_) (fun _ => ?_) | refine brVF (fun _ => ?_) (fun _ => ?_) | refine brVT (fun _ => ?_) (fun _ => ?_) | (with_reducible refine And.intro ?_ ?_) | (simp -dsimp -implicitDefEqProofs only [go_sem, ↓reduceIte, Nat.reduceEqDiff, Nat.reduceAdd, Nat.reduceMul, Nat.reduceLeDiff, Nat.reduceLT, Nat.reduceBEq, Nat.reducePow, Int.reduceToNat, Int.reduceLE, Int.reduceLT, Int.reduceNeg, reduceCtorEq, Int.reduceEq, Int.reduceAdd, Int.reduceSub, Int.reduceMul, Nat.reduceSub, xf, yf, hg, hi, hgr]))
      all_goals first
        | exact ⟨se.cons i hi hni, by show ld.length - (se.1.length + 1) < ld.length - se.1.length; omega, rfl, rfl⟩
        | trace_state
end Go.Proofs.YthfoeaokfhbdaaaGreat

/-
  A tower's root; the keys that signed.
-/
set_option linter.unusedSimpArgs false
set_option linter.unusedVariables false
set_option maxRecDepth 100000
set_option maxHeartbeats 1000000
namespace Go.Proofs.YthfoeaokfhbdaaaGreat
open Go Go.AL Go.Proofs.YthfoeaokfhbdaaaGreat.T
attribute [local go_sem] nb_u8s u8s_length nb_sum sumA List.length_replicate u8_wrap take32 List.drop_zero zero_sum sum_h u8s_cons u8s_one u8_gc u8_gd1 u8_cs1 List.length_append u8s_app u8s_nil sums_len nb_sums towerA keyA nb_vals vals_len
theorem sums_set (l : List Sum) (i : Nat) (s : Sum) : (sumsA l).set i (AV.vec 1 (u8s s.b)) = sumsA (l.set i s) := by simp [sumsA, sumA, List.map_set]
theorem sums_csz {l : List Sum} {i : Nat} (h : i < l.length) : ((sumsA l).getD i .undef).csize = 32 := by rw [sums_get h, sum_csz]
noncomputable def rowL (l : List Sum) (i : Nat) : List Sum := (l.take i).map leafS ++ List.replicate (l.length - i) zeroS
theorem rowL_len {l : List Sum} {i : Nat} (h : i ≤ l.length) : (rowL l i).length = l.length := by simp [rowL]; omega
theorem rowL_set {l : List Sum} {i : Nat} (h : i < l.length) : (rowL l i).set i (leafS l[i]) = rowL l (i + 1) := by
  have hl : ((l.take i).map leafS).length = i := by simp; omega
  unfold rowL
  rw [List.set_append_right _ _ (by omega), hl, Nat.sub_self, show l.length - i = (l.length - (i + 1)) + 1 by omega, List.replicate_succ, List.set_cons_zero, ← List.take_append_getElem h, List.map_append]
  simp
theorem rowL_all (l : List Sum) : rowL l l.length = l.map leafS := by simp [rowL]
theorem rowL_zero (l : List Sum) : rowL l 0 = List.replicate l.length zeroS := by simp [rowL]
theorem sums_rep (n : Nat) : List.replicate n (AV.vec 1 (u8s zeroS.b)) = sumsA (List.replicate n zeroS) := by simp [sumsA, sumA]
theorem leaves_spec (nx t : Nat) (l : List Sum) (hl : l.length < 2 ^ 40) (ht : t < 2 ∨ t - 2 < nx) : FnSpec Tryz.prog 174 nx [.sl 32 (sumsA l) t] [] (.aref (nx + 24) 0 [] 32 0 l.length) [(nx + 24, some (.obj (.vec 32 (sumsA (l.map leafS)))))] 300 := by
  have hz := rowL_zero l
  refine FnSpec.of_code (cx := cx) (an := {mt := [8]}) (rs := [.tmp 2]) mo Tryz.func174 rfl rfl (by kernel_rfl) (by kernel_rfl) (by show 1 ≤ _; decide) (.inl rfl) (by simp [allWr, keys, Res.wr]) ?_
  repeat' (first | omega | assumption | (show AL.ahead _ _ _ = true; rfl) | refine brF (fun _ => ?_) (fun _ => ?_) | refine brT (fun _ => ?_) (fun _ => ?_) | refine brVF (fun _ => ?_) (fun _ => ?_) | refine brVT (fun _ => ?_) (fun _ => ?_) | (with_reducible refine And.intro ?_ ?_) | (simp -dsimp -implicitDefEqProofs only [go_sem, ↓reduceIte, Nat.reduceEqDiff, Nat.reduceAdd, Nat.reduceMul, Nat.reduceLeDiff, Nat.reduceLT, Nat.reduceBEq, Nat.reducePow, Int.reduceToNat, Int.reduceLE, Int.reduceLT, Int.reduceNeg, reduceCtorEq, Int.reduceEq, Int.reduceAdd, Int.reduceSub, Int.reduceMul, Nat.reduceSub, sums_rep]))
  rw [← hz]
  apply loop_keep [3, 9, 10] (fun i : { i : Nat // i ≤ l.length } => [(11, n64 i.1)]) (fun i => [(nx + 24, some (.obj (.vec 32 (sumsA (rowL l i.1)))))]) (fun i => l.length - i.1) ⟨0, Nat.zero_le _⟩
  · simp -dsimp -implicitDefEqProofs only [go_sem, ↓reduceIte, Nat.reduceEqDiff, Nat.reduceAdd, Nat.reduceMul, Nat.reduceLeDiff, Nat.reduceLT, Nat.reduceBEq, Nat.reducePow, Int.reduceToNat, Int.reduceLE, Int.reduceLT, Int.reduceNeg, reduceCtorEq, Int.reduceEq, Int.reduceAdd, Int.reduceSub, Int.reduceMul, Nat.reduceSub]; try rfl
  · simp -dsimp -implicitDefEqProofs only [go_sem, ↓reduceIte, Nat.reduceEqDiff, Nat.reduceAdd, Nat.reduceMul, Nat.reduceLeDiff, Nat.reduceLT, Nat.reduceBEq, Nat.reducePow, Int.reduceToNat, Int.reduceLE, Int.reduceLT, Int.reduceNeg, reduceCtorEq, Int.reduceEq, Int.reduceAdd, Int.reduceSub, Int.reduceMul, Nat.reduceSub]; try rfl
  · simp -dsimp -implicitDefEqProofs only [go_sem, ↓reduceIte, Nat.reduceEqDiff, Nat.reduceAdd, Nat.reduceMul, Nat.reduceLeDiff, Nat.reduceLT, Nat.reduceBEq, Nat.reducePow, Int.reduceToNat, Int.reduceLE, Int.reduceLT, Int.reduceNeg, reduceCtorEq, Int.reduceEq, Int.reduceAdd, Int.reduceSub, Int.reduceMul, Nat.reduceSub]; try rfl
  · intro s
    simp -dsimp -implicitDefEqProofs only [go_sem, ↓reduceIte, Nat.reduceEqDiff, Nat.reduceAdd, Nat.reduceMul, Nat.reduceLeDiff, Nat.reduceLT, Nat.reduceBEq, Nat.reducePow, Int.reduceToNat, Int.reduceLE, Int.reduceLT, Int.reduceNeg, reduceCtorEq, Int.reduceEq, Int.reduceAdd, Int.reduceSub, Int.reduceMul, Nat.reduceSub]
    try omega
  · rintro ⟨i, hi⟩
    have hi : i ≤ l.length := hi
    have hle := rowL_len hi
    simp -dsimp -implicitDefEqProofs only [go_sem, ↓reduceIte, Nat.reduceEqDiff, Nat.reduceAdd, Nat.reduceMul, Nat.reduceLeDiff, Nat.reduceLT, Nat.reduceBEq, Nat.reducePow, Int.reduceToNat, Int.reduceLE, Int.reduceLT, Int.reduceNeg, reduceCtorEq, Int.reduceEq, Int.reduceAdd, Int.reduceSub, Int.reduceMul, Nat.reduceSub]
    refine brT (fun h => ?_) (fun h => ?_)
    · have hi2 : i < l.length := by omega
      have q1 := sums_get hi2
      have q2 := sums_csz (l := rowL l i) (i := i) (by omega)
      have q3 := rowL_set hi2
      have w1 : IntKind.i64.wrap ((i : Int) + 1) = ((i + 1 : Nat) : Int) := wrapE (by omega) (by omega)
      repeat' (first | omega | assumption | (show AL.ahead _ _ _ = true; rfl) | refine brF (fun _ => ?_) (fun _ => ?_) | refine brT (fun _ => ?_) (fun _ => ?_) | refine brVF (fun _ => ?_) (fun _ => ?_) | refine brVT (fun _ => ?_) (fun _ => ?_) | (with_reducible refine And.intro ?_ ?_) | (refine callK_by (leaf_spec _ l[i]) ?_) | (simp -dsimp -implicitDefEqProofs only [go_sem, ↓reduceIte, Nat.reduceEqDiff, Nat.reduceAdd, Nat.reduceMul, Nat.reduceLeDiff, Nat.reduceLT, Nat.reduceBEq, Nat.reducePow, Int.reduceToNat, Int.reduceLE, Int.reduceLT, Int.reduceNeg, reduceCtorEq, Int.reduceEq, Int.reduceAdd, Int.reduceSub, Int.reduceMul, Nat.reduceSub, q1, q2, hle, w1, sums_set, q3]))
      exact ⟨⟨i + 1, hi2⟩, by show l.length - (i + 1) < l.length - i; omega, rfl, rfl⟩
    · have e : i = l.length := by omega
      subst e
      repeat' (first | omega | assumption | (show AL.ahead _ _ _ = true; rfl) | refine brF (fun _ => ?_) (fun _ => ?_) | refine brT (fun _ => ?_) (fun _ => ?_) | refine brVF (fun _ => ?_) (fun _ => ?_) | refine brVT (fun _ => ?_) (fun _ => ?_) | (with_reducible refine And.intro ?_ ?_) | (simp -dsimp -implicitDefEqProofs only [go_sem, ↓reduceIte, Nat.reduceEqDiff, Nat.reduceAdd, Nat.reduceMul, Nat.reduceLeDiff, Nat.reduceLT, Nat.reduceBEq, Nat.reducePow, Int.reduceToNat, Int.reduceLE, Int.reduceLT, Int.reduceNeg, reduceCtorEq, Int.reduceEq, Int.reduceAdd, Int.reduceSub, Int.reduceMul, Nat.reduceSub, rowL_all]))
      all_goals trace_state
theorem root1_spec (nx t : Nat) (s : Sum) (ht : t < 2 ∨ t - 2 < nx) : FnSpec Tryz.prog 137 nx [.sl 32 [sumA s] t] [] (sumA (leafS s)) [] 0 := by
  have hlv := fun nc (h : nx ≤ nc) => leaves_spec nc t [s] (by simp) (by omega)
  simp only [List.map_cons, List.map_nil, sumsA] at hlv
  refine FnSpec.of_code (cx := cx) (an := {}) (rs := [.cell 2 23]) mo Tryz.func137 rfl rfl (by kernel_rfl) (by kernel_rfl) (by show 1 ≤ _; decide) (.inl rfl) (by simp [allWr, keys, Res.wr]) ?_
  repeat' (first | omega | assumption | (show AL.ahead _ _ _ = true; rfl) | refine brF (fun _ => ?_) (fun _ => ?_) | refine brT (fun _ => ?_) (fun _ => ?_) | refine brVF (fun _ => ?_) (fun _ => ?_) | refine brVT (fun _ => ?_) (fun _ => ?_) | (with_reducible refine And.intro ?_ ?_) | (refine callK_by (hlv _ (by omega)) ?_) | (simp -dsimp -implicitDefEqProofs only [go_sem, ↓reduceIte, Nat.reduceEqDiff, Nat.reduceAdd, Nat.reduceMul, Nat.reduceLeDiff, Nat.reduceLT, Nat.reduceBEq, Nat.reducePow, Int.reduceToNat, Int.reduceLE, Int.reduceLT, Int.reduceNeg, reduceCtorEq, Int.reduceEq, Int.reduceAdd, Int.reduceSub, Int.reduceMul, Nat.reduceSub, List.map_cons, List.map_nil]))
  apply loop_keep [2] (fun _ : Unit => [(3, .aref (nx + 80) 0 [] 32 0 1)]) (fun _ => [(nx + 80, some (.obj (.vec 32 [sumA (leafS s)]))), (nx, some (.obj (sumA zeroS)))]) (fun _ => 0) ()
  · simp -dsimp -implicitDefEqProofs only [go_sem, ↓reduceIte, Nat.reduceEqDiff, Nat.reduceAdd, Nat.reduceMul, Nat.reduceLeDiff, Nat.reduceLT, Nat.reduceBEq, Nat.reducePow, Int.reduceToNat, Int.reduceLE, Int.reduceLT, Int.reduceNeg, reduceCtorEq, Int.reduceEq, Int.reduceAdd, Int.reduceSub, Int.reduceMul, Nat.reduceSub]; try rfl
  · simp -dsimp -implicitDefEqProofs only [go_sem, ↓reduceIte, Nat.reduceEqDiff, Nat.reduceAdd, Nat.reduceMul, Nat.reduceLeDiff, Nat.reduceLT, Nat.reduceBEq, Nat.reducePow, Int.reduceToNat, Int.reduceLE, Int.reduceLT, Int.reduceNeg, reduceCtorEq, Int.reduceEq, Int.reduceAdd, Int.reduceSub, Int.reduceMul, Nat.reduceSub]; try rfl
  · simp -dsimp -implicitDefEqProofs only [go_sem, ↓reduceIte, Nat.reduceEqDiff, Nat.reduceAdd, Nat.reduceMul, Nat.reduceLeDiff, Nat.reduceLT, Nat.reduceBEq, Nat.reducePow, Int.reduceToNat, Int.reduceLE, Int.reduceLT, Int.reduceNeg, reduceCtorEq, Int.reduceEq, Int.reduceAdd, Int.reduceSub, Int.reduceMul, Nat.reduceSub]; try rfl
  · intro s
    simp -dsimp -implicitDefEqProofs only [go_sem, ↓reduceIte, Nat.reduceEqDiff, Nat.reduceAdd, Nat.reduceMul, Nat.reduceLeDiff, Nat.reduceLT, Nat.reduceBEq, Nat.reducePow, Int.reduceToNat, Int.reduceLE, Int.reduceLT, Int.reduceNeg, reduceCtorEq, Int.reduceEq, Int.reduceAdd, Int.reduceSub, Int.reduceMul, Nat.reduceSub]
    try omega
  · rintro ⟨⟩
    repeat' (first | omega | assumption | (show AL.ahead _ _ _ = true; rfl) | refine brF (fun _ => ?_) (fun _ => ?_) | refine brT (fun _ => ?_) (fun _ => ?_) | refine brVF (fun _ => ?_) (fun _ => ?_) | refine brVT (fun _ => ?_) (fun _ => ?_) | (with_reducible refine And.intro ?_ ?_) | (simp -dsimp -implicitDefEqProofs only [go_sem, ↓reduceIte, Nat.reduceEqDiff, Nat.reduceAdd, Nat.reduceMul, Nat.reduceLeDiff, Nat.reduceLT, Nat.reduceBEq, Nat.reducePow, Int.reduceToNat, Int.reduceLE, Int.reduceLT, Int.reduceNeg, reduceCtorEq, Int.reduceEq, Int.reduceAdd, Int.reduceSub, Int.reduceMul, Nat.reduceSub]))
    all_goals trace_state
end Go.Proofs.YthfoeaokfhbdaaaGreat

/-
  Chains: a new one, and one more block.
-/
import Derived.Test.YthfoeaokfhbdaaaGreatDP92
import Derived.Test.YthfoeaokfhbdaaaGreatDP14
import Derived.Test.YthfoeaokfhbdaaaGreatAL24
import Derived.Test.YthfoeaokfhbdaaaGreatRows
set_option linter.unusedSimpArgs false
set_option linter.unusedVariables false
set_option maxRecDepth 100000
set_option maxHeartbeats 4000000
namespace Go.Proofs.YthfoeaokfhbdaaaGreat
open Go Go.AL Go.Proofs.YthfoeaokfhbdaaaGreat.T
/-- a chain's first head -/
noncomputable def hd1 : Head_ := ⟨id1, 0, joinS 3 [], 0⟩
attribute [local go_sem] nb_u8s u8s_length nb_sum List.length_replicate zero_sum sum_h u8s_nil sums_len nb_sums sum_csz sum_agg sumA_good txA_good txA_csz txA_agg nb_tx nb_head headA_good headA_agg headA_csz heads_len nb_heads outA_good outA_agg outA_csz nb_out1 nb_outs nbK_ref nbK_sum nbK_int nbK_pair nbV_coin nbV_done nbV_spend nbV_tow nbV_hold boardA
theorem cnew_spec (nx : Nat) : FnSpec Tryz.prog 43 nx [.sl 2 [outA (toO 1 5)] 1] [] (.tup [.ref (nx + 4888) 0 [], sumA id1, n64 0]) ((nx + 4888, some (.obj (chA (newN (nx + 192)).l [hd1] 1 [] 1))) :: ledH (newN (nx + 192)) x0) 6000 := by
  have hm : ∀ nc, FnSpec Tryz.prog 77 nc [.agg 66 [sumA zeroS, n64 0, sumA zeroS, n64 0], .sl 0 [] 1] [] (.tup [.agg 67 [.agg 66 [sumA (headS hd00), n64 1, sumA (joinS 3 []), n64 0], .sl 40 [] (nc + 534)], n64 0]) [(nc + 532, some (.tail 0))] 600 := fun nc => make0_spec nc hd00 (by decide) (by decide)
  refine FnSpec.of_code (cx := cx) (an := {mt := [35]}) (rs := [.tmp 2, .cell 3 23, .tmp 4]) mo Tryz.func43 rfl rfl (by kernel_rfl) (by kernel_rfl) (by show 1 ≤ _; decide) (.inr ⟨_, rfl, by simp [AV.good, sumA]⟩) (by simp [allWr, keys, Res.wr]) ?_
  repeat' (first | omega | assumption | (show AL.ahead _ _ _ = true; rfl) | refine brF (fun _ => ?_) (fun _ => ?_) | refine brT (fun _ => ?_) (fun _ => ?_) | refine brVF (fun _ => ?_) (fun _ => ?_) | refine brVT (fun _ => ?_) (fun _ => ?_) | (with_reducible refine And.intro ?_ ?_) | (refine callK_by (new1_spec _) ?_) | (refine callK_by (hm _) ?_) | (simp -dsimp -implicitDefEqProofs only [go_sem, ↓reduceIte, Nat.reduceEqDiff, Nat.reduceAdd, Nat.reduceMul, Nat.reduceLeDiff, Nat.reduceLT, Nat.reduceBEq, Nat.reducePow, Int.reduceToNat, Int.reduceLE, Int.reduceLT, Int.reduceNeg, reduceCtorEq, Int.reduceEq, Int.reduceAdd, Int.reduceSub, Int.reduceMul, Nat.reduceSub, newN, ledA, chA, hd1, headsA, headA, List.map_cons, List.map_nil]))
  all_goals first | rfl | trace_state
/-- the ledger behind a transaction that gives all to the miner -/
noncomputable def x2 : LS := applyS (sp []) 1 5 [] [] x0
theorem ap2_spec (nx : Nat) (n : LN) (hn : n.ok nx) : FnSpec Tryz.prog 12 nx [.ref n.l 0 [], txA (sp []), n64 1] (ledI n x0) (n64 0) (ledH (apN (nx + 408) n) x2) 3000 :=
  applyOk_spec nx n x0 (sp []) 1 hn (sp_ok _ (.inr rfl)) (sp_B _ (.inr rfl)) (by decide) (by decide) x0_co (by show 1 < 2 ^ 40; decide) (x0_done _ id3_ne) 5 (sp_ins _) 0 0 [] [] (eff_none _ _ _ rfl) 5 (by decide) 5 (by show subF 5 [0] = (5, 0); decide)
theorem clN_ok {N nc : Nat} (h : N + 956 < nc) : (clN N).ok nc := by
  refine ⟨?_, ?_, ?_, ?_, ?_, ?_, ?_, ?_, ?_, ?_⟩
  all_goals first | (simp only [clN]; omega) | skip
  simp [clN]
noncomputable def hd2 : Head_ := ⟨headS hd1, 1, leafS (txS (sp [])), 1⟩
theorem cadd_spec (nx c tok : Nat) (n : LN) (hn : n.ok nx) (hc : c < nx) (hne : ∀ m ∈ [n.l, n.v, n.vm, n.b, n.tm, n.hm, n.d, n.s, n.o], c ≠ m) (htok : tok < 2 ∨ tok - 2 < nx) :
    FnSpec Tryz.prog 26 nx [.ref c 0 [], .agg 67 [headA hd2, .sl 40 [txA (sp [])] tok]] ((c, some (.obj (chA n.l [hd1] 1 [] 1))) :: ledR n x0) (.tup [n64 0, n64 0]) ((c, some (.obj (chA (nx + 464) [hd1, hd2] (nx + 9410) [.agg 67 [headA hd2, .sl 40 [txA (sp [])] tok]] (nx + 9498)))) :: (nx + 9408, some (.tail 2)) :: (nx + 9496, some (.tail 1)) :: ledH (apN (nx + 4816) (clN (nx + 264))) x2) 12000 := by
  have x1 := ltF hc
  have xf := hn.xf
  have yf := hn.nf
  have hlt := hn.lt
  have y1 := neF (hne n.l (by simp))
  have y2 := neF (hne n.v (by simp))
  have y3 := neF (hne n.vm (by simp))
  have y4 := neF (hne n.b (by simp))
  have y5 := neF (hne n.tm (by simp))
  have y6 := neF (hne n.hm (by simp))
  have y7 := neF (hne n.d (by simp))
  have y8 := neF (hne n.s (by simp))
  have y9 := neF (hne n.o (by simp))
  have hr := fun nc (q : nx ≤ nc) => right1_spec nc tok (headS hd1) 1 (sp []) (sp_ok _ (.inr rfl)) (by decide) (by decide) (by omega)
  have hn0 := fun nc (q : nx ≤ nc) => cnone_spec nc c n.l [hd1] 1 [] 1 (by omega) (by simp)
  have hhg : ∀ nc, nx ≤ nc → FnSpec Tryz.prog 29 nc [.ref c 0 []] [(c, some (.robj (chA n.l [hd1] 1 [] 1)))] (n64 0) [] 0 := fun nc (q : nx ≤ nc) => cheight_spec nc c n.l [hd1] 1 [] 1 (by omega) (by simp) (by simp)
  have htp := fun nc (q : nx ≤ nc) => ctip_spec nc c n.l [hd1] 1 [] 1 (by omega) (by simp) (by simp) hd1 rfl (by omega)
  have hsm := fun nc => headSum_spec nc hd1
  have hcl := fun nc (q : nx ≤ nc) => lclone_spec nc n x0 (hn.up q) id1 [] rfl (by show 1 < 2 ^ 40; decide)
  have e1 : eqB (AV.vec 1 (u8s (headS hd1).b)) (AV.vec 1 (u8s (headS hd1).b)) = true := eqB_yes rfl
  simp only [headA, sumA] at htp hsm hr
  simp only [chA, headsA, List.map_cons, List.map_nil, headA, sumA] at hn0 hhg htp
  simp only [ledH, clN, ledA] at hcl
  refine FnSpec.of_code (cx := cx) (an := {}) (rs := [.tmp 4, .tmp 5]) mo Tryz.func26 rfl rfl (by kernel_rfl) (by kernel_rfl) (by show 2 ≤ _; decide) (.inr ⟨_, rfl, by simp [AV.good]⟩) (by simp [allWr, keys, Res.wr]) ?_
  repeat' (first | omega | assumption | (show AL.ahead _ _ _ = true; rfl) | refine brF (fun _ => ?_) (fun _ => ?_) | refine brT (fun _ => ?_) (fun _ => ?_) | refine brVF (fun _ => ?_) (fun _ => ?_) | refine brVT (fun _ => ?_) (fun _ => ?_) | (with_reducible refine And.intro ?_ ?_) | (refine callK_by (hn0 _ (by omega)) ?_) | (refine callK_by (hr _ (by omega)) ?_) | (refine callK_by (htp _ (by omega)) ?_) | (refine callK_by (hsm _) ?_) | (refine callK_by (hhg _ (by omega)) ?_) | (refine callK_by (hcl _ (by omega)) ?_) | (simp -dsimp -implicitDefEqProofs only [go_sem, ↓reduceIte, Nat.reduceEqDiff, Nat.reduceAdd, Nat.reduceMul, Nat.reduceLeDiff, Nat.reduceLT, Nat.reduceBEq, Nat.reducePow, Int.reduceToNat, Int.reduceLE, Int.reduceLT, Int.reduceNeg, reduceCtorEq, Int.reduceEq, Int.reduceAdd, Int.reduceSub, Int.reduceMul, Nat.reduceSub, x1, xf, yf, y1, y2, y3, y4, y5, y6, y7, y8, y9, hd2, chA, headsA, List.map_cons, List.map_nil, headA, sumA, e1, w1_64, Int.zero_add, ↓cmp_sum, isSumT]))
  have hap := fun nc (q : nx + 4000 ≤ nc) => ap2_spec nc (clN (nx + 264)) (clN_ok (by omega))
  simp only [ledI, ledH, apN, clN, ledA, Nat.add_assoc, Nat.reduceAdd] at hap
  obtain ⟨HB, hb⟩ : ∃ HB : Bool → Heap, HB = fun b => if b = true then (c, some (.obj (.agg 3 [.ref n.l 0 [], .sl 66 [.agg 66 [.vec 1 (u8s hd1.ahead.b), n64 hd1.height, .vec 1 (u8s hd1.root.b), n64 hd1.many]] 1, .sl 67 [] 1]))) :: ledH (apN (nx + 4816) (clN (nx + 264))) x2 else (c, some (.obj (.agg 3 [.ref n.l 0 [], .sl 66 [.agg 66 [.vec 1 (u8s hd1.ahead.b), n64 hd1.height, .vec 1 (u8s hd1.root.b), n64 hd1.many]] 1, .sl 67 [] 1]))) :: ledH (clN (nx + 264)) x0 := ⟨_, rfl⟩
  have hb0 : HB false = (c, some (.obj (.agg 3 [.ref n.l 0 [], .sl 66 [.agg 66 [.vec 1 (u8s hd1.ahead.b), n64 hd1.height, .vec 1 (u8s hd1.root.b), n64 hd1.many]] 1, .sl 67 [] 1]))) :: ledH (clN (nx + 264)) x0 := by rw [hb]; rfl
  have hb1 : HB true = (c, some (.obj (.agg 3 [.ref n.l 0 [], .sl 66 [.agg 66 [.vec 1 (u8s hd1.ahead.b), n64 hd1.height, .vec 1 (u8s hd1.root.b), n64 hd1.many]] 1, .sl 67 [] 1]))) :: ledH (apN (nx + 4816) (clN (nx + 264))) x2 := by rw [hb]; rfl
  simp only [ledH, apN, clN, ledA, boardA, Nat.add_assoc, Nat.reduceAdd] at hb0 hb1
  clear hb
  obtain ⟨NB, hnb⟩ : ∃ NB : Bool → Nat, NB = fun b => if b = true then nx + 9296 else nx + 4296 := ⟨_, rfl⟩
  have nb0 : NB false = nx + 4296 := by rw [hnb]; rfl
  have nb1 : NB true = nx + 9296 := by rw [hnb]; rfl
  apply loop_grow [0, 3, 6, 40, 41] (fun b : Bool => [(42, n64 (sn b))]) (fun b => HB b) (fun b => 1 - sk b) (fun b => NB b) false
  · simp -dsimp -implicitDefEqProofs only [go_sem, ↓reduceIte, Nat.reduceEqDiff, Nat.reduceAdd, Nat.reduceMul, Nat.reduceLeDiff, Nat.reduceLT, Nat.reduceBEq, Nat.reducePow, Int.reduceToNat, Int.reduceLE, Int.reduceLT, Int.reduceNeg, reduceCtorEq, Int.reduceEq, Int.reduceAdd, Int.reduceSub, Int.reduceMul, Nat.reduceSub]; try rfl
  · simp -dsimp -implicitDefEqProofs only [go_sem, ↓reduceIte, Nat.reduceEqDiff, Nat.reduceAdd, Nat.reduceMul, Nat.reduceLeDiff, Nat.reduceLT, Nat.reduceBEq, Nat.reducePow, Int.reduceToNat, Int.reduceLE, Int.reduceLT, Int.reduceNeg, reduceCtorEq, Int.reduceEq, Int.reduceAdd, Int.reduceSub, Int.reduceMul, Nat.reduceSub, sn_f]; try rfl
  · simp -dsimp -implicitDefEqProofs only [go_sem, ↓reduceIte, Nat.reduceEqDiff, Nat.reduceAdd, Nat.reduceMul, Nat.reduceLeDiff, Nat.reduceLT, Nat.reduceBEq, Nat.reducePow, Int.reduceToNat, Int.reduceLE, Int.reduceLT, Int.reduceNeg, reduceCtorEq, Int.reduceEq, Int.reduceAdd, Int.reduceSub, Int.reduceMul, Nat.reduceSub, hb0, x1, xf, yf, y1, y2, y3, y4, y5, y6, y7, y8, y9]; try rfl
  · intro b
    cases b
    · simp -dsimp -implicitDefEqProofs only [go_sem, ↓reduceIte, Nat.reduceEqDiff, Nat.reduceAdd, Nat.reduceMul, Nat.reduceLeDiff, Nat.reduceLT, Nat.reduceBEq, Nat.reducePow, Int.reduceToNat, Int.reduceLE, Int.reduceLT, Int.reduceNeg, reduceCtorEq, Int.reduceEq, Int.reduceAdd, Int.reduceSub, Int.reduceMul, Nat.reduceSub, hb0, nb0, sn_f]
      try omega
    · simp -dsimp -implicitDefEqProofs only [go_sem, ↓reduceIte, Nat.reduceEqDiff, Nat.reduceAdd, Nat.reduceMul, Nat.reduceLeDiff, Nat.reduceLT, Nat.reduceBEq, Nat.reducePow, Int.reduceToNat, Int.reduceLE, Int.reduceLT, Int.reduceNeg, reduceCtorEq, Int.reduceEq, Int.reduceAdd, Int.reduceSub, Int.reduceMul, Nat.reduceSub, hb1, nb1, sn_t]
      try omega
  · rintro (_ | _)
    · repeat' (first | omega | assumption | (show AL.ahead _ _ _ = true; rfl) | refine brF (fun _ => ?_) (fun _ => ?_) | refine brT (fun _ => ?_) (fun _ => ?_) | refine brVF (fun _ => ?_) (fun _ => ?_) | refine brVT (fun _ => ?_) (fun _ => ?_) | (with_reducible refine And.intro ?_ ?_) | (refine callK_by (hap _ (by omega)) ?_) | (simp -dsimp -implicitDefEqProofs only [go_sem, ↓reduceIte, Nat.reduceEqDiff, Nat.reduceAdd, Nat.reduceMul, Nat.reduceLeDiff, Nat.reduceLT, Nat.reduceBEq, Nat.reducePow, Int.reduceToNat, Int.reduceLE, Int.reduceLT, Int.reduceNeg, reduceCtorEq, Int.reduceEq, Int.reduceAdd, Int.reduceSub, Int.reduceMul, Nat.reduceSub, sn_f, sk_f, hb0, nb0, w1_64, x1, xf, yf, y1, y2, y3, y4, y5, y6, y7, y8, y9]))
      refine ⟨true, by decide, rfl, ?_⟩
      rw [hb1]
      simp -dsimp -implicitDefEqProofs only [go_sem, ↓reduceIte, Nat.reduceEqDiff, Nat.reduceAdd, Nat.reduceMul, Nat.reduceLeDiff, Nat.reduceLT, Nat.reduceBEq, Nat.reducePow, Int.reduceToNat, Int.reduceLE, Int.reduceLT, Int.reduceNeg, reduceCtorEq, Int.reduceEq, Int.reduceAdd, Int.reduceSub, Int.reduceMul, Nat.reduceSub, x1, xf, yf, y1, y2, y3, y4, y5, y6, y7, y8, y9]
      try rfl
    · repeat' (first | omega | assumption | (show AL.ahead _ _ _ = true; rfl) | refine brF (fun _ => ?_) (fun _ => ?_) | refine brT (fun _ => ?_) (fun _ => ?_) | refine brVF (fun _ => ?_) (fun _ => ?_) | refine brVT (fun _ => ?_) (fun _ => ?_) | (with_reducible refine And.intro ?_ ?_) | (simp -dsimp -implicitDefEqProofs only [go_sem, ↓reduceIte, Nat.reduceEqDiff, Nat.reduceAdd, Nat.reduceMul, Nat.reduceLeDiff, Nat.reduceLT, Nat.reduceBEq, Nat.reducePow, Int.reduceToNat, Int.reduceLE, Int.reduceLT, Int.reduceNeg, reduceCtorEq, Int.reduceEq, Int.reduceAdd, Int.reduceSub, Int.reduceMul, Nat.reduceSub, sn_t, sk_t, hb1, nb1, hd2, chA, headsA, List.map_cons, List.map_nil, headA, sumA, x1, xf, yf, y1, y2, y3, y4, y5, y6, y7, y8, y9, List.append_eq, List.cons_append, List.nil_append, ledH, apN, clN, ledA, boardA, Nat.add_assoc]))
      all_goals first | rfl | omega | trace_state
end Go.Proofs.YthfoeaokfhbdaaaGreat

/-
  Chains: a block of one transaction is mined.
-/
set_option linter.unusedSimpArgs false
set_option linter.unusedVariables false
set_option maxRecDepth 100000
set_option maxHeartbeats 4000000
namespace Go.Proofs.YthfoeaokfhbdaaaGreat
open Go Go.AL Go.Proofs.YthfoeaokfhbdaaaGreat.T
attribute [local go_sem] nb_u8s u8s_length nb_sum List.length_replicate zero_sum sum_h u8s_nil sums_len nb_sums sum_csz sum_agg sumA_good txA_good txA_csz txA_agg nb_tx nb_head headA_good headA_agg headA_csz heads_len nb_heads nbK_ref nbK_sum nbK_int nbK_pair nbV_coin nbV_done nbV_spend nbV_tow nbV_hold boardA
theorem cmine_spec (nx c tok : Nat) (n : LN) (hn : n.ok nx) (hc : c < nx) (hne : ∀ m ∈ [n.l, n.v, n.vm, n.b, n.tm, n.hm, n.d, n.s, n.o], c ≠ m) (htok : tok < 2 ∨ tok - 2 < nx) :
    FnSpec Tryz.prog 25 nx [.ref c 0 [], .sl 40 [txA (sp [])] tok] ((c, some (.obj (chA n.l [hd1] 1 [] 1))) :: ledR n x0) (.tup [.sl 32 [sumA (txS (sp []))] (nx + 4091), n64 0]) ((nx + 4089, some (.tail 1)) :: (c, some (.obj (chA (nx + 5352) [hd1, hd2] (nx + 14298) [.agg 67 [headA hd2, .sl 40 [txA (sp [])] (nx + 4742)]] (nx + 14386)))) :: (nx + 14296, some (.tail 2)) :: (nx + 14384, some (.tail 1)) :: ledH (apN (nx + 9704) (clN (nx + 5152))) x2) 30000 := by
  have x1 := ltF hc
  have xf := hn.xf
  have yf := hn.nf
  have hlt := hn.lt
  have y1 := neF (hne n.l (by simp))
  have y2 := neF (hne n.v (by simp))
  have y3 := neF (hne n.vm (by simp))
  have y4 := neF (hne n.b (by simp))
  have y5 := neF (hne n.tm (by simp))
  have y6 := neF (hne n.hm (by simp))
  have y7 := neF (hne n.d (by simp))
  have y8 := neF (hne n.s (by simp))
  have y9 := neF (hne n.o (by simp))
  have hn0 := fun nc (q : nx ≤ nc) => cnone_spec nc c n.l [hd1] 1 [] 1 (by omega) (by simp)
  have hhg : ∀ nc, nx ≤ nc → FnSpec Tryz.prog 29 nc [.ref c 0 []] [(c, some (.robj (chA n.l [hd1] 1 [] 1)))] (n64 0) [] 0 := fun nc (q : nx ≤ nc) => cheight_spec nc c n.l [hd1] 1 [] 1 (by omega) (by simp) (by simp)
  have htp := fun nc (q : nx ≤ nc) => ctip_spec nc c n.l [hd1] 1 [] 1 (by omega) (by simp) (by simp) hd1 rfl (by omega)
  have hcl := fun nc (q : nx ≤ nc) => lclone_spec nc n x0 (hn.up q) id1 [] rfl (by show 1 < 2 ^ 40; decide)
  have hsm := fun nc => txSum_spec nc (sp []) (sp_ok _ (.inr rfl)).b (sp_ok _ (.inr rfl)).k
  simp only [chA, headsA, List.map_cons, List.map_nil, headA] at hn0 hhg htp
  simp only [ledH, clN, ledA] at hcl
  refine FnSpec.of_code (cx := cx) (an := {tk := [(7, [([], 40)]), (8, [([], 32)])]}) (rs := [.tmp 4, .tmp 5]) mo Tryz.func25 rfl rfl (by kernel_rfl) (by kernel_rfl) (by show 2 ≤ _; decide) (.inr ⟨_, rfl, by simp [AV.good, sumA]⟩) (by simp [allWr, keys, Res.wr]) ?_
  repeat' (first | omega | assumption | (show AL.ahead _ _ _ = true; rfl) | refine brF (fun _ => ?_) (fun _ => ?_) | refine brT (fun _ => ?_) (fun _ => ?_) | refine brVF (fun _ => ?_) (fun _ => ?_) | refine brVT (fun _ => ?_) (fun _ => ?_) | (with_reducible refine And.intro ?_ ?_) | (refine callK_by (hn0 _ (by omega)) ?_) | (refine callK_by (hcl _ (by omega)) ?_) | (simp -dsimp -implicitDefEqProofs only [go_sem, ↓reduceIte, Nat.reduceEqDiff, Nat.reduceAdd, Nat.reduceMul, Nat.reduceLeDiff, Nat.reduceLT, Nat.reduceBEq, Nat.reducePow, Int.reduceToNat, Int.reduceLE, Int.reduceLT, Int.reduceNeg, reduceCtorEq, Int.reduceEq, Int.reduceAdd, Int.reduceSub, Int.reduceMul, Nat.reduceSub, x1, xf, yf, y1, y2, y3, y4, y5, y6, y7, y8, y9, chA, headsA, List.map_cons, List.map_nil, headA]))
  have hap := fun nc (q : nx + 2000 ≤ nc) => ap2_spec nc (clN (nx + 80)) (clN_ok (by omega))
  simp only [ledI, ledH, apN, clN, ledA, Nat.add_assoc, Nat.reduceAdd] at hap
  obtain ⟨HB, hb⟩ : ∃ HB : Bool → Heap, HB = fun b => if b = true then (nx + 4089, some (.tail 1)) :: (nx + 4081, some (.tail 1)) :: (c, some (.obj (.agg 3 [.ref n.l 0 [], .sl 66 [.agg 66 [sumA hd1.ahead, n64 hd1.height, sumA hd1.root, n64 hd1.many]] 1, .sl 67 [] 1]))) :: ledR n x0 else (nx + 4089, some (.tail 0)) :: (nx + 4081, some (.tail 0)) :: (c, some (.obj (.agg 3 [.ref n.l 0 [], .sl 66 [.agg 66 [sumA hd1.ahead, n64 hd1.height, sumA hd1.root, n64 hd1.many]] 1, .sl 67 [] 1]))) :: (ledR n x0 ++ ledH (clN (nx + 80)) x0) := ⟨_, rfl⟩
  have hb0 : HB false = (nx + 4089, some (.tail 0)) :: (nx + 4081, some (.tail 0)) :: (c, some (.obj (.agg 3 [.ref n.l 0 [], .sl 66 [.agg 66 [sumA hd1.ahead, n64 hd1.height, sumA hd1.root, n64 hd1.many]] 1, .sl 67 [] 1]))) :: (ledR n x0 ++ ledH (clN (nx + 80)) x0) := by rw [hb]; rfl
  have hb1 : HB true = (nx + 4089, some (.tail 1)) :: (nx + 4081, some (.tail 1)) :: (c, some (.obj (.agg 3 [.ref n.l 0 [], .sl 66 [.agg 66 [sumA hd1.ahead, n64 hd1.height, sumA hd1.root, n64 hd1.many]] 1, .sl 67 [] 1]))) :: ledR n x0 := by rw [hb]; rfl
  simp only [ledH, ledR, apN, clN, ledA, boardA, Nat.add_assoc, Nat.reduceAdd, List.cons_append, List.nil_append] at hb0 hb1
  clear hb
  obtain ⟨L7, hl7⟩ : ∃ L : Bool → List AV, L = fun b => if b = true then [txA (sp [])] else [] := ⟨_, rfl⟩
  have l70 : L7 false = [] := by rw [hl7]; rfl
  have l71 : L7 true = [txA (sp [])] := by rw [hl7]; rfl
  obtain ⟨L8, hl8⟩ : ∃ L : Bool → List AV, L = fun b => if b = true then [sumA (txS (sp []))] else [] := ⟨_, rfl⟩
  have l80 : L8 false = [] := by rw [hl8]; rfl
  have l81 : L8 true = [sumA (txS (sp []))] := by rw [hl8]; rfl
  apply loop_keep [0, 6, 22, 23] (fun b : Bool => [(7, .sl 40 (L7 b) (nx + 4083)), (8, .sl 32 (L8 b) (nx + 4091)), (24, n64 (sn b))]) (fun b => HB b) (fun b => 1 - sk b) false
  · simp -dsimp -implicitDefEqProofs only [go_sem, ↓reduceIte, Nat.reduceEqDiff, Nat.reduceAdd, Nat.reduceMul, Nat.reduceLeDiff, Nat.reduceLT, Nat.reduceBEq, Nat.reducePow, Int.reduceToNat, Int.reduceLE, Int.reduceLT, Int.reduceNeg, reduceCtorEq, Int.reduceEq, Int.reduceAdd, Int.reduceSub, Int.reduceMul, Nat.reduceSub]; try rfl
  · simp -dsimp -implicitDefEqProofs only [go_sem, ↓reduceIte, Nat.reduceEqDiff, Nat.reduceAdd, Nat.reduceMul, Nat.reduceLeDiff, Nat.reduceLT, Nat.reduceBEq, Nat.reducePow, Int.reduceToNat, Int.reduceLE, Int.reduceLT, Int.reduceNeg, reduceCtorEq, Int.reduceEq, Int.reduceAdd, Int.reduceSub, Int.reduceMul, Nat.reduceSub, sn_f, l70, l80]; try rfl
  · simp -dsimp -implicitDefEqProofs only [go_sem, ↓reduceIte, Nat.reduceEqDiff, Nat.reduceAdd, Nat.reduceMul, Nat.reduceLeDiff, Nat.reduceLT, Nat.reduceBEq, Nat.reducePow, Int.reduceToNat, Int.reduceLE, Int.reduceLT, Int.reduceNeg, reduceCtorEq, Int.reduceEq, Int.reduceAdd, Int.reduceSub, Int.reduceMul, Nat.reduceSub, hb0, x1, xf, yf, y1, y2, y3, y4, y5, y6, y7, y8, y9, ledA, boardA]; try rfl
  · intro b
    cases b
    · simp -dsimp -implicitDefEqProofs only [go_sem, ↓reduceIte, Nat.reduceEqDiff, Nat.reduceAdd, Nat.reduceMul, Nat.reduceLeDiff, Nat.reduceLT, Nat.reduceBEq, Nat.reducePow, Int.reduceToNat, Int.reduceLE, Int.reduceLT, Int.reduceNeg, reduceCtorEq, Int.reduceEq, Int.reduceAdd, Int.reduceSub, Int.reduceMul, Nat.reduceSub, hb0, sn_f, l70, l80]
      try omega
    · simp -dsimp -implicitDefEqProofs only [go_sem, ↓reduceIte, Nat.reduceEqDiff, Nat.reduceAdd, Nat.reduceMul, Nat.reduceLeDiff, Nat.reduceLT, Nat.reduceBEq, Nat.reducePow, Int.reduceToNat, Int.reduceLE, Int.reduceLT, Int.reduceNeg, reduceCtorEq, Int.reduceEq, Int.reduceAdd, Int.reduceSub, Int.reduceMul, Nat.reduceSub, hb1, sn_t, l71, l81]
      try omega
  · rintro (_ | _)
    · repeat' (first | omega | assumption | (show AL.ahead _ _ _ = true; rfl) | refine brF (fun _ => ?_) (fun _ => ?_) | refine brT (fun _ => ?_) (fun _ => ?_) | refine brVF (fun _ => ?_) (fun _ => ?_) | refine brVT (fun _ => ?_) (fun _ => ?_) | (with_reducible refine And.intro ?_ ?_) | (refine callK_by (hap _ (by omega)) ?_) | (refine callK_by (hhg _ (by omega)) ?_) | (refine callK_by (hsm _) ?_) | (simp -dsimp -implicitDefEqProofs only [go_sem, ↓reduceIte, Nat.reduceEqDiff, Nat.reduceAdd, Nat.reduceMul, Nat.reduceLeDiff, Nat.reduceLT, Nat.reduceBEq, Nat.reducePow, Int.reduceToNat, Int.reduceLE, Int.reduceLT, Int.reduceNeg, reduceCtorEq, Int.reduceEq, Int.reduceAdd, Int.reduceSub, Int.reduceMul, Nat.reduceSub, sn_f, sk_f, hb0, l70, l80, w1_64, Int.zero_add, x1, xf, yf, y1, y2, y3, y4, y5, y6, y7, y8, y9, List.append_eq, List.cons_append, List.nil_append]))
      refine ⟨true, by decide, ⟨by rw [l71], by rw [l81], rfl⟩, ?_⟩
      rw [hb1]
      simp -dsimp -implicitDefEqProofs only [go_sem, ↓reduceIte, Nat.reduceEqDiff, Nat.reduceAdd, Nat.reduceMul, Nat.reduceLeDiff, Nat.reduceLT, Nat.reduceBEq, Nat.reducePow, Int.reduceToNat, Int.reduceLE, Int.reduceLT, Int.reduceNeg, reduceCtorEq, Int.reduceEq, Int.reduceAdd, Int.reduceSub, Int.reduceMul, Nat.reduceSub, x1, xf, yf, y1, y2, y3, y4, y5, y6, y7, y8, y9]
      try rfl
    · have hmk : ∀ nc, nx + 4100 ≤ nc → FnSpec Tryz.prog 77 nc [.agg 66 [sumA hd1.ahead, n64 hd1.height, sumA hd1.root, n64 hd1.many], .sl 40 [txA (sp [])] (nx + 4083)] [] (.tup [.agg 67 [.agg 66 [sumA (headS hd1), n64 1, sumA (leafS (txS (sp []))), n64 1], .sl 40 [txA (sp [])] (nc + 534)], n64 0]) [(nc + 532, some (.tail 1))] 600 := fun nc q => make1_spec nc (nx + 4083) hd1 (sp []) (sp_ok _ (.inr rfl)) (by decide) (by decide) (by omega)
      have hadd := fun nc (q : nx + 4800 ≤ nc) => cadd_spec nc c (nx + 4742) n (hn.up (by omega)) (by omega) hne (by omega)
      simp only [ledH, ledR, apN, clN, ledA, boardA, chA, headsA, List.map_cons, List.map_nil, headA, hd2, Nat.add_assoc, Nat.reduceAdd] at hadd
      repeat' (first | omega | assumption | (show AL.ahead _ _ _ = true; rfl) | refine brF (fun _ => ?_) (fun _ => ?_) | refine brT (fun _ => ?_) (fun _ => ?_) | refine brVF (fun _ => ?_) (fun _ => ?_) | refine brVT (fun _ => ?_) (fun _ => ?_) | (with_reducible refine And.intro ?_ ?_) | (refine callK_by (htp _ (by omega)) ?_) | (refine callK_by (hmk _ (by omega)) ?_) | (refine callK_by (hadd _ (by omega)) ?_) | (simp -dsimp -implicitDefEqProofs only [go_sem, ↓reduceIte, Nat.reduceEqDiff, Nat.reduceAdd, Nat.reduceMul, Nat.reduceLeDiff, Nat.reduceLT, Nat.reduceBEq, Nat.reducePow, Int.reduceToNat, Int.reduceLE, Int.reduceLT, Int.reduceNeg, reduceCtorEq, Int.reduceEq, Int.reduceAdd, Int.reduceSub, Int.reduceMul, Nat.reduceSub, sn_t, sk_t, hb1, l71, l81, x1, xf, yf, y1, y2, y3, y4, y5, y6, y7, y8, y9, chA, headsA, List.map_cons, List.map_nil, headA, hd2, ledH, apN, clN, ledA, boardA, Nat.add_assoc]))
      all_goals first | rfl | omega | trace_state
end Go.Proofs.YthfoeaokfhbdaaaGreat

/-
  The law ChainNobody.
-/
set_option linter.unusedSimpArgs false
set_option linter.unusedVariables false
set_option maxRecDepth 100000
set_option maxHeartbeats 4000000
namespace Go.Proofs.YthfoeaokfhbdaaaGreat
open Go Go.AL Go.Proofs.YthfoeaokfhbdaaaGreat.T
attribute [local go_sem] nb_u8s u8s_length nb_sum List.length_replicate zero_sum sum_h u8s_nil sums_len nb_sums sum_csz sum_agg sumA_good txA_good txA_csz txA_agg nb_tx nb_head headA_good headA_agg headA_csz heads_len nb_heads outA_good outA_agg outA_csz nb_out1 nb_outs
theorem cnone_nil (nx : Nat) : FnSpec Tryz.prog 76 nx [nilP] [] (bA true) [] 0 := by
  refine FnSpec.of_code (cx := cx) (an := {}) (rs := [.tmp 2]) mo Tryz.func76 rfl rfl (by kernel_rfl) (by kernel_rfl) (by show 1 ≤ _; decide) (.inl rfl) (by simp [allWr, keys, Res.wr]) ?_
  repeat' (first | omega | assumption | (show AL.ahead _ _ _ = true; rfl) | refine brF (fun _ => ?_) (fun _ => ?_) | refine brT (fun _ => ?_) (fun _ => ?_) | refine brVF (fun _ => ?_) (fun _ => ?_) | refine brVT (fun _ => ?_) (fun _ => ?_) | (with_reducible refine And.intro ?_ ?_) | (simp -dsimp -implicitDefEqProofs only [go_sem, ↓reduceIte, Nat.reduceEqDiff, Nat.reduceAdd, Nat.reduceMul, Nat.reduceLeDiff, Nat.reduceLT, Nat.reduceBEq, Nat.reducePow, Int.reduceToNat, Int.reduceLE, Int.reduceLT, Int.reduceNeg, reduceCtorEq, Int.reduceEq, Int.reduceAdd, Int.reduceSub, Int.reduceMul, Nat.reduceSub]))
  all_goals first | rfl | trace_state
theorem cmine_nil (nx : Nat) : FnSpec Tryz.prog 25 nx [nilP, .sl 0 [] 1] [] (.tup [.sl 0 [] 1, n64 1]) [] 0 := by
  refine FnSpec.of_code (cx := cx) (an := {}) (rs := [.tmp 4, .tmp 5]) mo Tryz.func25 rfl rfl (by kernel_rfl) (by kernel_rfl) (by show 2 ≤ _; decide) (.inr ⟨_, rfl, by simp [AV.good]⟩) (by simp [allWr, keys, Res.wr]) ?_
  repeat' (first | omega | assumption | (show AL.ahead _ _ _ = true; rfl) | refine brF (fun _ => ?_) (fun _ => ?_) | refine brT (fun _ => ?_) (fun _ => ?_) | refine brVF (fun _ => ?_) (fun _ => ?_) | refine brVT (fun _ => ?_) (fun _ => ?_) | (with_reducible refine And.intro ?_ ?_) | (refine callK_by (cnone_nil _) ?_) | (simp -dsimp -implicitDefEqProofs only [go_sem, ↓reduceIte, Nat.reduceEqDiff, Nat.reduceAdd, Nat.reduceMul, Nat.reduceLeDiff, Nat.reduceLT, Nat.reduceBEq, Nat.reducePow, Int.reduceToNat, Int.reduceLE, Int.reduceLT, Int.reduceNeg, reduceCtorEq, Int.reduceEq, Int.reduceAdd, Int.reduceSub, Int.reduceMul, Nat.reduceSub]))
  all_goals first | rfl | trace_state
theorem cadd_nil (nx : Nat) (b : AV) (hb : b = .agg 67 [.agg 66 [sumA zeroS, n64 0, sumA zeroS, n64 0], .sl 40 [] 1]) : FnSpec Tryz.prog 26 nx [nilP, b] [] (.tup [n64 0, n64 1]) [] 0 := by
  subst hb
  refine FnSpec.of_code (cx := cx) (an := {}) (rs := [.tmp 4, .tmp 5]) mo Tryz.func26 rfl rfl (by kernel_rfl) (by kernel_rfl) (by show 2 ≤ _; decide) (.inr ⟨_, rfl, by simp [AV.good]⟩) (by simp [allWr, keys, Res.wr]) ?_
  repeat' (first | omega | assumption | (show AL.ahead _ _ _ = true; rfl) | refine brF (fun _ => ?_) (fun _ => ?_) | refine brT (fun _ => ?_) (fun _ => ?_) | refine brVF (fun _ => ?_) (fun _ => ?_) | refine brVT (fun _ => ?_) (fun _ => ?_) | (with_reducible refine And.intro ?_ ?_) | (refine callK_by (cnone_nil _) ?_) | (simp -dsimp -implicitDefEqProofs only [go_sem, ↓reduceIte, Nat.reduceEqDiff, Nat.reduceAdd, Nat.reduceMul, Nat.reduceLeDiff, Nat.reduceLT, Nat.reduceBEq, Nat.reducePow, Int.reduceToNat, Int.reduceLE, Int.reduceLT, Int.reduceNeg, reduceCtorEq, Int.reduceEq, Int.reduceAdd, Int.reduceSub, Int.reduceMul, Nat.reduceSub]))
  all_goals first | rfl | trace_state
theorem chead_nil (nx : Nat) (i : Int) : FnSpec Tryz.prog 27 nx [nilP, n64 i] [] (.tup [.agg 66 [sumA zeroS, n64 0, sumA zeroS, n64 0], bA false]) [] 0 := by
  refine FnSpec.of_code (cx := cx) (an := {}) (rs := [.cell 4 84, .tmp 5]) mo Tryz.func27 rfl rfl (by kernel_rfl) (by kernel_rfl) (by show 2 ≤ _; decide) (.inr ⟨_, rfl, by simp [AV.good]⟩) (by simp [allWr, keys, Res.wr]) ?_
  repeat' (first | omega | assumption | (show AL.ahead _ _ _ = true; rfl) | refine brF (fun _ => ?_) (fun _ => ?_) | refine brT (fun _ => ?_) (fun _ => ?_) | refine brVF (fun _ => ?_) (fun _ => ?_) | refine brVT (fun _ => ?_) (fun _ => ?_) | (with_reducible refine And.intro ?_ ?_) | (refine callK_by (cnone_nil _) ?_) | (simp -dsimp -implicitDefEqProofs only [go_sem, ↓reduceIte, Nat.reduceEqDiff, Nat.reduceAdd, Nat.reduceMul, Nat.reduceLeDiff, Nat.reduceLT, Nat.reduceBEq, Nat.reducePow, Int.reduceToNat, Int.reduceLE, Int.reduceLT, Int.reduceNeg, reduceCtorEq, Int.reduceEq, Int.reduceAdd, Int.reduceSub, Int.reduceMul, Nat.reduceSub]))
  all_goals first | rfl | trace_state
theorem cblock_nil (nx : Nat) (i : Int) : FnSpec Tryz.prog 28 nx [nilP, n64 i] [] (.tup [.agg 67 [.agg 66 [sumA zeroS, n64 0, sumA zeroS, n64 0], .sl 40 [] 1], bA false]) [] 0 := by
  refine FnSpec.of_code (cx := cx) (an := {}) (rs := [.cell 4 87, .tmp 5]) mo Tryz.func28 rfl rfl (by kernel_rfl) (by kernel_rfl) (by show 2 ≤ _; decide) (.inr ⟨_, rfl, by simp [AV.good]⟩) (by simp [allWr, keys, Res.wr]) ?_
  repeat' (first | omega | assumption | (show AL.ahead _ _ _ = true; rfl) | refine brF (fun _ => ?_) (fun _ => ?_) | refine brT (fun _ => ?_) (fun _ => ?_) | refine brVF (fun _ => ?_) (fun _ => ?_) | refine brVT (fun _ => ?_) (fun _ => ?_) | (with_reducible refine And.intro ?_ ?_) | (refine callK_by (cnone_nil _) ?_) | (simp -dsimp -implicitDefEqProofs only [go_sem, ↓reduceIte, Nat.reduceEqDiff, Nat.reduceAdd, Nat.reduceMul, Nat.reduceLeDiff, Nat.reduceLT, Nat.reduceBEq, Nat.reducePow, Int.reduceToNat, Int.reduceLE, Int.reduceLT, Int.reduceNeg, reduceCtorEq, Int.reduceEq, Int.reduceAdd, Int.reduceSub, Int.reduceMul, Nat.reduceSub]))
  all_goals first | rfl | trace_state
theorem cheight_nil (nx : Nat) : FnSpec Tryz.prog 29 nx [nilP] [] (n64 0) [] 0 := by
  refine FnSpec.of_code (cx := cx) (an := {}) (rs := [.tmp 2]) mo Tryz.func29 rfl rfl (by kernel_rfl) (by kernel_rfl) (by show 1 ≤ _; decide) (.inl rfl) (by simp [allWr, keys, Res.wr]) ?_
  repeat' (first | omega | assumption | (show AL.ahead _ _ _ = true; rfl) | refine brF (fun _ => ?_) (fun _ => ?_) | refine brT (fun _ => ?_) (fun _ => ?_) | refine brVF (fun _ => ?_) (fun _ => ?_) | refine brVT (fun _ => ?_) (fun _ => ?_) | (with_reducible refine And.intro ?_ ?_) | (refine callK_by (cnone_nil _) ?_) | (simp -dsimp -implicitDefEqProofs only [go_sem, ↓reduceIte, Nat.reduceEqDiff, Nat.reduceAdd, Nat.reduceMul, Nat.reduceLeDiff, Nat.reduceLT, Nat.reduceBEq, Nat.reducePow, Int.reduceToNat, Int.reduceLE, Int.reduceLT, Int.reduceNeg, reduceCtorEq, Int.reduceEq, Int.reduceAdd, Int.reduceSub, Int.reduceMul, Nat.reduceSub]))
  all_goals first | rfl | trace_state
theorem cdeep_nil (nx : Nat) (id : Sum) : FnSpec Tryz.prog 30 nx [nilP, sumA id] [] (n64 0) [] 0 := by
  refine FnSpec.of_code (cx := cx) (an := {}) (rs := [.tmp 4]) mo Tryz.func30 rfl rfl (by kernel_rfl) (by kernel_rfl) (by show 2 ≤ _; decide) (.inl rfl) (by simp [allWr, keys, Res.wr]) ?_
  repeat' (first | omega | assumption | (show AL.ahead _ _ _ = true; rfl) | refine brF (fun _ => ?_) (fun _ => ?_) | refine brT (fun _ => ?_) (fun _ => ?_) | refine brVF (fun _ => ?_) (fun _ => ?_) | refine brVT (fun _ => ?_) (fun _ => ?_) | (with_reducible refine And.intro ?_ ?_) | (refine callK_by (cnone_nil _) ?_) | (simp -dsimp -implicitDefEqProofs only [go_sem, ↓reduceIte, Nat.reduceEqDiff, Nat.reduceAdd, Nat.reduceMul, Nat.reduceLeDiff, Nat.reduceLT, Nat.reduceBEq, Nat.reducePow, Int.reduceToNat, Int.reduceLE, Int.reduceLT, Int.reduceNeg, reduceCtorEq, Int.reduceEq, Int.reduceAdd, Int.reduceSub, Int.reduceMul, Nat.reduceSub]))
  all_goals first | rfl | trace_state
theorem ctip_nil (nx : Nat) : FnSpec Tryz.prog 31 nx [nilP] [] (.agg 66 [sumA zeroS, n64 0, sumA zeroS, n64 0]) [] 0 := by
  refine FnSpec.of_code (cx := cx) (an := {}) (rs := [.cell 2 84]) mo Tryz.func31 rfl rfl (by kernel_rfl) (by kernel_rfl) (by show 1 ≤ _; decide) (.inl rfl) (by simp [allWr, keys, Res.wr]) ?_
  repeat' (first | omega | assumption | (show AL.ahead _ _ _ = true; rfl) | refine brF (fun _ => ?_) (fun _ => ?_) | refine brT (fun _ => ?_) (fun _ => ?_) | refine brVF (fun _ => ?_) (fun _ => ?_) | refine brVT (fun _ => ?_) (fun _ => ?_) | (with_reducible refine And.intro ?_ ?_) | (refine callK_by (cheight_nil _) ?_) | (refine callK_by (chead_nil _ 0) ?_) | (simp -dsimp -implicitDefEqProofs only [go_sem, ↓reduceIte, Nat.reduceEqDiff, Nat.reduceAdd, Nat.reduceMul, Nat.reduceLeDiff, Nat.reduceLT, Nat.reduceBEq, Nat.reducePow, Int.reduceToNat, Int.reduceLE, Int.reduceLT, Int.reduceNeg, reduceCtorEq, Int.reduceEq, Int.reduceAdd, Int.reduceSub, Int.reduceMul, Nat.reduceSub]))
  all_goals first | rfl | trace_state
theorem spSign0 (nx : Nat) :
    FnSpec Tryz.prog 8 nx [.agg 40 [.sl 35 [.agg 35 [.agg 33 [sumA id1, n64 0], n64 0, .sl 1 [] 1]] 1, .sl 2 [] 1, .agg 37 [n64 0, n64 0, n64 0, n64 0, sumA zeroS, .sl 1 [] 1], .sl 33 [] 1], .sl 1 [n64 1] 1] [] (txA (sp [])) [] 0 := by
  refine (signed_spec nx 1 (tx1 []) 1 rfl (sp_b [] (by simp)) (fun o ho => by simp [tx1] at ho) (.inl (by decide))).le ?_
  refine ⟨_, _, rfl, ⟨_, rfl, _, _, rfl, ⟨_, _, rfl, ?_, .inr (.inl rfl)⟩, _, _, rfl, ⟨_, _, rfl, AV.les_refl _, .inr (.inl rfl)⟩, _, _, rfl, ⟨_, rfl, ?_⟩, AV.les_refl _⟩, AV.les_refl _⟩
  · exact ⟨_, _, rfl, ⟨_, rfl, _, _, rfl, AV.le_refl _, _, _, rfl, AV.le_refl _, _, _, rfl, ⟨_, _, rfl, AV.les_refl _, .inr (.inl rfl)⟩, rfl⟩, rfl⟩
  · exact ⟨_, _, rfl, AV.le_refl _, _, _, rfl, AV.le_refl _, _, _, rfl, AV.le_refl _, _, _, rfl, AV.le_refl _, _, _, rfl, AV.le_refl _, _, _, rfl, ⟨_, _, rfl, AV.les_refl _, .inr (.inl rfl)⟩, rfl⟩
theorem x2_done : lookM (txS (sp [])) x2.done = some ⟨sp [], 1⟩ := by
  show lookM (txS (sp [])) (setM (txS (sp [])) _ _) = _
  rw [lookM_set, if_pos rfl]
theorem x2_done1 : lookM id1 x2.done = some ⟨txO [toO 1 5], 0⟩ := by
  show lookM id1 (setM (txS (sp [])) _ [(id1, _)]) = _
  rw [lookM_set, if_neg (fun h => id3_ne (by rw [← sp_id]; exact h.symm))]
  simp [lookM]
theorem cawake_spec (nx : Nat) : FnSpec Tryz.prog 32 nx [] [] (bA true) [] 0 := by
  have hn0 : (newN (nx + 288)).ok (nx + 6264) := newN_ok (by omega)
  have hm1 := cmine_spec (nx + 6264) (nx + 4984) 1 (newN (nx + 288)) hn0 (by omega) (by simp [newN]) (.inl (by decide))
  have hn1 := fun nc (q : nx + 36264 ≤ nc) => apN_ok (n := clN (nx + 11416)) (nx := nx + 13000) (N := nx + 15968) (nc := nc) (clN_ok (by omega)) (by omega) (by omega)
  have hd1' := fun nc (q : nx + 36264 ≤ nc) => cdeep_spec nc (nx + 4984) [hd1, hd2] (nx + 20562) [.agg 67 [headA hd2, .sl 40 [txA (sp [])] (nx + 11006)]] (nx + 20650) (apN (nx + 15968) (clN (nx + 11416))) x2 (hn1 nc q) (by omega) (by simp) (by simp) (by simp [apN, clN]) (by simp [apN, clN]) id1 _ x2_done1
  have hd2' := fun nc (q : nx + 36264 ≤ nc) => cdeep_spec nc (nx + 4984) [hd1, hd2] (nx + 20562) [.agg 67 [headA hd2, .sl 40 [txA (sp [])] (nx + 11006)]] (nx + 20650) (apN (nx + 15968) (clN (nx + 11416))) x2 (hn1 nc q) (by omega) (by simp) (by simp) (by simp [apN, clN]) (by simp [apN, clN]) (txS (sp [])) _ x2_done
  have e1 : w64 (w64 ((([hd1, hd2].length - 1 : Nat) : Int) - 0) + 1) = 2 := by decide
  have e2 : w64 (w64 ((([hd1, hd2].length - 1 : Nat) : Int) - 1) + 1) = 1 := by decide
  rw [e1] at hd1'
  rw [e2] at hd2'
  have hh : ∀ nc, nx + 36264 ≤ nc → FnSpec Tryz.prog 29 nc [.ref (nx + 4984) 0 []] [(nx + 4984, some (.robj (chA (nx + 11616) [hd1, hd2] (nx + 20562) [.agg 67 [headA hd2, .sl 40 [txA (sp [])] (nx + 11006)]] (nx + 20650))))] (n64 1) [] 0 := fun nc q => cheight_spec nc (nx + 4984) (nx + 11616) [hd1, hd2] (nx + 20562) [.agg 67 [headA hd2, .sl 40 [txA (sp [])] (nx + 11006)]] (nx + 20650) (by omega) (by simp) (by simp)
  simp only [ledH, ledR, newN, ledA, apN, clN, Nat.add_assoc, Nat.reduceAdd] at hm1 hd1' hd2'
  refine FnSpec.of_code (cx := cx) (an := {}) (rs := [.tmp 0]) mo Tryz.func32 rfl rfl (by kernel_rfl) (by kernel_rfl) (by show 0 ≤ _; decide) (.inl rfl) (by simp [allWr, keys, Res.wr]) ?_
  repeat' (first | omega | assumption | (show AL.ahead _ _ _ = true; rfl) | refine brF (fun _ => ?_) (fun _ => ?_) | refine brT (fun _ => ?_) (fun _ => ?_) | refine brVF (fun _ => ?_) (fun _ => ?_) | refine brVT (fun _ => ?_) (fun _ => ?_) | (with_reducible refine And.intro ?_ ?_) | (refine callK_by (to_spec _ 1 5) ?_) | (simp -dsimp -implicitDefEqProofs only [go_sem, ↓reduceIte, Nat.reduceEqDiff, Nat.reduceAdd, Nat.reduceMul, Nat.reduceLeDiff, Nat.reduceLT, Nat.reduceBEq, Nat.reducePow, Int.reduceToNat, Int.reduceLE, Int.reduceLT, Int.reduceNeg, reduceCtorEq, Int.reduceEq, Int.reduceAdd, Int.reduceSub, Int.reduceMul, Nat.reduceSub]))
  refine callK_by (cnew_spec _) ?_
  repeat' (first | omega | assumption | (show AL.ahead _ _ _ = true; rfl) | refine brF (fun _ => ?_) (fun _ => ?_) | refine brT (fun _ => ?_) (fun _ => ?_) | refine brVF (fun _ => ?_) (fun _ => ?_) | refine brVT (fun _ => ?_) (fun _ => ?_) | (with_reducible refine And.intro ?_ ?_) | (refine callK_by (spSign0 _) ?_) | (simp -dsimp -implicitDefEqProofs only [go_sem, ↓reduceIte, Nat.reduceEqDiff, Nat.reduceAdd, Nat.reduceMul, Nat.reduceLeDiff, Nat.reduceLT, Nat.reduceBEq, Nat.reducePow, Int.reduceToNat, Int.reduceLE, Int.reduceLT, Int.reduceNeg, reduceCtorEq, Int.reduceEq, Int.reduceAdd, Int.reduceSub, Int.reduceMul, Nat.reduceSub, newN, ledA]))
  refine callK_by hm1 ?_
  repeat' (first | omega | assumption | (show AL.ahead _ _ _ = true; rfl) | refine brF (fun _ => ?_) (fun _ => ?_) | refine brT (fun _ => ?_) (fun _ => ?_) | refine brVF (fun _ => ?_) (fun _ => ?_) | refine brVT (fun _ => ?_) (fun _ => ?_) | (with_reducible refine And.intro ?_ ?_) | (refine callK_by (hh _ (by omega)) ?_) | (refine callK_by (hd1' _ (by omega)) ?_) | (refine callK_by (hd2' _ (by omega)) ?_) | (simp -dsimp -implicitDefEqProofs only [go_sem, ↓reduceIte, Nat.reduceEqDiff, Nat.reduceAdd, Nat.reduceMul, Nat.reduceLeDiff, Nat.reduceLT, Nat.reduceBEq, Nat.reducePow, Int.reduceToNat, Int.reduceLE, Int.reduceLT, Int.reduceNeg, reduceCtorEq, Int.reduceEq, Int.reduceAdd, Int.reduceSub, Int.reduceMul, Nat.reduceSub]))
  all_goals first | rfl | trace_state
theorem cnobody_spec (nx : Nat) (id : Sum) (n : Int) : FnSpec Tryz.prog 5 nx [sumA id, n64 n] [] (bA true) [] 0 := by
  have w0 : IntKind.i64.wrap 0 = 0 := by decide
  have ee : eqB (.agg 66 [.vec 1 (u8s zeroS.b), n64 0, .vec 1 (u8s zeroS.b), n64 0]) (.agg 66 [.vec 1 (u8s zeroS.b), n64 0, .vec 1 (u8s zeroS.b), n64 0]) = true := eqB_yes rfl
  have d1 := fun nc => ctip_nil nc
  have d2 := fun nc => chead_nil nc n
  have d3 := fun nc => cblock_nil nc n
  have d4 := fun nc => cdeep_nil nc id
  have d5 := fun nc => cadd_nil nc _ rfl
  simp only [sumA] at d1 d2 d3 d4 d5
  refine FnSpec.of_code (cx := cx) (an := {}) (rs := [.tmp 4]) mo Tryz.func5 rfl rfl (by kernel_rfl) (by kernel_rfl) (by show 2 ≤ _; decide) (.inl rfl) (by simp [allWr, keys, Res.wr]) ?_
  repeat' (first | omega | assumption | (show AL.ahead _ _ _ = true; rfl) | refine brF (fun _ => ?_) (fun _ => ?_) | refine brT (fun _ => ?_) (fun _ => ?_) | refine brVF (fun _ => ?_) (fun _ => ?_) | refine brVT (fun _ => ?_) (fun _ => ?_) | (with_reducible refine And.intro ?_ ?_) | (refine callK_by (cmine_nil _) ?_) | (refine callK_by (d5 _) ?_) | (refine callK_by (d2 _) ?_) | (refine callK_by (d3 _) ?_) | (refine callK_by (cheight_nil _) ?_) | (refine callK_by (d4 _) ?_) | (refine callK_by (d1 _) ?_) | (refine callK_by (cawake_spec _) ?_) | (simp -dsimp -implicitDefEqProofs only [go_sem, ↓reduceIte, Nat.reduceEqDiff, Nat.reduceAdd, Nat.reduceMul, Nat.reduceLeDiff, Nat.reduceLT, Nat.reduceBEq, Nat.reducePow, Int.reduceToNat, Int.reduceLE, Int.reduceLT, Int.reduceNeg, reduceCtorEq, Int.reduceEq, Int.reduceAdd, Int.reduceSub, Int.reduceMul, Nat.reduceSub, sumA, ee, w0, ↓cmp_sum7, ↓cmp_sum, isSumT]))
  all_goals first | rfl | trace_state
end Go.Proofs.YthfoeaokfhbdaaaGreat

/-
  bartizanlaw31.TowerNobody: for every input it returns true, and the input reads behind the call as it read before. No condition.
-/
set_option linter.unusedSimpArgs false
set_option linter.unusedVariables false
set_option maxRecDepth 100000
set_option maxHeartbeats 1000000
namespace Go.Proofs.YthfoeaokfhbdaaaGreat
open Go Go.AL Go.Proofs.YthfoeaokfhbdaaaGreat.T Go.ChangeShapes Go.WideShapes Go.ChangeAt Go.RowKit

theorem Tryz.own : ownKnob Tryz.prog.godebug = none := by kernel_rfl
theorem Tryz.laidOut : laidOutB Tryz.prog = true := by kernel_rfl
theorem toNat_ofNat' {n : Nat} (h : n < 256) : (UInt8.ofNat n).toNat = n := by
  rw [UInt8.toNat_ofNat']; omega
theorem ty_byte {n : Nat} {a : AV} (h : Ty Tryz.prog (n + 1) 5 a) : ∃ b, a = u8 b ∧ True := by
  obtain ⟨x, rfl, h1, h2⟩ := h.int_inv Tryz.underlying5
  have h1' : (0 : Int) ≤ x := h1
  have h2' : x ≤ 255 := h2
  refine ⟨UInt8.ofNat x.toNat, ?_, trivial⟩
  rw [u8, toNat_ofNat' (by omega)]
  congr 2; omega
theorem ty_sum {n : Nat} {a : AV} (h : Ty Tryz.prog (n + 2) 23 a) : ∃ s, a = sumA s := by
  obtain ⟨L, rfl, hl, k⟩ := h.arr_inv Tryz.underlying23 (m := 1) (by kernel_rfl)
  obtain ⟨l, rfl, _⟩ := list_inv (f := u8) (p := fun _ => True) (fun x hx => ty_byte (k x hx))
  rw [List.length_map] at hl
  exact ⟨⟨l, hl⟩, rfl⟩
theorem ty_int {n : Nat} {a : AV} (h : Ty Tryz.prog (n + 1) 3 a) : ∃ x, a = n64 x := by
  obtain ⟨x, rfl, _⟩ := h.int_inv Tryz.underlying3
  exact ⟨x, rfl⟩
theorem ty_int64 {n : Nat} {a : AV} (h : Ty Tryz.prog (n + 1) 2 a) : ∃ x, a = n64 x := by
  obtain ⟨x, rfl, _⟩ := h.int_inv Tryz.underlying2
  exact ⟨x, rfl⟩
theorem ty_ref {n : Nat} {a : AV} (h : Ty Tryz.prog (n + 3) 25 a) : ∃ r, a = refA r := by
  obtain ⟨L, rfl, k⟩ := h.struct_inv Tryz.underlying25 (m := 33) (ts := [23, 3]) (by kernel_rfl) rfl
  obtain ⟨a0, _, rfl, h0, k⟩ := k.cons_inv
  obtain ⟨a1, _, rfl, h1, k⟩ := k.cons_inv
  cases k.nil_inv
  obtain ⟨x0, rfl⟩ := ty_sum h0
  obtain ⟨x1, rfl⟩ := ty_int h1
  exact ⟨⟨x0, x1⟩, rfl⟩
theorem ty_chan {n : Nat} {a : AV} (h : Ty Tryz.prog (n + 4) 66 a) : ∃ c, a = chanA c := by
  obtain ⟨L, rfl, k⟩ := h.struct_inv Tryz.underlying66 (m := 39) (ts := [3, 3, 3, 25, 2, 3, 3]) (by kernel_rfl) rfl
  obtain ⟨a0, _, rfl, h0, k⟩ := k.cons_inv
  obtain ⟨a1, _, rfl, h1, k⟩ := k.cons_inv
  obtain ⟨a2, _, rfl, h2, k⟩ := k.cons_inv
  obtain ⟨a3, _, rfl, h3, k⟩ := k.cons_inv
  obtain ⟨a4, _, rfl, h4, k⟩ := k.cons_inv
  obtain ⟨a5, _, rfl, h5, k⟩ := k.cons_inv
  obtain ⟨a6, _, rfl, h6, k⟩ := k.cons_inv
  cases k.nil_inv
  obtain ⟨x0, rfl⟩ := ty_int h0
  obtain ⟨x1, rfl⟩ := ty_int h1
  obtain ⟨x2, rfl⟩ := ty_int h2
  obtain ⟨x3, rfl⟩ := ty_ref h3
  obtain ⟨x4, rfl⟩ := ty_int64 h4
  obtain ⟨x5, rfl⟩ := ty_int h5
  obtain ⟨x6, rfl⟩ := ty_int h6
  exact ⟨⟨x0, x1, x2, x3, x4, x5, x6⟩, rfl⟩

end Go.Proofs.YthfoeaokfhbdaaaGreat

/-
  bartizanlaw20.ChainNobody: for every input it returns true, and the inputs read behind the call as they read before. No condition.
-/
set_option linter.unusedSimpArgs false
set_option linter.unusedVariables false
set_option maxRecDepth 100000
set_option maxHeartbeats 1000000
namespace Go.Proofs.YthfoeaokfhbdaaaGreat
open Go Go.AL Go.Proofs.YthfoeaokfhbdaaaGreat.T Go.ChangeShapes Go.WideShapes Go.ChangeAt Go.RowKit
theorem cn_args (xs : List AV) (h : TyF (Ty Tryz.prog 8) Tryz.f5.params.toList xs) : FnSpec Tryz.prog 5 0 xs [] (.val (.bool true)) [] 0 := by
  have hp : Tryz.f5.params.toList = [23, 3] := rfl
  rw [hp] at h
  obtain ⟨a0, _, rfl, h0, h⟩ := h.cons_inv
  obtain ⟨a1, _, rfl, h1, h⟩ := h.cons_inv
  cases h.nil_inv
  obtain ⟨x0, rfl⟩ := ty_sum h0
  obtain ⟨x1, rfl⟩ := ty_int h1
  exact cnobody_spec 0 x0 x1

theorem cn_lifted (os : Os) (started : os.Started) (H : Type) (enc : TypeId × Value → H) :
    ReturnsInHanded {} Tryz.checked os 5 .any (Rows.chainNobodySpec.pre6 enc Tryz.prog Tryz.f5 Rows.chainNobodyRow.domain false) (Rows.chainNobodySpec.post enc Tryz.prog Tryz.f5 false true false false) := by
  refine returnsInHanded_of_change (C := Tryz.checked) Tryz.own started (by kernel_rfl) Tryz.func5
    (ChangeSpec.witness6 (enc := enc) (C := Tryz.checked) false ⟨#[], #[.agg #[.int .u8 0, .int .u8 0, .int .u8 0, .int .u8 0, .int .u8 0, .int .u8 0, .int .u8 0, .int .u8 0, .int .u8 0, .int .u8 0, .int .u8 0, .int .u8 0, .int .u8 0, .int .u8 0, .int .u8 0, .int .u8 0, .int .u8 0, .int .u8 0, .int .u8 0, .int .u8 0, .int .u8 0, .int .u8 0, .int .u8 0, .int .u8 0, .int .u8 0, .int .u8 0, .int .u8 0, .int .u8 0, .int .u8 0, .int .u8 0, .int .u8 0, .int .u8 0], .int .i64 0], []⟩ 8 (by kernel_rfl) (by kernel_rfl) (by kernel_rfl) (by kernel_rfl)) ?_
  intro W base args ds gs before hval0 hW hcnd _
  exact post_of_spec (P := Tryz.prog) (n := 8) (tb := 4) Tryz.laidOut rfl (fun ds hl => by
    match ds, hl with
    | [d1, d2], _ => rfl) (by kernel_rfl) (by kernel_rfl) rfl Tryz.underlying4 cn_args W base args ds gs before hval0 hW

theorem cn_holds : Rows.ChainNobodySaid :=
  OpenClaim.holds_of_wide 5 Tryz.f5 rfl rfl rfl rfl rfl rfl rfl ⟨rfl, rfl, rfl, rfl, rfl⟩ rfl rfl rfl rfl rfl (by kernel_rfl) Tryz.func5 (by kernel_rfl)
    (of_decide_eq_true (by kernel_rfl)) (by unfold Func.isWrapper; first | (rw [if_pos (by decide +kernel)]; kernel_rfl) | (rw [if_neg (by decide +kernel)]; exact ⟨rfl, rfl⟩))
    (fun os started H enc _ => cn_lifted os started H enc)
#print axioms cn_holds
end Go.Proofs.YthfoeaokfhbdaaaGreat

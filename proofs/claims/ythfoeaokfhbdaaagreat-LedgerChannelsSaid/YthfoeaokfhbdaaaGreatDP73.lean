/-
  Ledgers: their heap; what came, what was spent; none.
-/
import Derived.Test.YthfoeaokfhbdaaaGreatDP67
set_option linter.unusedSimpArgs false
set_option linter.unusedVariables false
set_option maxRecDepth 100000
set_option maxHeartbeats 1000000
namespace Go.Proofs.YthfoeaokfhbdaaaGreat
open Go Go.AL Go.Proofs.YthfoeaokfhbdaaaGreat.T
/-- what a ledger is -/
structure LS where
  coins : List (Ref_ × Coin_)
  towers : List (Int × Tw_)
  holds : List ((Int × Int) × Hold_)
  done : List (Sum × Done_)
  spent : List (Ref_ × Spend_)
  order : List Sum
  fees : Int
/-- the names of a ledger's parts -/
structure LN where
  l : Nat
  v : Nat
  vm : Nat
  b : Nat
  tm : Nat
  hm : Nat
  d : Nat
  s : Nat
  o : Nat
def ledA (n : LN) (x : LS) : AV := .agg 6 [.ref n.v 0 [], .ref n.b 0 [], .map n.d, .map n.s, .sl 32 (sumsA x.order) (n.o + 2), n64 x.fees]
abbrev ledH (n : LN) (x : LS) : Heap := [(n.l, some (.obj (ledA n x))), (n.v, some (.obj (.agg 1 [.map n.vm]))), (n.vm, some (.mp (coinsE x.coins))), (n.b, some (.obj (boardA n.tm n.hm))), (n.tm, some (.mp (towsE x.towers))), (n.hm, some (.mp (holdsE x.holds))), (n.d, some (.mp (donesE x.done))), (n.s, some (.mp (spentE x.spent))), (n.o, some (.tail x.order.length))]
/-- all names are below, and differ -/
structure LN.ok (n : LN) (nx : Nat) : Prop where
  l : n.l < nx
  v : n.v < nx
  vm : n.vm < nx
  b : n.b < nx
  tm : n.tm < nx
  hm : n.hm < nx
  d : n.d < nx
  s : n.s < nx
  o : n.o < nx
  df : [n.l, n.v, n.vm, n.b, n.tm, n.hm, n.d, n.s, n.o].Nodup
theorem LN.ok.ne {n : LN} {nx : Nat} (h : n.ok nx) : (n.l ≠ n.v ∧ n.l ≠ n.vm ∧ n.l ≠ n.b ∧ n.l ≠ n.tm ∧ n.l ≠ n.hm ∧ n.l ≠ n.d ∧ n.l ≠ n.s ∧ n.l ≠ n.o) ∧ (n.v ≠ n.vm ∧ n.v ≠ n.b ∧ n.v ≠ n.tm ∧ n.v ≠ n.hm ∧ n.v ≠ n.d ∧ n.v ≠ n.s ∧ n.v ≠ n.o) ∧ (n.vm ≠ n.b ∧ n.vm ≠ n.tm ∧ n.vm ≠ n.hm ∧ n.vm ≠ n.d ∧ n.vm ≠ n.s ∧ n.vm ≠ n.o) ∧
    (n.b ≠ n.tm ∧ n.b ≠ n.hm ∧ n.b ≠ n.d ∧ n.b ≠ n.s ∧ n.b ≠ n.o) ∧ (n.tm ≠ n.hm ∧ n.tm ≠ n.d ∧ n.tm ≠ n.s ∧ n.tm ≠ n.o) ∧ (n.hm ≠ n.d ∧ n.hm ≠ n.s ∧ n.hm ≠ n.o) ∧ (n.d ≠ n.s ∧ n.d ≠ n.o) ∧ n.s ≠ n.o := by
  have h1 := h.df
  simp only [List.nodup_cons, List.mem_cons, not_or, List.not_mem_nil, not_false_eq_true, and_true, List.nodup_nil] at h1
  obtain ⟨a, b, c, d, e, f, g, i⟩ := h1
  exact ⟨⟨a.1, a.2.1, a.2.2.1, a.2.2.2.1, a.2.2.2.2.1, a.2.2.2.2.2.1, a.2.2.2.2.2.2.1, a.2.2.2.2.2.2.2⟩, b, c, d, e, f, g, i⟩
theorem LN.ok.nf {n : LN} {nx : Nat} (h : n.ok nx) : ((n.l = n.v) = False ∧ (n.v = n.l) = False) ∧ ((n.l = n.vm) = False ∧ (n.vm = n.l) = False) ∧ ((n.l = n.b) = False ∧ (n.b = n.l) = False) ∧ ((n.l = n.tm) = False ∧ (n.tm = n.l) = False) ∧ ((n.l = n.hm) = False ∧ (n.hm = n.l) = False) ∧ ((n.l = n.d) = False ∧ (n.d = n.l) = False) ∧ ((n.l = n.s) = False ∧ (n.s = n.l) = False) ∧ ((n.l = n.o) = False ∧ (n.o = n.l) = False) ∧ ((n.v = n.vm) = False ∧ (n.vm = n.v) = False) ∧ ((n.v = n.b) = False ∧ (n.b = n.v) = False) ∧ ((n.v = n.tm) = False ∧ (n.tm = n.v) = False) ∧ ((n.v = n.hm) = False ∧ (n.hm = n.v) = False) ∧ ((n.v = n.d) = False ∧ (n.d = n.v) = False) ∧ ((n.v = n.s) = False ∧ (n.s = n.v) = False) ∧ ((n.v = n.o) = False ∧ (n.o = n.v) = False) ∧ ((n.vm = n.b) = False ∧ (n.b = n.vm) = False) ∧ ((n.vm = n.tm) = False ∧ (n.tm = n.vm) = False) ∧ ((n.vm = n.hm) = False ∧ (n.hm = n.vm) = False) ∧ ((n.vm = n.d) = False ∧ (n.d = n.vm) = False) ∧ ((n.vm = n.s) = False ∧ (n.s = n.vm) = False) ∧ ((n.vm = n.o) = False ∧ (n.o = n.vm) = False) ∧ ((n.b = n.tm) = False ∧ (n.tm = n.b) = False) ∧ ((n.b = n.hm) = False ∧ (n.hm = n.b) = False) ∧ ((n.b = n.d) = False ∧ (n.d = n.b) = False) ∧ ((n.b = n.s) = False ∧ (n.s = n.b) = False) ∧ ((n.b = n.o) = False ∧ (n.o = n.b) = False) ∧ ((n.tm = n.hm) = False ∧ (n.hm = n.tm) = False) ∧ ((n.tm = n.d) = False ∧ (n.d = n.tm) = False) ∧ ((n.tm = n.s) = False ∧ (n.s = n.tm) = False) ∧ ((n.tm = n.o) = False ∧ (n.o = n.tm) = False) ∧ ((n.hm = n.d) = False ∧ (n.d = n.hm) = False) ∧ ((n.hm = n.s) = False ∧ (n.s = n.hm) = False) ∧ ((n.hm = n.o) = False ∧ (n.o = n.hm) = False) ∧ ((n.d = n.s) = False ∧ (n.s = n.d) = False) ∧ ((n.d = n.o) = False ∧ (n.o = n.d) = False) ∧ ((n.s = n.o) = False ∧ (n.o = n.s) = False) := by
  obtain ⟨⟨a1, a2, a3, a4, a5, a6, a7, a8⟩, ⟨b1, b2, b3, b4, b5, b6, b7⟩, ⟨c1, c2, c3, c4, c5, c6⟩, ⟨d1, d2, d3, d4, d5⟩, ⟨e1, e2, e3, e4⟩, ⟨f1, f2, f3⟩, ⟨g1, g2⟩, i1⟩ := h.ne
  exact ⟨neF a1, neF a2, neF a3, neF a4, neF a5, neF a6, neF a7, neF a8, neF b1, neF b2, neF b3, neF b4, neF b5, neF b6, neF b7, neF c1, neF c2, neF c3, neF c4, neF c5, neF c6, neF d1, neF d2, neF d3, neF d4, neF d5, neF e1, neF e2, neF e3, neF e4, neF f1, neF f2, neF f3, neF g1, neF g2, neF i1⟩
theorem LN.ok.xf {n : LN} {nx : Nat} (h : n.ok nx) : ((∀ k, (n.l = nx + k) = False) ∧ (∀ k, (nx + k = n.l) = False) ∧ (n.l = nx) = False ∧ (nx = n.l) = False) ∧ ((∀ k, (n.v = nx + k) = False) ∧ (∀ k, (nx + k = n.v) = False) ∧ (n.v = nx) = False ∧ (nx = n.v) = False) ∧ ((∀ k, (n.vm = nx + k) = False) ∧ (∀ k, (nx + k = n.vm) = False) ∧ (n.vm = nx) = False ∧ (nx = n.vm) = False) ∧ ((∀ k, (n.b = nx + k) = False) ∧ (∀ k, (nx + k = n.b) = False) ∧ (n.b = nx) = False ∧ (nx = n.b) = False) ∧ ((∀ k, (n.tm = nx + k) = False) ∧ (∀ k, (nx + k = n.tm) = False) ∧ (n.tm = nx) = False ∧ (nx = n.tm) = False) ∧ ((∀ k, (n.hm = nx + k) = False) ∧ (∀ k, (nx + k = n.hm) = False) ∧ (n.hm = nx) = False ∧ (nx = n.hm) = False) ∧ ((∀ k, (n.d = nx + k) = False) ∧ (∀ k, (nx + k = n.d) = False) ∧ (n.d = nx) = False ∧ (nx = n.d) = False) ∧ ((∀ k, (n.s = nx + k) = False) ∧ (∀ k, (nx + k = n.s) = False) ∧ (n.s = nx) = False ∧ (nx = n.s) = False) ∧ ((∀ k, (n.o = nx + k) = False) ∧ (∀ k, (nx + k = n.o) = False) ∧ (n.o = nx) = False ∧ (nx = n.o) = False) := ⟨ltF h.l, ltF h.v, ltF h.vm, ltF h.b, ltF h.tm, ltF h.hm, ltF h.d, ltF h.s, ltF h.o⟩
theorem LN.ok.lt {n : LN} {nx : Nat} (h : n.ok nx) : n.l < nx ∧ n.v < nx ∧ n.vm < nx ∧ n.b < nx ∧ n.tm < nx ∧ n.hm < nx ∧ n.d < nx ∧ n.s < nx ∧ n.o < nx := ⟨h.l, h.v, h.vm, h.b, h.tm, h.hm, h.d, h.s, h.o⟩
theorem LN.ok.up {n : LN} {nx nc : Nat} (h : n.ok nx) (hc : nx ≤ nc) : n.ok nc := ⟨by have := h.l; omega, by have := h.v; omega, by have := h.vm; omega, by have := h.b; omega, by have := h.tm; omega, by have := h.hm; omega, by have := h.d; omega, by have := h.s; omega, by have := h.o; omega, h.df⟩
attribute [local go_sem] nb_u8s u8s_length nb_sum List.length_replicate zero_sum sum_h u8s_nil nb_ref sums_len nb_sums refA_good refA_agg refA_csz doneA_good doneA_agg doneA_csz spendA_good spendA_agg spendA_csz sum_csz sum_agg sumA_good nbK_ref nbK_sum nbV_done nbV_spend nb_done nb_spend kk_ref kk_sum k1_ref k1_sum o_some o_none Option.getD_some Option.getD_none Option.isSome_some Option.isSome_none
theorem lnone_spec (nx : Nat) (n : LN) (x : LS) (hv : n.l < nx) : FnSpec Tryz.prog 55 nx [.ref n.l 0 []] [(n.l, some (.robj (ledA n x)))] (bA false) [] 0 := by
  have x1 := ltF hv
  refine FnSpec.of_code (cx := cx) (an := {}) (rs := [.tmp 2]) mo Tryz.func55 rfl rfl (by kernel_rfl) (by kernel_rfl) (by show 1 ≤ _; decide) (.inl rfl) (by simp [allWr, keys, Res.wr]) ?_
  repeat' (first | omega | assumption | (show AL.ahead _ _ _ = true; rfl) | refine brF (fun _ => ?_) (fun _ => ?_) | refine brT (fun _ => ?_) (fun _ => ?_) | refine brVF (fun _ => ?_) (fun _ => ?_) | refine brVT (fun _ => ?_) (fun _ => ?_) | (with_reducible refine And.intro ?_ ?_) | (simp -dsimp -implicitDefEqProofs only [go_sem, ↓reduceIte, Nat.reduceEqDiff, Nat.reduceAdd, Nat.reduceMul, Nat.reduceLeDiff, Nat.reduceLT, Nat.reduceBEq, Nat.reducePow, Int.reduceToNat, Int.reduceLE, Int.reduceLT, Int.reduceNeg, reduceCtorEq, Int.reduceEq, Int.reduceAdd, Int.reduceSub, Int.reduceMul, Nat.reduceSub, x1, ledA]))
  all_goals trace_state
theorem ldone_spec (nx : Nat) (n : LN) (x : LS) (id : Sum) (hn : n.ok nx) :
    FnSpec Tryz.prog 9 nx [.ref n.l 0 [], sumA id] [(n.l, some (.robj (ledA n x))), (n.d, some (.rmp (donesE x.done)))] (.tup [optD (lookM id x.done), bA (lookM id x.done).isSome]) [] 0 := by
  have x1 := ltF hn.l
  have hnl := hn.l
  have x2 := ltF hn.d
  have x3 := neF hn.ne.1.2.2.2.2.2.1
  cases h : lookM id x.done with
  | none =>
    refine FnSpec.of_code (cx := cx) (an := {}) (rs := [.cell 4 46, .tmp 5]) mo Tryz.func9 rfl rfl (by kernel_rfl) (by kernel_rfl) (by show 2 ≤ _; decide) (.inr ⟨_, rfl, by simp [AV.good, optD, doneA]⟩) (by simp [allWr, keys, Res.wr]) ?_
    repeat' (first | omega | assumption | (show AL.ahead _ _ _ = true; rfl) | refine brF (fun _ => ?_) (fun _ => ?_) | refine brT (fun _ => ?_) (fun _ => ?_) | refine brVF (fun _ => ?_) (fun _ => ?_) | refine brVT (fun _ => ?_) (fun _ => ?_) | (with_reducible refine And.intro ?_ ?_) | (refine callK_by (lnone_spec _ n x (by omega)) ?_) | (simp -dsimp -implicitDefEqProofs only [go_sem, ↓reduceIte, Nat.reduceEqDiff, Nat.reduceAdd, Nat.reduceMul, Nat.reduceLeDiff, Nat.reduceLT, Nat.reduceBEq, Nat.reducePow, Int.reduceToNat, Int.reduceLE, Int.reduceLT, Int.reduceNeg, reduceCtorEq, Int.reduceEq, Int.reduceAdd, Int.reduceSub, Int.reduceMul, Nat.reduceSub, x1, x2, x3, h, lookA_enc sumA_inj, optD, ledA]))
    all_goals trace_state
  | some c =>
    refine FnSpec.of_code (cx := cx) (an := {}) (rs := [.cell 4 46, .tmp 5]) mo Tryz.func9 rfl rfl (by kernel_rfl) (by kernel_rfl) (by show 2 ≤ _; decide) (.inr ⟨_, rfl, by simp [AV.good, optD, doneA]⟩) (by simp [allWr, keys, Res.wr]) ?_
    repeat' (first | omega | assumption | (show AL.ahead _ _ _ = true; rfl) | refine brF (fun _ => ?_) (fun _ => ?_) | refine brT (fun _ => ?_) (fun _ => ?_) | refine brVF (fun _ => ?_) (fun _ => ?_) | refine brVT (fun _ => ?_) (fun _ => ?_) | (with_reducible refine And.intro ?_ ?_) | (refine callK_by (lnone_spec _ n x (by omega)) ?_) | (simp -dsimp -implicitDefEqProofs only [go_sem, ↓reduceIte, Nat.reduceEqDiff, Nat.reduceAdd, Nat.reduceMul, Nat.reduceLeDiff, Nat.reduceLT, Nat.reduceBEq, Nat.reducePow, Int.reduceToNat, Int.reduceLE, Int.reduceLT, Int.reduceNeg, reduceCtorEq, Int.reduceEq, Int.reduceAdd, Int.reduceSub, Int.reduceMul, Nat.reduceSub, x1, x2, x3, h, lookA_enc sumA_inj, optD, ledA]))
    all_goals trace_state
theorem lspent_spec (nx : Nat) (n : LN) (x : LS) (r : Ref_) (hn : n.ok nx) :
    FnSpec Tryz.prog 10 nx [.ref n.l 0 [], refA r] [(n.l, some (.robj (ledA n x))), (n.s, some (.rmp (spentE x.spent)))] (.tup [optS (lookM r x.spent), bA (lookM r x.spent).isSome]) [] 0 := by
  have x1 := ltF hn.l
  have hnl := hn.l
  have x2 := ltF hn.s
  have x3 := neF hn.ne.1.2.2.2.2.2.2.1
  cases h : lookM r x.spent with
  | none =>
    refine FnSpec.of_code (cx := cx) (an := {}) (rs := [.cell 4 50, .tmp 5]) mo Tryz.func10 rfl rfl (by kernel_rfl) (by kernel_rfl) (by show 2 ≤ _; decide) (.inr ⟨_, rfl, by simp [AV.good, optS, spendA]⟩) (by simp [allWr, keys, Res.wr]) ?_
    repeat' (first | omega | assumption | (show AL.ahead _ _ _ = true; rfl) | refine brF (fun _ => ?_) (fun _ => ?_) | refine brT (fun _ => ?_) (fun _ => ?_) | refine brVF (fun _ => ?_) (fun _ => ?_) | refine brVT (fun _ => ?_) (fun _ => ?_) | (with_reducible refine And.intro ?_ ?_) | (refine callK_by (lnone_spec _ n x (by omega)) ?_) | (simp -dsimp -implicitDefEqProofs only [go_sem, ↓reduceIte, Nat.reduceEqDiff, Nat.reduceAdd, Nat.reduceMul, Nat.reduceLeDiff, Nat.reduceLT, Nat.reduceBEq, Nat.reducePow, Int.reduceToNat, Int.reduceLE, Int.reduceLT, Int.reduceNeg, reduceCtorEq, Int.reduceEq, Int.reduceAdd, Int.reduceSub, Int.reduceMul, Nat.reduceSub, x1, x2, x3, h, lookA_enc refA_inj, optS, spendA, ledA]))
    all_goals trace_state
  | some c =>
    refine FnSpec.of_code (cx := cx) (an := {}) (rs := [.cell 4 50, .tmp 5]) mo Tryz.func10 rfl rfl (by kernel_rfl) (by kernel_rfl) (by show 2 ≤ _; decide) (.inr ⟨_, rfl, by simp [AV.good, optS, spendA]⟩) (by simp [allWr, keys, Res.wr]) ?_
    repeat' (first | omega | assumption | (show AL.ahead _ _ _ = true; rfl) | refine brF (fun _ => ?_) (fun _ => ?_) | refine brT (fun _ => ?_) (fun _ => ?_) | refine brVF (fun _ => ?_) (fun _ => ?_) | refine brVT (fun _ => ?_) (fun _ => ?_) | (with_reducible refine And.intro ?_ ?_) | (refine callK_by (lnone_spec _ n x (by omega)) ?_) | (simp -dsimp -implicitDefEqProofs only [go_sem, ↓reduceIte, Nat.reduceEqDiff, Nat.reduceAdd, Nat.reduceMul, Nat.reduceLeDiff, Nat.reduceLT, Nat.reduceBEq, Nat.reducePow, Int.reduceToNat, Int.reduceLE, Int.reduceLT, Int.reduceNeg, reduceCtorEq, Int.reduceEq, Int.reduceAdd, Int.reduceSub, Int.reduceMul, Nat.reduceSub, x1, x2, x3, h, lookA_enc refA_inj, optS, ledA]))
    all_goals trace_state
end Go.Proofs.YthfoeaokfhbdaaaGreat

/-
  Ledgers: a transaction is noted.
-/
set_option linter.unusedSimpArgs false
set_option linter.unusedVariables false
set_option maxRecDepth 100000
set_option maxHeartbeats 1000000
namespace Go.Proofs.YthfoeaokfhbdaaaGreat
open Go Go.AL Go.Proofs.YthfoeaokfhbdaaaGreat.T
/-- outs that are put in, one behind the other -/
noncomputable def putAll (id : Sum) (h : Int) : List Out_ → Nat → List (Ref_ × Coin_) → List (Ref_ × Coin_)
  | [], _, cs => cs
  | o :: r, i, cs => putAll id h r (i + 1) (putL ⟨id, (i : Int)⟩ o h cs)
theorem putAll_snoc (id : Sum) (h : Int) (o : Out_) : ∀ (l : List Out_) (i : Nat) (cs : List (Ref_ × Coin_)), putAll id h (l ++ [o]) i cs = putL ⟨id, ((i + l.length : Nat) : Int)⟩ o h (putAll id h l i cs)
  | [], i, cs => by simp [putAll]
  | a :: l, i, cs => by
    simp only [List.cons_append, putAll, List.length_cons]
    rw [putAll_snoc id h o l (i + 1)]
    have e : i + 1 + l.length = i + (l.length + 1) := by omega
    rw [e]
noncomputable def comeS (id : Sum) (t : Tx_) (h : Int) (x : LS) : LS := { x with done := setM id ⟨t, h⟩ x.done, order := x.order ++ [id], coins := putAll id h t.outs 0 x.coins }
theorem done_mk (t : Tx_) (h : Int) : AV.agg 41 [txA t, n64 h] = doneA ⟨t, h⟩ := rfl
theorem ref_mk (s : Sum) (i : Int) : AV.agg 33 [sumA s, n64 i] = refA ⟨s, i⟩ := rfl
theorem sums_snoc2 (l : List Sum) (s : Sum) : sumsA l ++ [sumA s] = sumsA (l ++ [s]) := by simp [sumsA]
theorem tA_p1 (t : Tx_) : (txA t).parts.getD 1 .undef = .sl 2 (outsA t.outs) 0 := rfl
theorem tA_off1 (t : Tx_) : (txA t).partOff 1 = 1 := rfl
theorem tA_len (t : Tx_) : (txA t).parts.length = 4 := rfl
attribute [local go_sem] nb_u8s u8s_length nb_sum List.length_replicate zero_sum sum_h u8s_nil nb_ref sums_len nb_sums refA_good refA_agg refA_csz doneA_good doneA_agg doneA_csz sum_csz sum_agg sumA_good nbK_ref nbK_sum nbV_done nbV_coin nb_done kk_ref kk_sum k1_ref k1_sum outs_len nb_outs nb_out1 outA_good outA_agg outA_csz txA_good txA_csz txA_agg nb_tx tA_p1 tA_off1 tA_len
theorem come_spec (nx : Nat) (n : LN) (x : LS) (id : Sum) (t : Tx_) (h : Int) (hn : n.ok nx) (ho : t.outs.length < 2 ^ 40) (hL : ∀ o ∈ t.outs, o.ways.length < 2 ^ 40 ∧ ∀ w ∈ o.ways, w.keys.length < 2 ^ 40) (hord : x.order.length < 2 ^ 40) :
    FnSpec Tryz.prog 63 nx [.ref n.l 0 [], sumA id, txA t, n64 h] [(n.l, some (.obj (ledA n x))), (n.v, some (.robj (.agg 1 [.map n.vm]))), (n.vm, some (.mp (coinsE x.coins))), (n.d, some (.mp (donesE x.done))), (n.o, some (.tail x.order.length))] (.tup [])
      [(n.l, some (.obj (ledA n (comeS id t h x)))), (n.vm, some (.mp (coinsE (comeS id t h x).coins))), (n.d, some (.mp (donesE (comeS id t h x).done))), (n.o, some (.tail (comeS id t h x).order.length))] 0 := by
  have xf := hn.xf
  have yf := hn.nf
  have hlt := hn.lt
  have b1 := hn.ne.2.1.1
  have hsl : (sumsA x.order).length + 1 = (x.order ++ [id]).length := by rw [sums_len]; simp
  have hset : setA (sumA id) (.agg 41 [txA t, n64 h]) (donesE x.done) = donesE (setM id ⟨t, h⟩ x.done) := setA_enc (vA := doneA) sumA_inj id (⟨t, h⟩ : Done_) x.done
  refine FnSpec.of_code (cx := cx) (an := {}) (rs := []) mo Tryz.func63 rfl rfl (by kernel_rfl) (by kernel_rfl) (by show 4 ≤ _; decide) (.inr ⟨_, rfl, by simp [AV.good]⟩) (by simp [allWr, keys, Res.wr]) ?_
  repeat' (first | omega | assumption | (show AL.ahead _ _ _ = true; rfl) | refine brF (fun _ => ?_) (fun _ => ?_) | refine brT (fun _ => ?_) (fun _ => ?_) | refine brVF (fun _ => ?_) (fun _ => ?_) | refine brVT (fun _ => ?_) (fun _ => ?_) | (with_reducible refine And.intro ?_ ?_) | (simp -dsimp -implicitDefEqProofs only [go_sem, ↓reduceIte, Nat.reduceEqDiff, Nat.reduceAdd, Nat.reduceMul, Nat.reduceLeDiff, Nat.reduceLT, Nat.reduceBEq, Nat.reducePow, Int.reduceToNat, Int.reduceLE, Int.reduceLT, Int.reduceNeg, reduceCtorEq, Int.reduceEq, Int.reduceAdd, Int.reduceSub, Int.reduceMul, Nat.reduceSub, xf, yf, ledA, hset, sums_snoc2, hsl, List.append_eq, List.cons_append, List.nil_append]))
  apply loop_keep [0, 3, 5, 29, 30] (fun p : { p : Nat // p ≤ t.outs.length } => [(31, n64 p.1)]) (fun p => [(n.l, some (.obj (ledA n (comeS id t h x)))), (n.v, some (.robj (.agg 1 [.map n.vm]))), (n.vm, some (.mp (coinsE (putAll id h (t.outs.take p.1) 0 x.coins)))), (n.d, some (.mp (donesE (setM id ⟨t, h⟩ x.done)))), (n.o, some (.tail (x.order ++ [id]).length))]) (fun p => t.outs.length - p.1) ⟨0, Nat.zero_le _⟩
  · simp -dsimp -implicitDefEqProofs only [go_sem, ↓reduceIte, Nat.reduceEqDiff, Nat.reduceAdd, Nat.reduceMul, Nat.reduceLeDiff, Nat.reduceLT, Nat.reduceBEq, Nat.reducePow, Int.reduceToNat, Int.reduceLE, Int.reduceLT, Int.reduceNeg, reduceCtorEq, Int.reduceEq, Int.reduceAdd, Int.reduceSub, Int.reduceMul, Nat.reduceSub]; try rfl
  · simp -dsimp -implicitDefEqProofs only [go_sem, ↓reduceIte, Nat.reduceEqDiff, Nat.reduceAdd, Nat.reduceMul, Nat.reduceLeDiff, Nat.reduceLT, Nat.reduceBEq, Nat.reducePow, Int.reduceToNat, Int.reduceLE, Int.reduceLT, Int.reduceNeg, reduceCtorEq, Int.reduceEq, Int.reduceAdd, Int.reduceSub, Int.reduceMul, Nat.reduceSub]; try rfl
  · simp -dsimp -implicitDefEqProofs only [go_sem, ↓reduceIte, Nat.reduceEqDiff, Nat.reduceAdd, Nat.reduceMul, Nat.reduceLeDiff, Nat.reduceLT, Nat.reduceBEq, Nat.reducePow, Int.reduceToNat, Int.reduceLE, Int.reduceLT, Int.reduceNeg, reduceCtorEq, Int.reduceEq, Int.reduceAdd, Int.reduceSub, Int.reduceMul, Nat.reduceSub, xf, yf, List.take_zero, putAll, ledA, comeS]; try rfl
  · intro s
    simp -dsimp -implicitDefEqProofs only [go_sem, ↓reduceIte, Nat.reduceEqDiff, Nat.reduceAdd, Nat.reduceMul, Nat.reduceLeDiff, Nat.reduceLT, Nat.reduceBEq, Nat.reducePow, Int.reduceToNat, Int.reduceLE, Int.reduceLT, Int.reduceNeg, reduceCtorEq, Int.reduceEq, Int.reduceAdd, Int.reduceSub, Int.reduceMul, Nat.reduceSub, ledA, comeS]
    omega
  · rintro ⟨i, hi⟩
    have hi : i ≤ t.outs.length := hi
    simp -dsimp -implicitDefEqProofs only [go_sem, ↓reduceIte, Nat.reduceEqDiff, Nat.reduceAdd, Nat.reduceMul, Nat.reduceLeDiff, Nat.reduceLT, Nat.reduceBEq, Nat.reducePow, Int.reduceToNat, Int.reduceLE, Int.reduceLT, Int.reduceNeg, reduceCtorEq, Int.reduceEq, Int.reduceAdd, Int.reduceSub, Int.reduceMul, Nat.reduceSub]
    refine brT (fun hc => ?_) (fun hc => ?_)
    · have hi2 : i < t.outs.length := by omega
      have q1 := outs_get hi2
      have htk : t.outs.take (i + 1) = t.outs.take i ++ [t.outs[i]] := by rw [List.take_succ_eq_append_getElem hi2]
      have hpa := putAll_snoc id h t.outs[i] (t.outs.take i) 0 x.coins
      rw [← htk, List.length_take, Nat.min_eq_left hi, Nat.zero_add] at hpa
      obtain ⟨l1, l2⟩ := hL _ (List.getElem_mem hi2)
      generalize t.outs[i] = y at *
      have w1 : IntKind.i64.wrap ((i : Int) + 1) = ((i + 1 : Nat) : Int) := wrapE (by omega) (by omega)
      repeat' (first | omega | assumption | (show AL.ahead _ _ _ = true; rfl) | refine brF (fun _ => ?_) (fun _ => ?_) | refine brT (fun _ => ?_) (fun _ => ?_) | refine brVF (fun _ => ?_) (fun _ => ?_) | refine brVT (fun _ => ?_) (fun _ => ?_) | (with_reducible refine And.intro ?_ ?_) | (refine callK_by (vput_spec _ n.v n.vm (putAll id h (t.outs.take i) 0 x.coins) ⟨id, (i : Int)⟩ y h (by omega) (by omega) b1 l1 l2) ?_) | (simp -dsimp -implicitDefEqProofs only [go_sem, ↓reduceIte, Nat.reduceEqDiff, Nat.reduceAdd, Nat.reduceMul, Nat.reduceLeDiff, Nat.reduceLT, Nat.reduceBEq, Nat.reducePow, Int.reduceToNat, Int.reduceLE, Int.reduceLT, Int.reduceNeg, reduceCtorEq, Int.reduceEq, Int.reduceAdd, Int.reduceSub, Int.reduceMul, Nat.reduceSub, q1, w1, xf, yf, ledA, comeS]))
      all_goals first
        | exact ⟨⟨i + 1, hi2⟩, by show t.outs.length - (i + 1) < t.outs.length - i; omega, rfl, by rw [hpa]⟩
        | trace_state
    · have e : t.outs.take i = t.outs := List.take_of_length_le (by omega)
      repeat' (first | omega | assumption | (show AL.ahead _ _ _ = true; rfl) | refine brF (fun _ => ?_) (fun _ => ?_) | refine brT (fun _ => ?_) (fun _ => ?_) | refine brVF (fun _ => ?_) (fun _ => ?_) | refine brVT (fun _ => ?_) (fun _ => ?_) | (with_reducible refine And.intro ?_ ?_) | (simp -dsimp -implicitDefEqProofs only [go_sem, ↓reduceIte, Nat.reduceEqDiff, Nat.reduceAdd, Nat.reduceMul, Nat.reduceLeDiff, Nat.reduceLT, Nat.reduceBEq, Nat.reducePow, Int.reduceToNat, Int.reduceLE, Int.reduceLT, Int.reduceNeg, reduceCtorEq, Int.reduceEq, Int.reduceAdd, Int.reduceSub, Int.reduceMul, Nat.reduceSub, e, xf, yf, ledA, comeS]))
      all_goals first | rfl | trace_state
end Go.Proofs.YthfoeaokfhbdaaaGreat

/-
  Is a way open?
-/
set_option linter.unusedSimpArgs false
set_option linter.unusedVariables false
set_option maxRecDepth 100000
set_option maxHeartbeats 1000000
namespace Go.Proofs.YthfoeaokfhbdaaaGreat
open Go Go.AL Go.Proofs.YthfoeaokfhbdaaaGreat.T
attribute [local go_sem] nb_u8s u8s_length nb_sum List.length_replicate zero_sum sum_h nb_vals vals_len u8s_nil sumA
abbrev opensP (w : Way_) (ks : List Int) (pre : List UInt8) (h age : Int) : Prop := (∀ k ∈ w.keys, k ∈ ks) ∧ (w.hash = zeroS ∨ joinS 31 [pre] = w.hash) ∧ w.after ≤ h ∧ w.wait ≤ age
noncomputable def opensB (w : Way_) (ks : List Int) (pre : List UInt8) (h age : Int) : Bool := @decide (opensP w ks pre h age) (Classical.propDecidable _)
theorem opensB_t {w : Way_} {ks : List Int} {pre : List UInt8} {h age : Int} (q : opensP w ks pre h age) : opensB w ks pre h age = true := @decide_eq_true _ (Classical.propDecidable _) q
theorem opensB_f {w : Way_} {ks : List Int} {pre : List UInt8} {h age : Int} (q : ¬ opensP w ks pre h age) : opensB w ks pre h age = false := @decide_eq_false _ (Classical.propDecidable _) q
theorem opens_spec (nx tk tp : Nat) (w : Way_) (ks : List Int) (pre : List UInt8) (h age : Int) (hw : w.keys.length < 2 ^ 40) (hl : ks.length < 2 ^ 40) (hp : pre.length < 2 ^ 39) (h1 : tk < 2 ∨ tk - 2 < nx) (h2 : tp < 2 ∨ tp - 2 < nx) :
    FnSpec Tryz.prog 112 nx [wayA w, .agg 4 [.sl 1 (vals .i64 ks) tk, .sl 1 (u8s pre) tp, n64 h, n64 age]] [] (bA (opensB w ks pre h age)) [] 0 := by
  have hcl := w.hash.h
  have hc := fun nc (q : nx ≤ nc) k => contN_spec nc tk ks k hl (by omega)
  have hh := fun nc (q : nx ≤ nc) => lhash_spec nc tp pre hp (by omega)
  refine FnSpec.of_code (cx := cx) (an := {}) (rs := [.tmp 4]) mo Tryz.func112 rfl rfl (by kernel_rfl) (by kernel_rfl) (by show 2 ≤ _; decide) (.inl rfl) (by simp [allWr, keys, Res.wr]) ?_
  repeat' (first | omega | assumption | (show AL.ahead _ _ _ = true; rfl) | refine brF (fun _ => ?_) (fun _ => ?_) | refine brT (fun _ => ?_) (fun _ => ?_) | refine brVF (fun _ => ?_) (fun _ => ?_) | refine brVT (fun _ => ?_) (fun _ => ?_) | (with_reducible refine And.intro ?_ ?_) | (simp -dsimp -implicitDefEqProofs only [go_sem, ↓reduceIte, Nat.reduceEqDiff, Nat.reduceAdd, Nat.reduceMul, Nat.reduceLeDiff, Nat.reduceLT, Nat.reduceBEq, Nat.reducePow, Int.reduceToNat, Int.reduceLE, Int.reduceLT, Int.reduceNeg, reduceCtorEq, Int.reduceEq, Int.reduceAdd, Int.reduceSub, Int.reduceMul, Nat.reduceSub, wayA]))
  apply loop_keep [2, 3, 8, 9] (fun p : { p : Nat // p ≤ w.keys.length ∧ ∀ j (hj : j < w.keys.length), j < p → w.keys[j] ∈ ks } => [(10, n64 p.1)]) (fun _ => []) (fun p => w.keys.length - p.1) ⟨0, Nat.zero_le _, fun _ _ h => absurd h (Nat.not_lt_zero _)⟩
  · simp -dsimp -implicitDefEqProofs only [go_sem, ↓reduceIte, Nat.reduceEqDiff, Nat.reduceAdd, Nat.reduceMul, Nat.reduceLeDiff, Nat.reduceLT, Nat.reduceBEq, Nat.reducePow, Int.reduceToNat, Int.reduceLE, Int.reduceLT, Int.reduceNeg, reduceCtorEq, Int.reduceEq, Int.reduceAdd, Int.reduceSub, Int.reduceMul, Nat.reduceSub]; try rfl
  · simp -dsimp -implicitDefEqProofs only [go_sem, ↓reduceIte, Nat.reduceEqDiff, Nat.reduceAdd, Nat.reduceMul, Nat.reduceLeDiff, Nat.reduceLT, Nat.reduceBEq, Nat.reducePow, Int.reduceToNat, Int.reduceLE, Int.reduceLT, Int.reduceNeg, reduceCtorEq, Int.reduceEq, Int.reduceAdd, Int.reduceSub, Int.reduceMul, Nat.reduceSub]; try rfl
  · simp -dsimp -implicitDefEqProofs only [go_sem, ↓reduceIte, Nat.reduceEqDiff, Nat.reduceAdd, Nat.reduceMul, Nat.reduceLeDiff, Nat.reduceLT, Nat.reduceBEq, Nat.reducePow, Int.reduceToNat, Int.reduceLE, Int.reduceLT, Int.reduceNeg, reduceCtorEq, Int.reduceEq, Int.reduceAdd, Int.reduceSub, Int.reduceMul, Nat.reduceSub]; try rfl
  · intro s
    simp -dsimp -implicitDefEqProofs only [go_sem, ↓reduceIte, Nat.reduceEqDiff, Nat.reduceAdd, Nat.reduceMul, Nat.reduceLeDiff, Nat.reduceLT, Nat.reduceBEq, Nat.reducePow, Int.reduceToNat, Int.reduceLE, Int.reduceLT, Int.reduceNeg, reduceCtorEq, Int.reduceEq, Int.reduceAdd, Int.reduceSub, Int.reduceMul, Nat.reduceSub]
    try omega
  · rintro ⟨i, hi, hall⟩
    have hi : i ≤ w.keys.length := hi
    simp -dsimp -implicitDefEqProofs only [go_sem, ↓reduceIte, Nat.reduceEqDiff, Nat.reduceAdd, Nat.reduceMul, Nat.reduceLeDiff, Nat.reduceLT, Nat.reduceBEq, Nat.reducePow, Int.reduceToNat, Int.reduceLE, Int.reduceLT, Int.reduceNeg, reduceCtorEq, Int.reduceEq, Int.reduceAdd, Int.reduceSub, Int.reduceMul, Nat.reduceSub]
    refine brT (fun hc1 => ?_) (fun hc1 => ?_)
    · have hi2 : i < w.keys.length := by omega
      have q1 := vals_get (k := .i64) hi2
      have hg : w.keys.getD i 0 = w.keys[i] := by rw [List.getD_eq_getElem?_getD, List.getElem?_eq_getElem hi2]; rfl
      rw [hg] at q1
      have w1 : IntKind.i64.wrap ((i : Int) + 1) = ((i + 1 : Nat) : Int) := wrapE (by omega) (by omega)
      by_cases e : w.keys[i] ∈ ks
      · have hc2 := fun nc (q : nx ≤ nc) => hc nc q w.keys[i]
        rw [decide_eq_true e] at hc2
        repeat' (first | omega | assumption | (show AL.ahead _ _ _ = true; rfl) | refine brF (fun _ => ?_) (fun _ => ?_) | refine brT (fun _ => ?_) (fun _ => ?_) | refine brVF (fun _ => ?_) (fun _ => ?_) | refine brVT (fun _ => ?_) (fun _ => ?_) | (with_reducible refine And.intro ?_ ?_) | (refine callK_by (hc2 _ (by omega)) ?_) | (simp -dsimp -implicitDefEqProofs only [go_sem, ↓reduceIte, Nat.reduceEqDiff, Nat.reduceAdd, Nat.reduceMul, Nat.reduceLeDiff, Nat.reduceLT, Nat.reduceBEq, Nat.reducePow, Int.reduceToNat, Int.reduceLE, Int.reduceLT, Int.reduceNeg, reduceCtorEq, Int.reduceEq, Int.reduceAdd, Int.reduceSub, Int.reduceMul, Nat.reduceSub, q1, w1]))
        all_goals first
          | exact ⟨⟨i + 1, hi2, fun j hj hlt => by
                by_cases e2 : j = i
                · subst e2; exact e
                · exact hall j hj (by omega)⟩, by show w.keys.length - (i + 1) < w.keys.length - i; omega, rfl⟩
          | trace_state
      · have hc2 := fun nc (q : nx ≤ nc) => hc nc q w.keys[i]
        rw [decide_eq_false e] at hc2
        repeat' (first | omega | assumption | (show AL.ahead _ _ _ = true; rfl) | refine brF (fun _ => ?_) (fun _ => ?_) | refine brT (fun _ => ?_) (fun _ => ?_) | refine brVF (fun _ => ?_) (fun _ => ?_) | refine brVT (fun _ => ?_) (fun _ => ?_) | (with_reducible refine And.intro ?_ ?_) | (refine callK_by (hc2 _ (by omega)) ?_) | (simp -dsimp -implicitDefEqProofs only [go_sem, ↓reduceIte, Nat.reduceEqDiff, Nat.reduceAdd, Nat.reduceMul, Nat.reduceLeDiff, Nat.reduceLT, Nat.reduceBEq, Nat.reducePow, Int.reduceToNat, Int.reduceLE, Int.reduceLT, Int.reduceNeg, reduceCtorEq, Int.reduceEq, Int.reduceAdd, Int.reduceSub, Int.reduceMul, Nat.reduceSub, q1, w1]))
        all_goals first
          | (rw [opensB_f (fun q => e (q.1 _ (List.getElem_mem hi2)))])
          | trace_state
    · have e : i = w.keys.length := by omega
      subst e
      have hk : ∀ k ∈ w.keys, k ∈ ks := fun k hk => by
        obtain ⟨j, hj, rfl⟩ := List.getElem_of_mem hk
        exact hall j hj hj
      by_cases z1 : w.hash = zeroS
      · have e1 : eqB (AV.vec 1 (u8s w.hash.b)) (AV.vec 1 (u8s zeroS.b)) = true := by rw [z1]; exact eqB_yes rfl
        repeat' (first | omega | assumption | (show AL.ahead _ _ _ = true; rfl) | refine brF (fun _ => ?_) (fun _ => ?_) | refine brT (fun _ => ?_) (fun _ => ?_) | refine brVF (fun _ => ?_) (fun _ => ?_) | refine brVT (fun _ => ?_) (fun _ => ?_) | (with_reducible refine And.intro ?_ ?_) | (refine callK_by (hh _ (by omega)) ?_) | (simp -dsimp -implicitDefEqProofs only [go_sem, ↓reduceIte, Nat.reduceEqDiff, Nat.reduceAdd, Nat.reduceMul, Nat.reduceLeDiff, Nat.reduceLT, Nat.reduceBEq, Nat.reducePow, Int.reduceToNat, Int.reduceLE, Int.reduceLT, Int.reduceNeg, reduceCtorEq, Int.reduceEq, Int.reduceAdd, Int.reduceSub, Int.reduceMul, Nat.reduceSub, wayA, e1, ↓cmp_sum, isSumT, decide_eq_true_eq, Bool.and_self]))
        all_goals first
          | (simp only [bA]; congr 2; unfold opensB; refine (@decide_eq_decide _ _ _ (Classical.propDecidable _)).2 ⟨fun q => ⟨hk, .inl z1, by omega, by omega⟩, fun q => by obtain ⟨_, _, q1, q2⟩ := q; omega⟩)
          | (rw [opensB_f (fun q => by obtain ⟨_, _, q1, q2⟩ := q; omega)])
          | (rw [opensB_t ⟨hk, .inl z1, by omega, by omega⟩])
          | trace_state
      · have e1 : eqB (AV.vec 1 (u8s w.hash.b)) (AV.vec 1 (u8s zeroS.b)) = false := eqB_no (fun q => z1 (sumA_inj _ _ q))
        by_cases z2 : joinS 31 [pre] = w.hash
        · have e2 : eqB (AV.vec 1 (u8s (joinS 31 [pre]).b)) (AV.vec 1 (u8s w.hash.b)) = true := by rw [z2]; exact eqB_yes rfl
          repeat' (first | omega | assumption | (show AL.ahead _ _ _ = true; rfl) | refine brF (fun _ => ?_) (fun _ => ?_) | refine brT (fun _ => ?_) (fun _ => ?_) | refine brVF (fun _ => ?_) (fun _ => ?_) | refine brVT (fun _ => ?_) (fun _ => ?_) | (with_reducible refine And.intro ?_ ?_) | (refine callK_by (hh _ (by omega)) ?_) | (simp -dsimp -implicitDefEqProofs only [go_sem, ↓reduceIte, Nat.reduceEqDiff, Nat.reduceAdd, Nat.reduceMul, Nat.reduceLeDiff, Nat.reduceLT, Nat.reduceBEq, Nat.reducePow, Int.reduceToNat, Int.reduceLE, Int.reduceLT, Int.reduceNeg, reduceCtorEq, Int.reduceEq, Int.reduceAdd, Int.reduceSub, Int.reduceMul, Nat.reduceSub, wayA, e1, e2, ↓cmp_sum, isSumT, decide_eq_true_eq, Bool.and_self]))
          all_goals first
            | (simp only [bA]; congr 2; unfold opensB; refine (@decide_eq_decide _ _ _ (Classical.propDecidable _)).2 ⟨fun q => ⟨hk, .inr z2, by omega, by omega⟩, fun q => by obtain ⟨_, _, q1, q2⟩ := q; omega⟩)
            | (rw [opensB_f (fun q => by obtain ⟨_, _, q1, q2⟩ := q; omega)])
            | (rw [opensB_t ⟨hk, .inr z2, by omega, by omega⟩])
            | trace_state
        · have e2 : eqB (AV.vec 1 (u8s (joinS 31 [pre]).b)) (AV.vec 1 (u8s w.hash.b)) = false := eqB_no (fun q => z2 (sumA_inj _ _ q))
          repeat' (first | omega | assumption | (show AL.ahead _ _ _ = true; rfl) | refine brF (fun _ => ?_) (fun _ => ?_) | refine brT (fun _ => ?_) (fun _ => ?_) | refine brVF (fun _ => ?_) (fun _ => ?_) | refine brVT (fun _ => ?_) (fun _ => ?_) | (with_reducible refine And.intro ?_ ?_) | (refine callK_by (hh _ (by omega)) ?_) | (simp -dsimp -implicitDefEqProofs only [go_sem, ↓reduceIte, Nat.reduceEqDiff, Nat.reduceAdd, Nat.reduceMul, Nat.reduceLeDiff, Nat.reduceLT, Nat.reduceBEq, Nat.reducePow, Int.reduceToNat, Int.reduceLE, Int.reduceLT, Int.reduceNeg, reduceCtorEq, Int.reduceEq, Int.reduceAdd, Int.reduceSub, Int.reduceMul, Nat.reduceSub, wayA, e1, e2, ↓cmp_sum, isSumT, decide_eq_true_eq, Bool.and_self]))
          all_goals first
            | (rw [opensB_f (fun q => by obtain ⟨_, q0, _⟩ := q; exact q0.elim z1 z2)])
            | trace_state
end Go.Proofs.YthfoeaokfhbdaaaGreat

/-
  Ledgers: how much all ins are.
-/
set_option linter.unusedSimpArgs false
set_option linter.unusedVariables false
set_option maxRecDepth 100000
set_option maxHeartbeats 2000000
namespace Go.Proofs.YthfoeaokfhbdaaaGreat
open Go Go.AL Go.Proofs.YthfoeaokfhbdaaaGreat.T
def wayZ : Way_ := ⟨[], zeroS, 0, 0⟩
/-- how much ins are, or why they are not spent -/
noncomputable def insF (ks : List Int) (h : Int) (cs : List (Ref_ × Coin_)) : Int → List In_ → Int × Int
  | s, [] => (s, 0)
  | s, x :: r => match lookM x.ref cs with
    | none => (0, 13)
    | some c => if (c.out.ways.length : Int) ≤ x.way ∨ opensB (c.out.ways.getD x.way.toNat wayZ) ks x.pre h (w64 (h - c.height)) = false then (0, 12)
        else if (addF 0 [s, c.out.amount]).2 = 0 then insF ks h cs (addF 0 [s, c.out.amount]).1 r else (0, (addF 0 [s, c.out.amount]).2)
theorem wayA_good (w : Way_) : (wayA w).good = true := rfl
theorem wayA_agg (w : Way_) : (wayA w).isAgg = true := rfl
theorem wayA_csz (w : Way_) : (wayA w).csize = 35 := rfl
theorem nb_way1 {m : Nat} (w : Way_) : AV.nb m (wayA w) = True := by simp [wayA, AV.nb, AV.nbs, nb_sum, nb_vals]
theorem iA_p0 (t : Tx_) : (txA t).parts.getD 0 .undef = .sl 35 (insA t.ins) 0 := rfl
theorem iA_off0 (t : Tx_) : (txA t).partOff 0 = 0 := rfl
attribute [local go_sem] nb_u8s u8s_length nb_sum List.length_replicate zero_sum sum_h u8s_nil nb_ref refA_good refA_agg refA_csz sum_csz sum_agg sumA_good nbK_ref nbV_coin kk_ref k1_ref ins_len nb_ins nb_coin coinA_good coinA_agg coinA_csz txA_good txA_csz txA_agg nb_tx iA_p0 iA_off0 tA_len nb_vals vals_len ways_len nb_ways wayA_good wayA_agg wayA_csz nb_way1
theorem ins_spec (nx : Nat) (n : LN) (x : LS) (t : Tx_) (h : Int) (hn : n.ok nx) (hb : (bodyL true t).length < 2 ^ 38) (hk : ∀ o ∈ t.outs, ∀ w ∈ o.ways, w.keys.length < 2 ^ 32) (hsl : t.signs.length < 2 ^ 40) (hil : t.ins.length < 2 ^ 40)
    (hin : ∀ y ∈ t.ins, 0 ≤ y.way ∧ y.pre.length < 2 ^ 39) (hC : ∀ p ∈ x.coins, p.2.out.ways.length < 2 ^ 40 ∧ ∀ w ∈ p.2.out.ways, w.keys.length < 2 ^ 40) :
    FnSpec Tryz.prog 57 nx [.ref n.l 0 [], txA t, n64 h] [(n.l, some (.robj (ledA n x))), (n.v, some (.robj (.agg 1 [.map n.vm]))), (n.vm, some (.rmp (coinsE x.coins)))]
      (.tup [n64 (insF (keysF t t.signs) h x.coins 0 t.ins).1, n64 (insF (keysF t t.signs) h x.coins 0 t.ins).2]) [] 0 := by
  have xf := hn.xf
  have yf := hn.nf
  have hlt := hn.lt
  have b1 := hn.ne.2.1.1
  have hkl := keysF_len t t.signs
  obtain ⟨R, hR⟩ : ∃ R, R = insF (keysF t t.signs) h x.coins 0 t.ins := ⟨_, rfl⟩
  rw [← hR]
  generalize hks : keysF t t.signs = ks at *
  have hkeys := fun nc => keysA_spec nc t hb hk hsl
  rw [hks] at hkeys
  refine FnSpec.of_code (cx := cx) (an := {}) (rs := [.tmp 6, .tmp 7]) mo Tryz.func57 rfl rfl (by kernel_rfl) (by kernel_rfl) (by show 3 ≤ _; decide) (.inr ⟨_, rfl, by simp [AV.good]⟩) (by simp [allWr, keys, Res.wr]) ?_
  repeat' (first | omega | assumption | (show AL.ahead _ _ _ = true; rfl) | refine brF (fun _ => ?_) (fun _ => ?_) | refine brT (fun _ => ?_) (fun _ => ?_) | refine brVF (fun _ => ?_) (fun _ => ?_) | refine brVT (fun _ => ?_) (fun _ => ?_) | (with_reducible refine And.intro ?_ ?_) | (refine callK_by (hkeys _) ?_) | (simp -dsimp -implicitDefEqProofs only [go_sem, ↓reduceIte, Nat.reduceEqDiff, Nat.reduceAdd, Nat.reduceMul, Nat.reduceLeDiff, Nat.reduceLT, Nat.reduceBEq, Nat.reducePow, Int.reduceToNat, Int.reduceLE, Int.reduceLT, Int.reduceNeg, reduceCtorEq, Int.reduceEq, Int.reduceAdd, Int.reduceSub, Int.reduceMul, Nat.reduceSub, xf, yf]))
  apply loop_keep [0, 2, 9, 19, 20] (fun p : { p : Nat × Int // p.1 ≤ t.ins.length ∧ insF ks h x.coins p.2 (t.ins.drop p.1) = R } => [(8, n64 p.1.2), (21, n64 p.1.1)]) (fun p => [(n.l, some (.robj (ledA n x))), (n.v, some (.robj (.agg 1 [.map n.vm]))), (n.vm, some (.rmp (coinsE x.coins)))]) (fun p => t.ins.length - p.1.1) ⟨(0, 0), Nat.zero_le _, hR.symm⟩
  · simp -dsimp -implicitDefEqProofs only [go_sem, ↓reduceIte, Nat.reduceEqDiff, Nat.reduceAdd, Nat.reduceMul, Nat.reduceLeDiff, Nat.reduceLT, Nat.reduceBEq, Nat.reducePow, Int.reduceToNat, Int.reduceLE, Int.reduceLT, Int.reduceNeg, reduceCtorEq, Int.reduceEq, Int.reduceAdd, Int.reduceSub, Int.reduceMul, Nat.reduceSub]; try rfl
  · simp -dsimp -implicitDefEqProofs only [go_sem, ↓reduceIte, Nat.reduceEqDiff, Nat.reduceAdd, Nat.reduceMul, Nat.reduceLeDiff, Nat.reduceLT, Nat.reduceBEq, Nat.reducePow, Int.reduceToNat, Int.reduceLE, Int.reduceLT, Int.reduceNeg, reduceCtorEq, Int.reduceEq, Int.reduceAdd, Int.reduceSub, Int.reduceMul, Nat.reduceSub]; try rfl
  · simp -dsimp -implicitDefEqProofs only [go_sem, ↓reduceIte, Nat.reduceEqDiff, Nat.reduceAdd, Nat.reduceMul, Nat.reduceLeDiff, Nat.reduceLT, Nat.reduceBEq, Nat.reducePow, Int.reduceToNat, Int.reduceLE, Int.reduceLT, Int.reduceNeg, reduceCtorEq, Int.reduceEq, Int.reduceAdd, Int.reduceSub, Int.reduceMul, Nat.reduceSub, xf, yf]; try rfl
  · intro s
    simp -dsimp -implicitDefEqProofs only [go_sem, ↓reduceIte, Nat.reduceEqDiff, Nat.reduceAdd, Nat.reduceMul, Nat.reduceLeDiff, Nat.reduceLT, Nat.reduceBEq, Nat.reducePow, Int.reduceToNat, Int.reduceLE, Int.reduceLT, Int.reduceNeg, reduceCtorEq, Int.reduceEq, Int.reduceAdd, Int.reduceSub, Int.reduceMul, Nat.reduceSub, ledA, sums_len, nb_sums]
    try omega
  · rintro ⟨⟨i, s⟩, hi, hall⟩
    have hi : i ≤ t.ins.length := hi
    simp only at hall
    simp -dsimp -implicitDefEqProofs only [go_sem, ↓reduceIte, Nat.reduceEqDiff, Nat.reduceAdd, Nat.reduceMul, Nat.reduceLeDiff, Nat.reduceLT, Nat.reduceBEq, Nat.reducePow, Int.reduceToNat, Int.reduceLE, Int.reduceLT, Int.reduceNeg, reduceCtorEq, Int.reduceEq, Int.reduceAdd, Int.reduceSub, Int.reduceMul, Nat.reduceSub]
    refine brT (fun hc => ?_) (fun hc => ?_)
    · have hi2 : i < t.ins.length := by omega
      have q1 := ins_get hi2
      have hd := List.drop_eq_getElem_cons hi2
      rw [hd] at hall
      obtain ⟨y1, y2⟩ := hin _ (List.getElem_mem hi2)
      generalize t.ins[i] = y at *
      obtain ⟨wn, hwn⟩ : ∃ wn : Nat, y.way = (wn : Int) := ⟨y.way.toNat, by omega⟩
      have w1 : IntKind.i64.wrap ((i : Int) + 1) = ((i + 1 : Nat) : Int) := wrapE (by omega) (by omega)
      have hvg := fun nc (q1 : n.v < nc) (q2 : n.vm < nc) => vget_spec nc n.v n.vm x.coins y.ref q1 q2 b1
      cases hf : lookM y.ref x.coins with
      | none =>
        simp only [hf, optC, Option.isSome_none] at hvg
        simp only [insF, hf] at hall
        repeat' (first | omega | assumption | (show AL.ahead _ _ _ = true; rfl) | refine brF (fun _ => ?_) (fun _ => ?_) | refine brT (fun _ => ?_) (fun _ => ?_) | refine brVF (fun _ => ?_) (fun _ => ?_) | refine brVT (fun _ => ?_) (fun _ => ?_) | (with_reducible refine And.intro ?_ ?_) | (refine callK_by (hvg _ (by omega) (by omega)) ?_) | (simp -dsimp -implicitDefEqProofs only [go_sem, ↓reduceIte, Nat.reduceEqDiff, Nat.reduceAdd, Nat.reduceMul, Nat.reduceLeDiff, Nat.reduceLT, Nat.reduceBEq, Nat.reducePow, Int.reduceToNat, Int.reduceLE, Int.reduceLT, Int.reduceNeg, reduceCtorEq, Int.reduceEq, Int.reduceAdd, Int.reduceSub, Int.reduceMul, Nat.reduceSub, q1, w1, xf, yf, inA, ledA, sums_len, nb_sums]))
        all_goals first | (rw [← hall]; exact ⟨rfl, rfl⟩) | (rw [← hall]) | trace_state
      | some c =>
        simp only [hf, optC, Option.isSome_some] at hvg
        obtain ⟨c1, c2⟩ := hC _ (lookM_mem hf)
        simp only at c1 c2
        simp only [insF, hf] at hall
        by_cases hwl : (c.out.ways.length : Int) ≤ y.way
        · rw [if_pos (.inl hwl)] at hall
          rw [hwn] at hwl
          have hge : (c.out.ways.length ≤ wn) = True := eq_true (by omega)
          repeat' (first | omega | assumption | (show AL.ahead _ _ _ = true; rfl) | refine brF (fun _ => ?_) (fun _ => ?_) | refine brT (fun _ => ?_) (fun _ => ?_) | refine brVF (fun _ => ?_) (fun _ => ?_) | refine brVT (fun _ => ?_) (fun _ => ?_) | (with_reducible refine And.intro ?_ ?_) | (refine callK_by (hvg _ (by omega) (by omega)) ?_) | (simp -dsimp -implicitDefEqProofs only [go_sem, ↓reduceIte, Nat.reduceEqDiff, Nat.reduceAdd, Nat.reduceMul, Nat.reduceLeDiff, Nat.reduceLT, Nat.reduceBEq, Nat.reducePow, Int.reduceToNat, Int.reduceLE, Int.reduceLT, Int.reduceNeg, reduceCtorEq, Int.reduceEq, Int.reduceAdd, Int.reduceSub, Int.reduceMul, Nat.reduceSub, q1, w1, xf, yf, inA, ledA, coinA, outA, hwn, ge_iff_le, hge, sums_len, nb_sums]))
          all_goals first | (rw [← hall]; exact ⟨rfl, rfl⟩) | (rw [← hall]) | trace_state
        · have hwl2 : wn < c.out.ways.length := by omega
          have hge : (c.out.ways.length ≤ wn) = False := eq_false (by omega)
          have q2 := ways_get hwl2
          have q3 : c.out.ways.getD y.way.toNat wayZ = c.out.ways[wn] := by rw [hwn, Int.toNat_natCast, List.getD_eq_getElem?_getD, List.getElem?_eq_getElem hwl2]; rfl
          have hkw := c2 _ (List.getElem_mem hwl2)
          rw [q3] at hall
          generalize c.out.ways[wn] = wy at *
          have hop := fun nc => opens_spec nc 0 0 wy ks y.pre h (w64 (h - c.height)) hkw (by omega) y2 (.inl (by omega)) (.inl (by omega))
          have had := fun nc => add_spec nc [s, c.out.amount] (by simp)
          simp only [vals, List.map_cons, List.map_nil] at had
          rcases Bool.eq_false_or_eq_true (opensB wy ks y.pre h (w64 (h - c.height))) with ho | ho
          · rw [ho] at hop
            rw [if_neg (by rw [ho]; simp; omega)] at hall
            by_cases ha : (addF 0 [s, c.out.amount]).2 = 0
            · rw [if_pos ha] at hall
              rw [ha] at had
              repeat' (first | omega | assumption | (show AL.ahead _ _ _ = true; rfl) | refine brF (fun _ => ?_) (fun _ => ?_) | refine brT (fun _ => ?_) (fun _ => ?_) | refine brVF (fun _ => ?_) (fun _ => ?_) | refine brVT (fun _ => ?_) (fun _ => ?_) | (with_reducible refine And.intro ?_ ?_) | (refine callK_by (hvg _ (by omega) (by omega)) ?_) | (refine callK_by (hop _) ?_) | (refine callK_by (had _) ?_) | (simp -dsimp -implicitDefEqProofs only [go_sem, ↓reduceIte, Nat.reduceEqDiff, Nat.reduceAdd, Nat.reduceMul, Nat.reduceLeDiff, Nat.reduceLT, Nat.reduceBEq, Nat.reducePow, Int.reduceToNat, Int.reduceLE, Int.reduceLT, Int.reduceNeg, reduceCtorEq, Int.reduceEq, Int.reduceAdd, Int.reduceSub, Int.reduceMul, Nat.reduceSub, q1, q2, w1, xf, yf, inA, ledA, coinA, outA, hwn, ge_iff_le, hge, sums_len, nb_sums]))
              all_goals first
                | exact ⟨⟨(i + 1, (addF 0 [s, c.out.amount]).1), hi2, hall⟩, by show t.ins.length - (i + 1) < t.ins.length - i; omega, rfl, rfl⟩
                | trace_state
            · rw [if_neg ha] at hall
              repeat' (first | omega | assumption | (show AL.ahead _ _ _ = true; rfl) | refine brF (fun _ => ?_) (fun _ => ?_) | refine brT (fun _ => ?_) (fun _ => ?_) | refine brVF (fun _ => ?_) (fun _ => ?_) | refine brVT (fun _ => ?_) (fun _ => ?_) | (with_reducible refine And.intro ?_ ?_) | (refine callK_by (hvg _ (by omega) (by omega)) ?_) | (refine callK_by (hop _) ?_) | (refine callK_by (had _) ?_) | (simp -dsimp -implicitDefEqProofs only [go_sem, ↓reduceIte, Nat.reduceEqDiff, Nat.reduceAdd, Nat.reduceMul, Nat.reduceLeDiff, Nat.reduceLT, Nat.reduceBEq, Nat.reducePow, Int.reduceToNat, Int.reduceLE, Int.reduceLT, Int.reduceNeg, reduceCtorEq, Int.reduceEq, Int.reduceAdd, Int.reduceSub, Int.reduceMul, Nat.reduceSub, q1, q2, w1, xf, yf, inA, ledA, coinA, outA, hwn, ge_iff_le, hge, ha, sums_len, nb_sums]))
              all_goals first | (rw [← hall]; exact ⟨rfl, rfl⟩) | (rw [← hall]) | trace_state
          · rw [ho] at hop
            rw [if_pos (.inr ho)] at hall
            repeat' (first | omega | assumption | (show AL.ahead _ _ _ = true; rfl) | refine brF (fun _ => ?_) (fun _ => ?_) | refine brT (fun _ => ?_) (fun _ => ?_) | refine brVF (fun _ => ?_) (fun _ => ?_) | refine brVT (fun _ => ?_) (fun _ => ?_) | (with_reducible refine And.intro ?_ ?_) | (refine callK_by (hvg _ (by omega) (by omega)) ?_) | (refine callK_by (hop _) ?_) | (simp -dsimp -implicitDefEqProofs only [go_sem, ↓reduceIte, Nat.reduceEqDiff, Nat.reduceAdd, Nat.reduceMul, Nat.reduceLeDiff, Nat.reduceLT, Nat.reduceBEq, Nat.reducePow, Int.reduceToNat, Int.reduceLE, Int.reduceLT, Int.reduceNeg, reduceCtorEq, Int.reduceEq, Int.reduceAdd, Int.reduceSub, Int.reduceMul, Nat.reduceSub, q1, q2, w1, xf, yf, inA, ledA, coinA, outA, hwn, ge_iff_le, hge, sums_len, nb_sums]))
            all_goals first | (rw [← hall]; exact ⟨rfl, rfl⟩) | (rw [← hall]) | trace_state
    · have e : i = t.ins.length := by omega
      subst e
      rw [List.drop_length, insF] at hall
      repeat' (first | omega | assumption | (show AL.ahead _ _ _ = true; rfl) | refine brF (fun _ => ?_) (fun _ => ?_) | refine brT (fun _ => ?_) (fun _ => ?_) | refine brVF (fun _ => ?_) (fun _ => ?_) | refine brVT (fun _ => ?_) (fun _ => ?_) | (with_reducible refine And.intro ?_ ?_) | (simp -dsimp -implicitDefEqProofs only [go_sem, ↓reduceIte, Nat.reduceEqDiff, Nat.reduceAdd, Nat.reduceMul, Nat.reduceLeDiff, Nat.reduceLT, Nat.reduceBEq, Nat.reducePow, Int.reduceToNat, Int.reduceLE, Int.reduceLT, Int.reduceNeg, reduceCtorEq, Int.reduceEq, Int.reduceAdd, Int.reduceSub, Int.reduceMul, Nat.reduceSub]))
      all_goals first | (rw [← hall]; exact ⟨rfl, rfl⟩) | (rw [← hall]) | trace_state
end Go.Proofs.YthfoeaokfhbdaaaGreat

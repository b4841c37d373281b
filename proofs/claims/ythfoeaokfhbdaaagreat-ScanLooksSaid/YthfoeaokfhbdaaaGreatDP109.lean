/-
 Outs are read.
-/
import Derived.Test.YthfoeaokfhbdaaaGreatDP71
import Derived.Test.YthfoeaokfhbdaaaGreatDP23
import Derived.Test.YthfoeaokfhbdaaaGreatDP114
import Derived.Test.YthfoeaokfhbdaaaGreatDP70
import Derived.Test.YthfoeaokfhbdaaaGreatDP94
set_option linter.unusedSimpArgs false
set_option linter.unusedVariables false
set_option maxRecDepth 100000
set_option maxHeartbeats 8000000
namespace Go.Proofs.YthfoeaokfhbdaaaGreat
open Go Go.AL Go.Proofs.YthfoeaokfhbdaaaGreat.T
def keysR (s : ES) : Nat → List Int × ES
 | 0 => ([], s)
 | i + 1 => ((keysR s i).1 ++ [(uptoS (keysR s i).2 255).1], (uptoS (keysR s i).2 255).2)
def wayRd (s : ES) : Way_ × ES :=
 let n := uptoS s 16
 let k := keysR n.2 n.1.toNat
 let h := esumS k.2
 let a := uptoS h.2 1073741824
 let w := uptoS a.2 1073741824
 (⟨k.1, h.1, a.1, w.1⟩, w.2)
def waysRd (s : ES) : Nat → List Way_ × ES
 | 0 => ([], s)
 | i + 1 => ((waysRd s i).1 ++ [(wayRd (waysRd s i).2).1], (wayRd (waysRd s i).2).2)
noncomputable def outRd (s : ES) : Out_ × ES :=
 let a := uptoS s 1125899906842624
 let n := uptoS a.2 16
 let w := waysRd n.2 n.1.toNat
 (⟨a.1, w.1⟩, if outB ⟨a.1, w.1⟩ = true then w.2 else failS w.2 4)
theorem keysR_len (s : ES) : ∀ i, (keysR s i).1.length = i ∧ (keysR s i).2.b.length ≤ s.b.length
 | 0 => ⟨rfl, Nat.le_refl _⟩
 | i + 1 => by
  obtain ⟨h1, h2⟩ := keysR_len s i
  exact ⟨by simp [keysR, h1], Nat.le_trans (uptoS_len _ _) h2⟩
theorem wayRd_len (s : ES) : (wayRd s).1.keys.length ≤ 16 ∧ (wayRd s).2.b.length ≤ s.b.length := by
 have r1 := uptoS_rng s 16 (by decide)
 have l1 := uptoS_len s 16
 have l2 := keysR_len (uptoS s 16).2 (uptoS s 16).1.toNat
 have l3 := esumS_len (keysR (uptoS s 16).2 (uptoS s 16).1.toNat).2
 have l4 := uptoS_len (esumS (keysR (uptoS s 16).2 (uptoS s 16).1.toNat).2).2 1073741824
 have l5 := uptoS_len (uptoS (esumS (keysR (uptoS s 16).2 (uptoS s 16).1.toNat).2).2 1073741824).2 1073741824
 exact ⟨by show (keysR (uptoS s 16).2 (uptoS s 16).1.toNat).1.length ≤ 16; omega, by show (uptoS (uptoS (esumS (keysR (uptoS s 16).2 (uptoS s 16).1.toNat).2).2 1073741824).2 1073741824).2.b.length ≤ _; omega⟩
theorem waysRd_len (s : ES) : ∀ i, (waysRd s i).1.length = i ∧ (waysRd s i).2.b.length ≤ s.b.length ∧ ∀ w ∈ (waysRd s i).1, w.keys.length ≤ 16
 | 0 => ⟨rfl, Nat.le_refl _, fun w hw => by simp [waysRd] at hw⟩
 | i + 1 => by
  obtain ⟨h1, h2, h3⟩ := waysRd_len s i
  have h4 := wayRd_len (waysRd s i).2
  refine ⟨by simp [waysRd, h1], Nat.le_trans h4.2 h2, fun w hw => ?_⟩
  rcases List.mem_append.1 hw with q | q
  ·exact h3 w q
  ·rw [List.mem_singleton.1 q]; exact h4.1
theorem outRd_len (s : ES) : (outRd s).1.ways.length ≤ 16 ∧ (outRd s).2.b.length ≤ s.b.length ∧ ∀ w ∈ (outRd s).1.ways, w.keys.length ≤ 16 := by
 have l1 := uptoS_len s 1125899906842624
 obtain ⟨a, ha⟩ : ∃ a, a = uptoS s 1125899906842624 := ⟨_, rfl⟩
 rw [← ha] at l1
 have r2 := uptoS_rng a.2 16 (by decide)
 have l2 := uptoS_len a.2 16
 obtain ⟨n, hn⟩ : ∃ n, n = uptoS a.2 16 := ⟨_, rfl⟩
 rw [← hn] at l2 r2
 have l3 := waysRd_len n.2 n.1.toNat
 obtain ⟨w, hw⟩ : ∃ w, w = waysRd n.2 n.1.toNat := ⟨_, rfl⟩
 rw [← hw] at l3
 have e : outRd s = (⟨a.1, w.1⟩, if outB ⟨a.1, w.1⟩ = true then w.2 else failS w.2 4) := by rw [hw, hn, ha]; rfl
 rw [e]
 refine ⟨by simp only; omega, ?_, l3.2.2⟩
 simp only
 split
 ·omega
 ·unfold failS; split
  ·simp only; omega
  ·omega
theorem vals_snoc (l : List Int) (n : Int) : vals .i64 l ++ [n64 n] = vals .i64 (l ++ [n]) := by simp [vals]
theorem ways_snoc (l : List Way_) (w : Way_) : waysA l ++ [wayA w] = waysA (l ++ [w]) := by simp [waysA]
attribute [local go_sem] nb_u8s nb_vals vals_len u8s_length nb_sum sumA List.length_replicate u8_wrap take32 List.drop_zero zero_sum sum_h nb_eye u8s_nil ways_len nb_ways
theorem lget_spec (nx m : Nat) (s : ES) (hm : m < nx) (hb : s.b.length < 2 ^ 40) : FnSpec Tryz.prog 236 nx [.ref m 0 []] [(m, some (.obj (eyeA s)))] (outA (outRd s).1) [(m, some (.obj (eyeA (outRd s).2)))] 0 := by
 have x1 := fun k => lt_nx hm k
 have x2 := fun k => nx_gt hm k
 have l1 := uptoS_len s 1125899906842624
 have u1 := fun nc (q : m < nc) => upto_spec nc m s 1125899906842624 q hb
 obtain ⟨a, ha⟩ : ∃ a, a = uptoS s 1125899906842624 := ⟨_, rfl⟩
 rw [← ha] at l1 u1
 have r2 := uptoS_rng a.2 16 (by decide)
 have l2 := uptoS_len a.2 16
 have u2 := fun nc (q : m < nc) => upto_spec nc m a.2 16 q (by omega)
 obtain ⟨n, hn⟩ : ∃ n, n = uptoS a.2 16 := ⟨_, rfl⟩
 rw [← hn] at l2 r2 u2
 obtain ⟨kn, hkn⟩ : ∃ kn : Nat, n.1 = (kn : Int) := ⟨n.1.toNat, by omega⟩
 have l3 := waysRd_len n.2 n.1.toNat
 obtain ⟨w, hw⟩ : ∃ w, w = waysRd n.2 n.1.toNat := ⟨_, rfl⟩
 rw [← hw] at l3
 have e : outRd s = (⟨a.1, w.1⟩, if outB ⟨a.1, w.1⟩ = true then w.2 else failS w.2 4) := by rw [hw, hn, ha]; rfl
 rw [hkn] at hw l3 r2 u2
 simp only [Int.toNat_natCast] at hw l3
 rw [e]
 clear e
 refine FnSpec.of_code (cx := cx) (an := {tk := [(4, [([0], 1)]), (7, [([1], 35)])], fg := [35, 40, 45]}) (rs := [.cell 2 142]) mo Tryz.func236 rfl rfl (by kernel_rfl) (by kernel_rfl) (by show 1 ≤ _; decide) (.inl rfl) (by simp [allWr, keys, Res.wr]) ?_
 repeat' (first | omega | assumption | (show AL.ahead _ _ _ = true; rfl) | (first | apply brF | apply brT | apply brVF | apply brVT) <;> intro _ | (with_reducible refine And.intro ?_ ?_) | (refine callK_by (u1 _ (by omega)) ?_) | (refine callK_by (u2 _ (by omega)) ?_) | (simp -dsimp -implicitDefEqProofs only [go_sem, x1, x2, lt_nx0 hm, nx_gt0 hm]))
 apply loop_keep [0, 2, 3, 9] (fun i : { i : Nat // i ≤ kn } => [(10, n64 i.1)]) (fun i => [(m, some (.obj (eyeA (waysRd n.2 i.1).2))), (nx + 32, some (.obj (.agg 2 [n64 a.1, .sl 35 (waysA (waysRd n.2 i.1).1) (nx + 27)]))), (nx + 25, some (.tail i.1)), (nx, some (.obj (.agg 2 [n64 0, .sl 35 [] 1])))]) (fun i => kn - i.1) ⟨0, Nat.zero_le _⟩
 ·simp -dsimp -implicitDefEqProofs only [go_sem]; try rfl
 ·simp -dsimp -implicitDefEqProofs only [go_sem]; try rfl
 ·simp -dsimp -implicitDefEqProofs only [go_sem, waysRd, waysA, List.map_nil, x1, x2, lt_nx0 hm, nx_gt0 hm]; try rfl
 ·intro s
  simp -dsimp -implicitDefEqProofs only [go_sem]
  try omega
 ·rintro ⟨i, hi⟩
  have hi : i ≤ kn := hi
  have hpl := waysRd_len n.2 i
  simp -dsimp -implicitDefEqProofs only [go_sem]
  refine brT (fun h => ?_) (fun h => ?_)
  ·have hi2 : i < kn := by omega
   have w1 : IntKind.i64.wrap ((i : Int) + 1) = ((i + 1 : Nat) : Int) := wrapE (by omega) (by omega)
   have e1 : waysRd n.2 (i + 1) = ((waysRd n.2 i).1 ++ [(wayRd (waysRd n.2 i).2).1], (wayRd (waysRd n.2 i).2).2) := rfl
   obtain ⟨W, hW⟩ : ∃ W, W = waysRd n.2 i := ⟨_, rfl⟩
   rw [← hW] at e1 hpl ⊢
   have v1 := uptoS_len W.2 16
   have vr := uptoS_rng W.2 16 (by decide)
   have p1 := fun nc (q : m < nc) => upto_spec nc m W.2 16 q (by omega)
   obtain ⟨c, hc⟩ : ∃ c, c = uptoS W.2 16 := ⟨_, rfl⟩
   rw [← hc] at v1 vr p1
   obtain ⟨cn, hcn⟩ : ∃ cn : Nat, c.1 = (cn : Int) := ⟨c.1.toNat, by omega⟩
   have v2 := keysR_len c.2 cn
   obtain ⟨k, hk⟩ : ∃ k, k = keysR c.2 cn := ⟨_, rfl⟩
   rw [← hk] at v2
   have v3 := esumS_len k.2
   have p3 := fun nc (q : m < nc) => esum_spec nc m k.2 q (by omega)
   obtain ⟨hh, hhh⟩ : ∃ hh, hh = esumS k.2 := ⟨_, rfl⟩
   rw [← hhh] at v3 p3
   have v4 := uptoS_len hh.2 1073741824
   have p4 := fun nc (q : m < nc) => upto_spec nc m hh.2 1073741824 q (by omega)
   obtain ⟨A, hA⟩ : ∃ A, A = uptoS hh.2 1073741824 := ⟨_, rfl⟩
   rw [← hA] at v4 p4
   have p5 := fun nc (q : m < nc) => upto_spec nc m A.2 1073741824 q (by omega)
   obtain ⟨B, hB⟩ : ∃ B, B = uptoS A.2 1073741824 := ⟨_, rfl⟩
   rw [← hB] at p5
   have eW : wayRd W.2 = (⟨k.1, hh.1, A.1, B.1⟩, B.2) := by rw [hB, hA, hhh, hk, ← Int.toNat_natCast cn, ← hcn, hc]; rfl
   rw [eW] at e1
   rw [hcn] at p1 vr
   repeat' (first | omega | assumption | (show AL.ahead _ _ _ = true; rfl) | (first | apply brF | apply brT | apply brVF | apply brVT) <;> intro _ | (with_reducible refine And.intro ?_ ?_) | (refine callK_by (p1 _ (by omega)) ?_) | (simp -dsimp -implicitDefEqProofs only [go_sem, x1, x2, lt_nx0 hm, nx_gt0 hm]))
   apply loop_keep [0, 2, 3, 4, 9, 10, 13] (fun j : { j : Nat // j ≤ cn } => [(14, n64 j.1)]) (fun j => [(m, some (.obj (eyeA (keysR c.2 j.1).2))), (nx + 80, some (.obj (.agg 35 [.sl 1 (vals .i64 (keysR c.2 j.1).1) (nx + 83), .vec 1 (u8s zeroS.b), n64 0, n64 0]))), (nx + 81, some (.tail j.1)), (nx + 32, some (.obj (.agg 2 [n64 a.1, .sl 35 (waysA W.1) (nx + 27)]))), (nx + 25, some (.tail i)), (nx, some (.obj (.agg 2 [n64 0, .sl 35 [] 1])))]) (fun j => cn - j.1) ⟨0, Nat.zero_le _⟩
   ·simp -dsimp -implicitDefEqProofs only [go_sem]; try rfl
   ·simp -dsimp -implicitDefEqProofs only [go_sem]; try rfl
   ·simp -dsimp -implicitDefEqProofs only [go_sem, keysR, vals, List.map_nil, x1, x2, lt_nx0 hm, nx_gt0 hm]; try rfl
   ·intro s
    simp -dsimp -implicitDefEqProofs only [go_sem]
    try omega
   ·rintro ⟨j, hj⟩
    have hj : j ≤ cn := hj
    have hpk := keysR_len c.2 j
    simp -dsimp -implicitDefEqProofs only [go_sem]
    refine brT (fun h2 => ?_) (fun h2 => ?_)
    ·have hj2 : j < cn := by omega
     have w2 : IntKind.i64.wrap ((j : Int) + 1) = ((j + 1 : Nat) : Int) := wrapE (by omega) (by omega)
     have e2 : keysR c.2 (j + 1) = ((keysR c.2 j).1 ++ [(uptoS (keysR c.2 j).2 255).1], (uptoS (keysR c.2 j).2 255).2) := rfl
     repeat' (first | omega | assumption | (show AL.ahead _ _ _ = true; rfl) | (first | apply brF | apply brT | apply brVF | apply brVT) <;> intro _ | (with_reducible refine And.intro ?_ ?_) | (refine callK_by (upto_spec _ m (keysR c.2 j).2 255 (by omega) (by omega)) ?_) | (simp -dsimp -implicitDefEqProofs only [go_sem, x1, x2, lt_nx0 hm, nx_gt0 hm, w2, hpk.1]))
     exact ⟨⟨j + 1, hj2⟩, by show cn - (j + 1) < cn - j; omega, rfl, by rw [e2], by rw [e2]; simp only; rw [← vals_snoc], rfl⟩
    ·have e : j = cn := by omega
     subst e
     rw [← hk]
     repeat' (first | omega | assumption | (show AL.ahead _ _ _ = true; rfl) | (first | apply brF | apply brT | apply brVF | apply brVT) <;> intro _ | (with_reducible refine And.intro ?_ ?_) | (refine callK_by (p3 _ (by omega)) ?_) | (simp -dsimp -implicitDefEqProofs only [go_sem, x1, x2, lt_nx0 hm, nx_gt0 hm, w1]))
     refine callK_by (p4 _ (by omega)) ?_
     repeat' (first | omega | assumption | (show AL.ahead _ _ _ = true; rfl) | (first | apply brF | apply brT | apply brVF | apply brVT) <;> intro _ | (with_reducible refine And.intro ?_ ?_) | (simp -dsimp -implicitDefEqProofs only [go_sem, x1, x2, lt_nx0 hm, nx_gt0 hm, w1]))
     refine callK_by (p5 _ (by omega)) ?_
     repeat' (first | omega | assumption | (show AL.ahead _ _ _ = true; rfl) | (first | apply brF | apply brT | apply brVF | apply brVT) <;> intro _ | (with_reducible refine And.intro ?_ ?_) | (simp -dsimp -implicitDefEqProofs only [go_sem, x1, x2, lt_nx0 hm, nx_gt0 hm, w1]))
     exact ⟨⟨i + 1, hi2⟩, by show kn - (i + 1) < kn - i; omega, rfl, by rw [e1], by rw [e1]; simp only; rw [← ways_snoc]; rfl, by rw [hpl.1]⟩
  ·have e : i = kn := by omega
   subst e
   rw [← hw]
   have hR := fun nc => outR_spec nc ⟨a.1, w.1⟩ (by have := l3.1; simp only; omega) (fun y hy => by have := l3.2.2 y hy; omega)
   by_cases hB : outB ⟨a.1, w.1⟩ = true
   ·rw [if_pos hB]
    rw [hB] at hR
    simp only [outA] at hR
    repeat' (first | omega | assumption | (show AL.ahead _ _ _ = true; rfl) | (first | apply brF | apply brT | apply brVF | apply brVT) <;> intro _ | (with_reducible refine And.intro ?_ ?_) | (refine callK_by (hR _) ?_) | (simp -dsimp -implicitDefEqProofs only [go_sem, x1, x2, lt_nx0 hm, nx_gt0 hm]))
    all_goals first | rfl | (simp [outA, AV.nb, AV.nbs, nb_ways]; done)
   ·rw [if_neg hB]
    simp only [Bool.not_eq_true] at hB
    rw [hB] at hR
    simp only [outA] at hR
    repeat' (first | omega | assumption | (show AL.ahead _ _ _ = true; rfl) | (first | apply brF | apply brT | apply brVF | apply brVT) <;> intro _ | (with_reducible refine And.intro ?_ ?_) | (refine callK_by (hR _) ?_) | (refine callK_by (fail_spec _ m w.2 4 (by omega)) ?_) | (simp -dsimp -implicitDefEqProofs only [go_sem, x1, x2, lt_nx0 hm, nx_gt0 hm]))
    all_goals first | rfl | (simp [outA, AV.nb, AV.nbs, nb_ways]; done)
end Go.Proofs.YthfoeaokfhbdaaaGreat

namespace Go.Proofs.YthfoeaokfhbdaaaGreat
open Go Go.AL Go.Proofs.YthfoeaokfhbdaaaGreat.T
structure Fac_ where
 tx : Tx_
 at_ : Int
 taken : Bool
 when_ : Int
def facA (f : Fac_) : AV := .agg 43 [txA f.tx, n64 f.at_, bA f.taken, n64 f.when_]
noncomputable def facT (x : LS) (id : Sum) : Bool × Int := match lookM (⟨id, 0⟩ : Ref_) x.spent with
 | some s => if s.way = 1 then (true, s.height) else (false, 0)
 | none => (false, 0)
theorem facA_good (f : Fac_) : (facA f).good = true := rfl
theorem facA_agg (f : Fac_) : (facA f).isAgg = true := rfl
theorem facA_csz (f : Fac_) : (facA f).csize = 43 := rfl
theorem nb_fac {m : Nat} (f : Fac_) : AV.nb m (facA f) = True := by simp [facA, AV.nb, AV.nbs, nb_tx]
attribute [local go_sem] nb_u8s u8s_length nb_sum List.length_replicate zero_sum sum_h u8s_nil txA_good txA_csz txA_agg nb_tx sum_csz sum_agg sumA_good nb_ref refA_good refA_agg refA_csz facA_good facA_agg facA_csz nb_fac
theorem lfacts_none (nx : Nat) (n : LN) (x : LS) (id : Sum) (hn : n.ok nx) (hd : lookM id x.done = none) : FnSpec Tryz.prog 11 nx [.ref n.l 0 [], sumA id] [(n.l, some (.robj (ledA n x))), (n.d, some (.rmp (donesE x.done))), (n.s, some (.rmp (spentE x.spent)))] (.tup [facZ, bA false]) [] 0 := by
 have xf := hn.xf
 have yf := hn.nf
 have hdn := fun nc (q : nx ≤ nc) => ldone_spec nc n x id (hn.up q)
 rw [hd] at hdn
 simp only [optD, Option.isSome_none] at hdn
 refine FnSpec.of_code (cx := cx) (an := {}) (rs := [.cell 4 54, .tmp 5]) mo Tryz.func11 rfl rfl (by kernel_rfl) (by kernel_rfl) (by show 2 ≤ _; decide) (.inr ⟨_, rfl, by simp [AV.good, facZ]⟩) (by simp [allWr, keys, Res.wr]) ?_
 repeat' (first | omega | assumption | (show AL.ahead _ _ _ = true; rfl) | (first | apply brF | apply brT | apply brVF | apply brVT) <;> intro _ | (with_reducible refine And.intro ?_ ?_) | (refine callK_by (hdn _ (by omega)) ?_) | (simp -dsimp -implicitDefEqProofs only [go_sem, xf, yf, facZ]))
 all_goals rfl
theorem lfacts_some (nx : Nat) (n : LN) (x : LS) (id : Sum) (hn : n.ok nx) (d : Done_) (hd : lookM id x.done = some d) : FnSpec Tryz.prog 11 nx [.ref n.l 0 [], sumA id] [(n.l, some (.robj (ledA n x))), (n.d, some (.rmp (donesE x.done))), (n.s, some (.rmp (spentE x.spent)))]
  (.tup [facA ⟨d.tx, d.height, (facT x id).1, (facT x id).2⟩, bA true]) [] 0 := by
 have xf := hn.xf
 have yf := hn.nf
 have hdn := fun nc (q : nx ≤ nc) => ldone_spec nc n x id (hn.up q)
 have hsp := fun nc (q : nx ≤ nc) => lspent_spec nc n x ⟨id, 0⟩ (hn.up q)
 rw [hd] at hdn
 simp only [optD, doneA, Option.isSome_some] at hdn
 cases hs : lookM (⟨id, 0⟩ : Ref_) x.spent with
 | none =>
  have e : facT x id = (false, 0) := by unfold facT; rw [hs]
  rw [e]
  rw [hs] at hsp
  simp only [optS, spendA, refA, Option.isSome_none] at hsp
  refine FnSpec.of_code (cx := cx) (an := {}) (rs := [.cell 4 54, .tmp 5]) mo Tryz.func11 rfl rfl (by kernel_rfl) (by kernel_rfl) (by show 2 ≤ _; decide) (.inr ⟨_, rfl, by simp [AV.good, facA]⟩) (by simp [allWr, keys, Res.wr]) ?_
  repeat' (first | omega | assumption | (show AL.ahead _ _ _ = true; rfl) | (first | apply brF | apply brT | apply brVF | apply brVT) <;> intro _ | (with_reducible refine And.intro ?_ ?_) | (refine callK_by (hdn _ (by omega)) ?_) | (refine callK_by (hsp _ (by omega)) ?_) | (simp -dsimp -implicitDefEqProofs only [go_sem, xf, yf, facA]))
  all_goals rfl
 | some s =>
  rw [hs] at hsp
  simp only [optS, spendA, refA, Option.isSome_some] at hsp
  by_cases hw : s.way = 1
  ·have e : facT x id = (true, s.height) := by unfold facT; rw [hs]; simp only; rw [if_pos hw]
   rw [e]
   refine FnSpec.of_code (cx := cx) (an := {}) (rs := [.cell 4 54, .tmp 5]) mo Tryz.func11 rfl rfl (by kernel_rfl) (by kernel_rfl) (by show 2 ≤ _; decide) (.inr ⟨_, rfl, by simp [AV.good, facA]⟩) (by simp [allWr, keys, Res.wr]) ?_
   repeat' (first | omega | assumption | (show AL.ahead _ _ _ = true; rfl) | (first | apply brF | apply brT | apply brVF | apply brVT) <;> intro _ | (with_reducible refine And.intro ?_ ?_) | (refine callK_by (hdn _ (by omega)) ?_) | (refine callK_by (hsp _ (by omega)) ?_) | (simp -dsimp -implicitDefEqProofs only [go_sem, xf, yf, facA, hw]))
   all_goals rfl
  ·have e : facT x id = (false, 0) := by unfold facT; rw [hs]; simp only; rw [if_neg hw]
   rw [e]
   refine FnSpec.of_code (cx := cx) (an := {}) (rs := [.cell 4 54, .tmp 5]) mo Tryz.func11 rfl rfl (by kernel_rfl) (by kernel_rfl) (by show 2 ≤ _; decide) (.inr ⟨_, rfl, by simp [AV.good, facA]⟩) (by simp [allWr, keys, Res.wr]) ?_
   repeat' (first | omega | assumption | (show AL.ahead _ _ _ = true; rfl) | (first | apply brF | apply brT | apply brVF | apply brVT) <;> intro _ | (with_reducible refine And.intro ?_ ?_) | (refine callK_by (hdn _ (by omega)) ?_) | (refine callK_by (hsp _ (by omega)) ?_) | (simp -dsimp -implicitDefEqProofs only [go_sem, xf, yf, facA, hw]))
   all_goals rfl
end Go.Proofs.YthfoeaokfhbdaaaGreat

namespace Go.Proofs.YthfoeaokfhbdaaaGreat
open Go Go.AL Go.Proofs.YthfoeaokfhbdaaaGreat.T
def amts (os : List Out_) : List Int := os.map (·.amount)
theorem amts_snoc (os : List Out_) (o : Out_) : amts (os ++ [o]) = amts os ++ [o.amount] := by simp [amts]
theorem amts_len (os : List Out_) : (amts os).length = os.length := by simp [amts]
theorem txB_P {t : Tx_} (h : txB t = true) : txP t := by unfold txB at h; exact @of_decide_eq_true _ (Classical.propDecidable _) h
theorem txB_way {t : Tx_} (h : txB t = true) : ∀ y ∈ t.ins, 0 ≤ y.way := by
 have hp := txB_P h
 intro y hy
 obtain ⟨i, hi, rfl⟩ := List.getElem_of_mem hy
 have := (hp.2.2.2.2.2.1 i hi hi).1
 simp only [inR] at this
 omega
abbrev ledI (n : LN) (x : LS) : Heap := [(n.l, some (.obj (ledA n x))), (n.v, some (.obj (.agg 1 [.map n.vm]))), (n.vm, some (.mp (coinsE x.coins))), (n.b, some (.robj (boardA n.tm n.hm))), (n.tm, some (.rmp (towsE x.towers))), (n.hm, some (.rmp (holdsE x.holds))), (n.d, some (.mp (donesE x.done))), (n.s, some (.mp (spentE x.spent))), (n.o, some (.tail x.order.length))]
def apN (nx : Nat) (n : LN) : LN := { n with b := nx + 112, tm := nx + 152, hm := nx + 192 }
theorem apN_ok {n : LN} {nx N nc : Nat} (hn : n.ok nx) (h : nx ≤ N) (h2 : N + 192 < nc) : (apN N n).ok nc := by
 obtain ⟨a1, a2, a3, a4, a5, a6, a7, a8, a9⟩ := hn.lt
 refine ⟨by simp only [apN]; omega, by simp only [apN]; omega, by simp only [apN]; omega, by simp only [apN]; omega, by simp only [apN]; omega, by simp only [apN]; omega, by simp only [apN]; omega, by simp only [apN]; omega, by simp only [apN]; omega, ?_⟩
 have xf := (hn.up h).xf
 have yf := hn.nf
 simp [apN, xf, yf]
attribute [local go_sem] nb_u8s u8s_length nb_sum List.length_replicate zero_sum sum_h nb_vals vals_len u8s_nil txA_good txA_csz txA_agg nb_tx tA_len tA_p1 tA_off1 iA_p0 iA_off0 nb_ref refA_good refA_agg refA_csz sum_csz sum_agg sumA_good nbK_ref nbK_sum nbK_int nbK_pair nbV_coin nbV_done nbV_spend nbV_tow nbV_hold kk_ref k1_ref kk_sum k1_sum ins_len nb_ins outs_len nb_outs spendA_good spendA_agg spendA_csz nb_spend o_some o_none Option.getD_some Option.getD_none Option.isSome_some Option.isSome_none sums_len nb_sums
theorem applyOk_spec (nx : Nat) (n : LN) (x : LS) (t : Tx_) (h : Int) (hn : n.ok nx) (ht : TxOk t) (hB : txB t = true) (h0 : 0 ≤ h) (h1 : h ≤ 1073741824) (hC : CoOk x.coins) (hord : x.order.length < 2 ^ 40)
  (hd : lookM (txS t) x.done = none) (have_ : Int) (hI : insF (keysF t t.signs) h x.coins 0 t.ins = (have_, 0)) (into from_ : Int) (ts : List (Int × Tw_)) (hs : List ((Int × Int) × Hold_)) (hE : EffSpec t h x into from_ 0 ts hs)
  (hav : Int) (hA : addF 0 [have_, from_] = (hav, 0)) (fee : Int) (hS : subF hav (into :: amts t.outs) = (fee, 0)) :
  FnSpec Tryz.prog 12 nx [.ref n.l 0 [], txA t, n64 h] (ledI n x) (n64 0) (ledH (apN (nx + 408) n) (applyS t h fee ts hs x)) 3000 := by
 have hap : ledH (apN (nx + 408) n) (applyS t h fee ts hs x) = [(n.l, some (.obj (ledA (apN (nx + 408) n) (applyS t h fee ts hs x)))), (n.v, some (.obj (.agg 1 [.map n.vm]))), (n.vm, some (.mp (coinsE (applyS t h fee ts hs x).coins))), (nx + 520, some (.obj (boardA (nx + 560) (nx + 600)))), (nx + 560, some (.mp (towsE ts))), (nx + 600, some (.mp (holdsE hs))), (n.d, some (.mp (donesE (applyS t h fee ts hs x).done))), (n.s, some (.mp (spentE (applyS t h fee ts hs x).spent))), (n.o, some (.tail (applyS t h fee ts hs x).order.length))] := rfl
 rw [hap]
 have xf := hn.xf
 have yf := hn.nf
 have hlt := hn.lt
 have b1 := hn.ne.2.1.1
 have htb := fun nc => txR_spec nc t ht.l
 rw [hB] at htb
 have hsm := fun nc => txSum_spec nc t ht.b ht.k
 have hcl := fun nc (q1 : n.b < nc) (q2 : n.tm < nc) (q3 : n.hm < nc) => bclone_spec nc n.b n.tm n.hm x.towers x.holds q1 q2 q3 hn.ne.2.2.2.1.1 hn.ne.2.2.2.1.2.1 hn.ne.2.2.2.2.1.1
 have hin := fun nc (q : nx ≤ nc) => ins_spec nc n x t h (hn.up q) ht.b ht.k ht.l.2.2.2.2.1 ht.l.2.2.1 (fun y hy => ⟨txB_way hB y hy, ht.p y hy⟩) (fun p hp => ⟨(hC p hp).1, fun w hw => Nat.lt_trans ((hC p hp).2 w hw) (by decide)⟩)
 rw [hI] at hin
 have hef := fun nc (q : nx + 700 ≤ nc) => hE nc n (nx + 520) (nx + 560) (nx + 600) (hn.up (by omega)) (by omega) (by omega) (by omega) ⟨by omega, by omega, by omega, by omega, by omega⟩
 have hlen := ht.l.2.2.2.1
 have hil := ht.l.2.2.1
 have hol := (txB_P hB).2.1
 refine FnSpec.of_code (cx := cx) (an := {tk := [(76, [([], 1)])]}) (rs := [.tmp 6]) mo Tryz.func12 rfl rfl (by kernel_rfl) (by kernel_rfl) (by show 3 ≤ _; decide) (.inl rfl) (by simp [allWr, keys, Res.wr]) ?_
 repeat' (first | omega | assumption | (show AL.ahead _ _ _ = true; rfl) | (first | apply brF | apply brT | apply brVF | apply brVT) <;> intro _ | (with_reducible refine And.intro ?_ ?_) | (refine callK_by (lnone_spec _ n x (by omega)) ?_) | (refine callK_by (htb _) ?_) | (refine callK_by (hsm _) ?_) | (refine callK_by (hin _ (by omega)) ?_) | (refine callK_by (hcl _ (by omega) (by omega) (by omega)) ?_) | (refine callK_by (hef _ (by omega)) ?_) | (simp -dsimp -implicitDefEqProofs only [go_sem, xf, yf, ledA, hd, lookA_enc sumA_inj]))
 apply loop_keep [0, 2, 4, 7, 10, 12, 14, 78, 79] (fun p : { p : Nat // p ≤ t.outs.length } => [(15, .sl 1 (vals .i64 (into :: amts (t.outs.take p.1))) (nx + 831)), (80, n64 p.1)])
  (fun p => [(nx + 829, some (.tail (1 + p.1))), (nx + 520, some (.obj (boardA (nx + 560) (nx + 600)))), (nx + 560, some (.mp (towsE ts))), (nx + 600, some (.mp (holdsE hs))), (nx + 152, some (.obj (sumA (txS t)))), (n.l, some (.obj (ledA n x))), (n.v, some (.obj (.agg 1 [.map n.vm]))), (n.vm, some (.mp (coinsE x.coins))), (n.d, some (.mp (donesE x.done))), (n.s, some (.mp (spentE x.spent))), (n.o, some (.tail x.order.length))])
  (fun p => t.outs.length - p.1) ⟨0, Nat.zero_le _⟩
 ·simp -dsimp -implicitDefEqProofs only [go_sem]; try rfl
 ·simp -dsimp -implicitDefEqProofs only [go_sem]; try rfl
 ·simp -dsimp -implicitDefEqProofs only [go_sem, xf, yf, ledA]; try rfl
 ·intro s
  simp -dsimp -implicitDefEqProofs only [go_sem, ledA, boardA]
  try omega
 ·rintro ⟨i, hi⟩
  have hi : i ≤ t.outs.length := hi
  simp -dsimp -implicitDefEqProofs only [go_sem]
  refine brT (fun hc => ?_) (fun hc => ?_)
  ·have hi2 : i < t.outs.length := by omega
   have q1 := outs_get hi2
   have htk : t.outs.take (i + 1) = t.outs.take i ++ [t.outs[i]] := by rw [List.take_succ_eq_append_getElem hi2]
   have hva : vals .i64 (into :: amts (t.outs.take i)) ++ [n64 t.outs[i].amount] = vals .i64 (into :: amts (t.outs.take (i + 1))) := by rw [htk, amts_snoc]; simp [vals]
   have hln : (into :: amts (t.outs.take i)).length = 1 + i := by simp only [List.length_cons, amts_len, List.length_take]; omega
   have htn : 1 + i + 1 = 1 + (i + 1) := by omega
   generalize t.outs[i] = y at *
   have w1 : IntKind.i64.wrap ((i : Int) + 1) = ((i + 1 : Nat) : Int) := wrapE (by omega) (by omega)
   repeat' (first | omega | assumption | (show AL.ahead _ _ _ = true; rfl) | (first | apply brF | apply brT | apply brVF | apply brVT) <;> intro _ | (with_reducible refine And.intro ?_ ?_) | (simp -dsimp -implicitDefEqProofs only [go_sem, q1, w1, outA, hva, hln, htn, xf, yf, List.append_eq, List.cons_append, List.nil_append]))
   all_goals first
    | exact ⟨⟨i + 1, hi2⟩, by show t.outs.length - (i + 1) < t.outs.length - i; omega, ⟨rfl, rfl⟩, rfl⟩
    
  ·have e : t.outs.take i = t.outs := List.take_of_length_le (by omega)
   have had := fun nc => add_spec nc [have_, from_] (by simp)
   simp only [vals, List.map_cons, List.map_nil] at had
   rw [hA] at had
   have hsb := fun nc (q : nx + 829 < nc) => sub_spec nc (nx + 831) hav (into :: amts t.outs) (by simp only [List.length_cons, amts_len]; omega) (by omega)
   rw [hS] at hsb
   obtain ⟨X, hX⟩ : ∃ X : Nat → LS, X = fun i => { x with coins := takeAll (t.ins.take i) x.coins, towers := ts, holds := hs, spent := spendAll (txS t) h (t.ins.take i) x.spent, fees := w64 (x.fees + fee) } := ⟨_, rfl⟩
   have hap2 : ∀ j, ledA (apN (nx + 408) n) (X j) = .agg 6 [.ref n.v 0 [], .ref (nx + 520) 0 [], .map n.d, .map n.s, .sl 32 (sumsA x.order) (n.o + 2), n64 (w64 (x.fees + fee))] := fun j => by rw [hX]; rfl
   have hx0 : X 0 = { x with towers := ts, holds := hs, fees := w64 (x.fees + fee) } := by rw [hX]; simp [takeAll, spendAll]
   repeat' (first | omega | assumption | (show AL.ahead _ _ _ = true; rfl) | (first | apply brF | apply brT | apply brVF | apply brVT) <;> intro _ | (with_reducible refine And.intro ?_ ?_) | (refine callK_by (had _) ?_) | (refine callK_by (hsb _ (by omega)) ?_) | (simp -dsimp -implicitDefEqProofs only [go_sem, e, xf, yf, ledA]))
   apply loop_keep [0, 2, 4, 7, 123, 124] (fun p : { p : Nat // p ≤ t.ins.length } => [(125, n64 p.1)])
    (fun p => [(n.l, some (.obj (ledA (apN (nx + 408) n) (X p.1)))), (n.v, some (.obj (.agg 1 [.map n.vm]))), (n.vm, some (.mp (coinsE (takeAll (t.ins.take p.1) x.coins)))), (nx + 520, some (.obj (boardA (nx + 560) (nx + 600)))), (nx + 560, some (.mp (towsE ts))), (nx + 600, some (.mp (holdsE hs))), (n.d, some (.mp (donesE x.done))), (n.s, some (.mp (spentE (spendAll (txS t) h (t.ins.take p.1) x.spent)))), (n.o, some (.tail x.order.length)), (nx + 152, some (.obj (sumA (txS t))))])
    (fun p => t.ins.length - p.1) ⟨0, Nat.zero_le _⟩
   ·simp -dsimp -implicitDefEqProofs only [go_sem]; try rfl
   ·simp -dsimp -implicitDefEqProofs only [go_sem]; try rfl
   ·simp -dsimp -implicitDefEqProofs only [go_sem, xf, yf, hap2, List.take_zero, takeAll, spendAll]; try rfl
   ·intro s
    simp -dsimp -implicitDefEqProofs only [go_sem, hap2, boardA]
    try omega
   ·rintro ⟨j, hj⟩
    have hj : j ≤ t.ins.length := hj
    simp -dsimp -implicitDefEqProofs only [go_sem]
    refine brT (fun hc2 => ?_) (fun hc2 => ?_)
    ·have hj2 : j < t.ins.length := by omega
     have q1 := ins_get hj2
     have htk : t.ins.take (j + 1) = t.ins.take j ++ [t.ins[j]] := by rw [List.take_succ_eq_append_getElem hj2]
     have hta := takeAll_snoc t.ins[j] (t.ins.take j) x.coins
     have hsa := spendAll_snoc (txS t) h t.ins[j] (t.ins.take j) x.spent
     rw [← htk] at hta hsa
     generalize t.ins[j] = y at *
     have w1 : IntKind.i64.wrap ((j : Int) + 1) = ((j + 1 : Nat) : Int) := wrapE (by omega) (by omega)
     have hvt := fun nc (q1 : n.v < nc) (q2 : n.vm < nc) => vtake_spec nc n.v n.vm (takeAll (t.ins.take j) x.coins) y.ref q1 q2 b1
     have hset : setA (refA y.ref) (.agg 34 [sumA (txS t), n64 y.way, n64 h]) (spentE (spendAll (txS t) h (t.ins.take j) x.spent)) = spentE (spendAll (txS t) h (t.ins.take (j + 1)) x.spent) := by
      rw [hsa]; exact setA_enc (vA := spendA) refA_inj y.ref (⟨txS t, y.way, h⟩ : Spend_) _
     repeat' (first | omega | assumption | (show AL.ahead _ _ _ = true; rfl) | (first | apply brF | apply brT | apply brVF | apply brVT) <;> intro _ | (with_reducible refine And.intro ?_ ?_) | (refine callK_by (hvt _ (by omega) (by omega)) ?_) | (simp -dsimp -implicitDefEqProofs only [go_sem, q1, w1, inA, hset, hap2, xf, yf]))
     all_goals first
      | exact ⟨⟨j + 1, hj2⟩, by show t.ins.length - (j + 1) < t.ins.length - j; omega, rfl, by rw [hta], rfl⟩
      
    ·have e2 : t.ins.take j = t.ins := List.take_of_length_le (by omega)
     obtain ⟨Y, hY⟩ : ∃ Y : LS, Y = { x with coins := takeAll t.ins x.coins, towers := ts, holds := hs, spent := spendAll (txS t) h t.ins x.spent, fees := w64 (x.fees + fee) } := ⟨_, rfl⟩
     have hXY : X j = Y := by rw [hX, hY]; simp only [e2]
     have hYc : Y.coins = takeAll t.ins x.coins := by rw [hY]
     have hYd : Y.done = x.done := by rw [hY]
     have hYo : Y.order = x.order := by rw [hY]
     have hYa : applyS t h fee ts hs x = comeS (txS t) t h Y := by rw [hY]; rfl
     have hYs : (comeS (txS t) t h Y).spent = spendAll (txS t) h t.ins x.spent := by rw [hY]; rfl
     have hcm : ∀ nc, nx + 700 ≤ nc → FnSpec Tryz.prog 63 nc [.ref n.l 0 [], sumA (txS t), txA t, n64 h] [(n.l, some (.obj (ledA (apN (nx + 408) n) Y))), (n.v, some (.robj (.agg 1 [.map n.vm]))), (n.vm, some (.mp (coinsE Y.coins))), (n.d, some (.mp (donesE Y.done))), (n.o, some (.tail Y.order.length))] (.tup [])
       [(n.l, some (.obj (ledA (apN (nx + 408) n) (comeS (txS t) t h Y)))), (n.vm, some (.mp (coinsE (comeS (txS t) t h Y).coins))), (n.d, some (.mp (donesE (comeS (txS t) t h Y).done))), (n.o, some (.tail (comeS (txS t) t h Y).order.length))] 0 :=
      fun nc q => come_spec nc (apN (nx + 408) n) Y (txS t) t h (apN_ok hn (by omega) (by omega)) hlen (fun o ho => ⟨(ht.l.2.2.2.2.2 o ho).1, (ht.l.2.2.2.2.2 o ho).2⟩) (by rw [hYo]; exact hord)
     rw [hYc, hYd, hYo] at hcm
     rw [hYa, hYs]
     generalize comeS (txS t) t h Y = Z at *
     repeat' (first | omega | assumption | (show AL.ahead _ _ _ = true; rfl) | (first | apply brF | apply brT | apply brVF | apply brVT) <;> intro _ | (with_reducible refine And.intro ?_ ?_) | (refine callK_by (hcm _ (by omega)) ?_) | (simp -dsimp -implicitDefEqProofs only [go_sem, e2, hXY, xf, yf]))
     all_goals first | rfl | (simp only [apN]; omega) | (simp only [boardA, AV.nb, AV.nbs, and_true]; omega)
end Go.Proofs.YthfoeaokfhbdaaaGreat

namespace Go.Proofs.YthfoeaokfhbdaaaGreat
open Go Go.AL Go.Proofs.YthfoeaokfhbdaaaGreat.T
def sumO : Int → List Int → Int × Int
  | s, [] => (s, 0)
  | s, a :: r => if (addF 0 [s, a]).2 ≠ 0 then (0, (addF 0 [s, a]).2) else sumO (addF 0 [s, a]).1 r
def inZ : In_ := ⟨⟨zeroS, 0⟩, 0, []⟩
def outZ : Out_ := ⟨0, []⟩
noncomputable def jcF (c : Chan) (t j : Tx_) : Int :=
  if ownF c t < 0 ∨ txB j = false ∨ j.ins.length ≠ 1 ∨ j.op.kind ≠ 0 then 1
  else @ite _ ((j.ins.getD 0 inZ).ref ≠ ⟨txS t, 0⟩ ∨ (j.ins.getD 0 inZ).way ≠ 1) (Classical.propDecidable _) 13
    (if opensB ((t.outs.getD 0 outZ).ways.getD 1 wayZ) (keysF j j.signs) (j.ins.getD 0 inZ).pre 0 0 = false then 12
     else if (sumO 0 (amts j.outs)).2 ≠ 0 then (sumO 0 (amts j.outs)).2
     else if (t.outs.getD 0 outZ).amount < (sumO 0 (amts j.outs)).1 then 14 else 0)
theorem ownF_shape {c : Chan} {t : Tx_} (h : ¬ ownF c t < 0) : ∃ x am own take o1 op sg, t = ⟨[x], [⟨am, [own, take]⟩, o1], op, sg⟩ := by
  obtain ⟨ins, outs, op, sg⟩ := t
  unfold ownF at h
  simp only at h
  split at h
  · rename_i x o0 o1
    split at h
    · rename_i own take e3
      refine ⟨x, o0.amount, own, take, o1, op, sg, ?_⟩
      cases o0
      simp only at e3
      rw [e3]
    · exact absurd (by decide) h
  · exact absurd (by decide) h
theorem nbo {m : Nat} (l : List Out_) : AV.nbs m (List.map outA l) = True := nb_outs l
attribute [local go_sem] nb_u8s u8s_length nb_sum List.length_replicate zero_sum sum_h u8s_nil txA_good txA_csz txA_agg nb_tx sumA nb_vals vals_len ways_len nb_ways outA_good outA_agg outA_csz nb_out1 ins_len outs_len nb_ins nb_outs nb_signs tA_len tA_p1 tA_off1 iA_p0 iA_off0 oA_p2 oA_off2 wayA_good wayA_agg wayA_csz nb_way1 nbo nbw
section
variable (nx : Nat) (c : Chan) (t j : Tx_)
theorem jcArg_spec (ht : TxOk t) (hj : TxOk j) (hb : ownF c t < 0 ∨ txB j = false ∨ j.ins.length ≠ 1 ∨ j.op.kind ≠ 0) : FnSpec Tryz.prog 198 nx [chanA c, txA t, txA j] [] (n64 1) [] 0 := by
  have ho := fun nc => owner_spec nc c t ht.l.2.2.1 ht.l.2.2.2.1 ht.l.2.2.2.2.2
  have hr := fun nc => txR_spec nc j hj.l
  have hjl := hj.l.2.2.1
  simp only [chanA, refA, sumA] at ho
  by_cases c1 : ownF c t < 0
  · refine FnSpec.of_code (cx := cx) (an := {}) (rs := [.tmp 6]) mo Tryz.func198 rfl rfl (by kernel_rfl) (by kernel_rfl) (by show 3 ≤ _; decide) (.inl rfl) (by simp [allWr, keys, Res.wr]) ?_
    repeat' (first | omega | assumption | (show AL.ahead _ _ _ = true; rfl) | (first | apply brF | apply brT | apply brVF | apply brVT) <;> intro _ | (with_reducible refine And.intro ?_ ?_) | (refine callK_by (ho _) ?_) | (simp -dsimp -implicitDefEqProofs only [go_sem, chanA, refA, c1]))
    all_goals rfl
  · rcases Bool.eq_false_or_eq_true (txB j) with c2 | c2
    · rw [c2] at hr
      by_cases c3 : j.ins.length = 1
      · have c4 : j.op.kind ≠ 0 := ((hb.resolve_left c1).resolve_left (by rw [c2]; decide)).resolve_left (fun q => q c3)
        have e3 : ((j.ins.length : Int) = 1) = True := eq_true (by omega)
        refine FnSpec.of_code (cx := cx) (an := {}) (rs := [.tmp 6]) mo Tryz.func198 rfl rfl (by kernel_rfl) (by kernel_rfl) (by show 3 ≤ _; decide) (.inl rfl) (by simp [allWr, keys, Res.wr]) ?_
        repeat' (first | omega | assumption | (show AL.ahead _ _ _ = true; rfl) | (first | apply brF | apply brT | apply brVF | apply brVT) <;> intro _ | (with_reducible refine And.intro ?_ ?_) | (refine callK_by (ho _) ?_) | (refine callK_by (hr _) ?_) | (simp -dsimp -implicitDefEqProofs only [go_sem, chanA, refA, c1, e3, c4, opT]))
        all_goals rfl
      · have e3 : ((j.ins.length : Int) = 1) = False := eq_false (by omega)
        refine FnSpec.of_code (cx := cx) (an := {}) (rs := [.tmp 6]) mo Tryz.func198 rfl rfl (by kernel_rfl) (by kernel_rfl) (by show 3 ≤ _; decide) (.inl rfl) (by simp [allWr, keys, Res.wr]) ?_
        repeat' (first | omega | assumption | (show AL.ahead _ _ _ = true; rfl) | (first | apply brF | apply brT | apply brVF | apply brVT) <;> intro _ | (with_reducible refine And.intro ?_ ?_) | (refine callK_by (ho _) ?_) | (refine callK_by (hr _) ?_) | (simp -dsimp -implicitDefEqProofs only [go_sem, chanA, refA, c1, e3]))
        all_goals rfl
    · rw [c2] at hr
      refine FnSpec.of_code (cx := cx) (an := {}) (rs := [.tmp 6]) mo Tryz.func198 rfl rfl (by kernel_rfl) (by kernel_rfl) (by show 3 ≤ _; decide) (.inl rfl) (by simp [allWr, keys, Res.wr]) ?_
      repeat' (first | omega | assumption | (show AL.ahead _ _ _ = true; rfl) | (first | apply brF | apply brT | apply brVF | apply brVT) <;> intro _ | (with_reducible refine And.intro ?_ ?_) | (refine callK_by (ho _) ?_) | (refine callK_by (hr _) ?_) | (simp -dsimp -implicitDefEqProofs only [go_sem, chanA, refA, c1]))
      all_goals rfl
theorem jc_spec (ht : TxOk t) (hj : TxOk j) : FnSpec Tryz.prog 198 nx [chanA c, txA t, txA j] [] (n64 (jcF c t j)) [] 0 := by
  by_cases hb : ownF c t < 0 ∨ txB j = false ∨ j.ins.length ≠ 1 ∨ j.op.kind ≠ 0
  · have e : jcF c t j = 1 := by unfold jcF; rw [if_pos hb]
    rw [e]
    exact jcArg_spec nx c t j ht hj hb
  · have b1 : ¬ ownF c t < 0 := fun q => hb (.inl q)
    have b2 : txB j = true := by
      rcases Bool.eq_false_or_eq_true (txB j) with q | q
      · exact q
      · exact absurd (.inr (.inl q)) hb
    have b3 : j.ins.length = 1 := Classical.byContradiction fun q => hb (.inr (.inr (.inl q)))
    have b4 : j.op.kind = 0 := Classical.byContradiction fun q => hb (.inr (.inr (.inr q)))
    have ho := fun nc => owner_spec nc c t ht.l.2.2.1 ht.l.2.2.2.1 ht.l.2.2.2.2.2
    have hr := fun nc => txR_spec nc j hj.l
    rw [b2] at hr
    have hcr := fun nc => cref_spec nc t ht.b ht.k
    have hky := fun nc => keysA_spec nc j hj.b hj.k hj.l.2.2.2.2.1
    have hkl := keysF_len j j.signs
    have hsl := hj.l.2.2.2.2.1
    have hol := hj.l.2.2.2.1
    obtain ⟨K, hK⟩ : ∃ K, K = keysF j j.signs := ⟨_, rfl⟩
    have hJ : jcF c t j = @ite _ ((j.ins.getD 0 inZ).ref ≠ ⟨txS t, 0⟩ ∨ (j.ins.getD 0 inZ).way ≠ 1) (Classical.propDecidable _) 13
        (if opensB ((t.outs.getD 0 outZ).ways.getD 1 wayZ) K (j.ins.getD 0 inZ).pre 0 0 = false then 12
         else if (sumO 0 (amts j.outs)).2 ≠ 0 then (sumO 0 (amts j.outs)).2
         else if (t.outs.getD 0 outZ).amount < (sumO 0 (amts j.outs)).1 then 14 else 0) := by rw [hK]; unfold jcF; rw [if_neg hb]
    rw [hJ]
    clear hJ
    rw [← hK] at hky hkl
    clear hK
    obtain ⟨ji, jo, jop, jsg⟩ := j
    simp only at b3 b4 hsl hol hkl
    obtain ⟨y, rfl⟩ := one_list b3
    obtain ⟨F, hF⟩ : ∃ F, F = ownF c t := ⟨_, rfl⟩
    rw [← hF] at ho b1
    obtain ⟨Z, hZ⟩ : ∃ Z, Z = txS t := ⟨_, rfl⟩
    have hsh := ownF_shape (c := c) (t := t) (by rw [← hF]; exact b1)
    rw [← hZ] at hcr
    rw [← hZ]
    clear hF hZ
    obtain ⟨x, am, own, take, o1, op, sg, rfl⟩ := hsh
    have htk := (ht.l.2.2.2.2.2 ⟨am, [own, take]⟩ (by simp)).2 take (by simp)
    have hop := fun nc => opens_spec nc 0 0 take K y.pre 0 0 htk (by omega) (hj.p y (by simp)) (.inl (by omega)) (.inl (by omega))
    simp only [chanA, refA, sumA, txA, insA, inA, outsA, outA, waysA, opT, b4, List.map_cons, List.map_nil] at ho hr hcr hky
    have hl0 : ([y] : List In_).length = 1 := rfl
    simp only [List.getD_cons_zero, List.getD_cons_succ]
    by_cases c1 : y.ref = ⟨Z, 0⟩
    · have er : eqB (.agg 33 [.vec 1 (u8s y.ref.tx.b), n64 y.ref.at_]) (.agg 33 [.vec 1 (u8s Z.b), n64 0]) = true := by rw [c1]; exact eqB_yes rfl
      by_cases c2 : y.way = 1
      · rw [if_neg (by rintro (q | q); exact q c1; exact q c2)]
        simp only [c2] at hr hky
        rcases Bool.eq_false_or_eq_true (opensB take K y.pre 0 0) with c3 | c3
        · rw [if_neg (by rw [c3]; decide)]
          rw [c3] at hop
          refine FnSpec.of_code (cx := cx) (an := {}) (rs := [.tmp 6]) mo Tryz.func198 rfl rfl (by kernel_rfl) (by kernel_rfl) (by show 3 ≤ _; decide) (.inl rfl) (by simp [allWr, keys, Res.wr]) ?_
          repeat' (first | omega | assumption | (show AL.ahead _ _ _ = true; rfl) | (first | apply brF | apply brT | apply brVF | apply brVT) <;> intro _ | (with_reducible refine And.intro ?_ ?_) | (refine callK_by (ho _) ?_) | (refine callK_by (hr _) ?_) | (refine callK_by (hcr _) ?_) | (refine callK_by (hky _) ?_) | (refine callK_by (hop _) ?_) | (simp -dsimp -implicitDefEqProofs only [go_sem, chanA, refA, txA, insA, inA, outsA, outA, waysA, opT, List.map_cons, List.map_nil, List.length_cons, List.length_nil, List.length_map, List.getD_cons_zero, List.getD_cons_succ, b1, b4, er, c2, ↓cmp_sum7, ↓cmp_sum, isSumT]))
          have hjo : jo.length < 2 ^ 40 := hol
          obtain ⟨SO, hSO⟩ : ∃ SO, SO = sumO 0 (amts jo) := ⟨_, rfl⟩
          rw [← hSO]
          obtain ⟨G, hG⟩ : ∃ G, G = (if SO.2 ≠ 0 then SO.2 else if am < SO.1 then 14 else (0 : Int)) := ⟨_, rfl⟩
          rw [← hG]
          apply loop_keep [4, 63, 64] (fun p : { p : Nat × Int // p.1 ≤ jo.length ∧ sumO p.2 ((amts jo).drop p.1) = SO } => [(8, n64 p.1.2), (65, n64 p.1.1)])
            (fun _ => []) (fun p => jo.length - p.1.1) ⟨(0, 0), Nat.zero_le _, hSO.symm⟩
          · simp -dsimp -implicitDefEqProofs only [go_sem]; try rfl
          · simp -dsimp -implicitDefEqProofs only [go_sem]; try rfl
          · simp -dsimp -implicitDefEqProofs only [go_sem, List.length_map]; try rfl
          · intro s
            simp -dsimp -implicitDefEqProofs only [go_sem]
            try omega
          · rintro ⟨⟨i, sm⟩, hi, hall⟩
            have hi : i ≤ jo.length := hi
            simp only at hall
            simp -dsimp -implicitDefEqProofs only [go_sem]
            refine brT (fun hc => ?_) (fun hc => ?_)
            · have hi2 : i < jo.length := by omega
              have q1 : (List.map outA jo).getD i .undef = outA jo[i] := outs_get hi2
              have hd : (amts jo).drop i = jo[i].amount :: (amts jo).drop (i + 1) := by
                have h2 : i < (amts jo).length := by rw [amts_len]; exact hi2
                rw [List.drop_eq_getElem_cons h2]; simp [amts]
              rw [hd] at hall
              generalize jo[i] = yo at *
              have w1 : IntKind.i64.wrap ((i : Int) + 1) = ((i + 1 : Nat) : Int) := wrapE (by omega) (by omega)
              have had := fun nc => add_spec nc [sm, yo.amount] (by simp)
              simp only [vals, List.map_cons, List.map_nil] at had
              simp only [sumO] at hall
              by_cases ha : (addF 0 [sm, yo.amount]).2 = 0
              · rw [if_neg (fun q => q ha)] at hall
                rw [ha] at had
                repeat' (first | omega | assumption | (show AL.ahead _ _ _ = true; rfl) | (first | apply brF | apply brT | apply brVF | apply brVT) <;> intro _ | (with_reducible refine And.intro ?_ ?_) | (refine callK_by (had _) ?_) | (simp -dsimp -implicitDefEqProofs only [go_sem, q1, w1, outA, List.length_map]))
                all_goals first
                  | exact ⟨⟨(i + 1, (addF 0 [sm, yo.amount]).1), hi2, hall⟩, by show jo.length - (i + 1) < jo.length - i; omega, rfl, rfl⟩
                 
              · rw [if_pos ha] at hall
                rw [← hall, if_pos ha] at hG
                repeat' (first | omega | assumption | (show AL.ahead _ _ _ = true; rfl) | (first | apply brF | apply brT | apply brVF | apply brVT) <;> intro _ | (with_reducible refine And.intro ?_ ?_) | (refine callK_by (had _) ?_) | (simp -dsimp -implicitDefEqProofs only [go_sem, q1, w1, outA, ha, List.length_map]))
                all_goals first | (rw [hG]) | omega
            · have e : i = jo.length := by omega
              subst e
              rw [show (amts jo).drop jo.length = [] from List.drop_eq_nil_of_le (by rw [amts_len]; exact Nat.le_refl _), sumO] at hall
              rw [← hall, if_neg (fun q => q rfl)] at hG
              by_cases hg : am < sm
              · rw [if_pos hg] at hG
                repeat' (first | omega | assumption | (show AL.ahead _ _ _ = true; rfl) | (first | apply brF | apply brT | apply brVF | apply brVT) <;> intro _ | (with_reducible refine And.intro ?_ ?_) | (simp -dsimp -implicitDefEqProofs only [go_sem, hg, gt_iff_lt, List.getD_cons_zero, List.length_cons]))
                all_goals first | (rw [hG])
              · rw [if_neg hg] at hG
                repeat' (first | omega | assumption | (show AL.ahead _ _ _ = true; rfl) | (first | apply brF | apply brT | apply brVF | apply brVT) <;> intro _ | (with_reducible refine And.intro ?_ ?_) | (simp -dsimp -implicitDefEqProofs only [go_sem, hg, gt_iff_lt, List.getD_cons_zero, List.length_cons]))
                all_goals first | (rw [hG])
        · rw [if_pos c3]
          rw [c3] at hop
          refine FnSpec.of_code (cx := cx) (an := {}) (rs := [.tmp 6]) mo Tryz.func198 rfl rfl (by kernel_rfl) (by kernel_rfl) (by show 3 ≤ _; decide) (.inl rfl) (by simp [allWr, keys, Res.wr]) ?_
          repeat' (first | omega | assumption | (show AL.ahead _ _ _ = true; rfl) | (first | apply brF | apply brT | apply brVF | apply brVT) <;> intro _ | (with_reducible refine And.intro ?_ ?_) | (refine callK_by (ho _) ?_) | (refine callK_by (hr _) ?_) | (refine callK_by (hcr _) ?_) | (refine callK_by (hky _) ?_) | (refine callK_by (hop _) ?_) | (simp -dsimp -implicitDefEqProofs only [go_sem, chanA, refA, txA, insA, inA, outsA, outA, waysA, opT, List.map_cons, List.map_nil, List.length_cons, List.length_nil, List.length_map, List.getD_cons_zero, List.getD_cons_succ, b1, b4, er, c2, ↓cmp_sum7, ↓cmp_sum, isSumT]))
          all_goals rfl
      · rw [if_pos (.inr c2)]
        refine FnSpec.of_code (cx := cx) (an := {}) (rs := [.tmp 6]) mo Tryz.func198 rfl rfl (by kernel_rfl) (by kernel_rfl) (by show 3 ≤ _; decide) (.inl rfl) (by simp [allWr, keys, Res.wr]) ?_
        repeat' (first | omega | assumption | (show AL.ahead _ _ _ = true; rfl) | (first | apply brF | apply brT | apply brVF | apply brVT) <;> intro _ | (with_reducible refine And.intro ?_ ?_) | (refine callK_by (ho _) ?_) | (refine callK_by (hr _) ?_) | (refine callK_by (hcr _) ?_) | (simp -dsimp -implicitDefEqProofs only [go_sem, chanA, refA, txA, insA, inA, outsA, outA, waysA, opT, List.map_cons, List.map_nil, List.length_cons, List.length_nil, List.length_map, List.getD_cons_zero, List.getD_cons_succ, b1, b4, er, c2, ↓cmp_sum7, ↓cmp_sum, isSumT]))
        all_goals rfl
    · have er : eqB (.agg 33 [.vec 1 (u8s y.ref.tx.b), n64 y.ref.at_]) (.agg 33 [.vec 1 (u8s Z.b), n64 0]) = false := eqB_no (fun q => c1 (refA_inj _ _ q))
      rw [if_pos (.inl c1)]
      refine FnSpec.of_code (cx := cx) (an := {}) (rs := [.tmp 6]) mo Tryz.func198 rfl rfl (by kernel_rfl) (by kernel_rfl) (by show 3 ≤ _; decide) (.inl rfl) (by simp [allWr, keys, Res.wr]) ?_
      repeat' (first | omega | assumption | (show AL.ahead _ _ _ = true; rfl) | (first | apply brF | apply brT | apply brVF | apply brVT) <;> intro _ | (with_reducible refine And.intro ?_ ?_) | (refine callK_by (ho _) ?_) | (refine callK_by (hr _) ?_) | (refine callK_by (hcr _) ?_) | (simp -dsimp -implicitDefEqProofs only [go_sem, chanA, refA, txA, insA, inA, outsA, outA, waysA, opT, List.map_cons, List.map_nil, List.length_cons, List.length_nil, List.getD_cons_zero, List.getD_cons_succ, b1, b4, er, ↓cmp_sum7, ↓cmp_sum, isSumT]))
      all_goals rfl
end
end Go.Proofs.YthfoeaokfhbdaaaGreat

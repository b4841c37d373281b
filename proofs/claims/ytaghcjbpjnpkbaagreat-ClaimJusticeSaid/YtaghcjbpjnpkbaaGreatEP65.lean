/-
 Maps, told by what they hold: looked up, written, cleared; coins, spends and what came.
-/
import Derived.Test.YtaghcjbpjnpkbaaGreatEP20
import Derived.Test.YtaghcjbpjnpkbaaGreatEP24
import Derived.Test.YtaghcjbpjnpkbaaGreatAL27
set_option linter.unusedSimpArgs false
set_option linter.unusedVariables false
set_option maxRecDepth 100000
set_option maxHeartbeats 8000000
namespace Go.Proofs.YtaghcjbpjnpkbaaGreat
open Go Go.AL Go.Proofs.YtaghcjbpjnpkbaaGreat.T
section
open Classical
variable {K V : Type}
noncomputable def lookM (k : K) : List (K × V) → Option V
 | [] => none
 | (a, v) :: r => if k = a then some v else lookM k r
noncomputable def setM (k : K) (v : V) : List (K × V) → List (K × V)
 | [] => [(k, v)]
 | (a, u) :: r => if k = a then (k, v) :: r else (a, u) :: setM k v r
noncomputable def delM (k : K) : List (K × V) → List (K × V)
 | [] => []
 | (a, u) :: r => if k = a then r else (a, u) :: delM k r
def encM (kA : K → AV) (vA : V → AV) (l : List (K × V)) : List (AV × AV) := l.map fun p => (kA p.1, vA p.2)
def InjA (kA : K → AV) : Prop := ∀ a b, kA a = kA b → a = b
theorem eqB_inj {kA : K → AV} (h : InjA kA) (a b : K) : eqB (kA a) (kA b) = decide (a = b) := by
 by_cases e : a = b
 ·subst e; rw [eqB_yes rfl]; simp
 ·rw [eqB_no (fun q => e (h a b q))]; simp [e]
variable {kA : K → AV} {vA : V → AV}
theorem lookA_enc (h : InjA kA) (k : K) : ∀ l : List (K × V), lookA (kA k) (encM kA vA l) = (lookM k l).map vA
 | [] => rfl
 | (a, v) :: r => by
  have ih := lookA_enc h k r
  simp only [encM, List.map_cons, lookA, lookM, eqB_inj h, decide_eq_true_eq] at ih ⊢
  split
  ·rfl
  ·exact ih
theorem setA_enc (h : InjA kA) (k : K) (v : V) : ∀ l : List (K × V), setA (kA k) (vA v) (encM kA vA l) = encM kA vA (setM k v l)
 | [] => rfl
 | (a, u) :: r => by
  have ih := setA_enc h k v r
  simp only [encM, List.map_cons, setA, setM, eqB_inj h, decide_eq_true_eq] at ih ⊢
  split
  ·rfl
  ·rw [ih]; rfl
theorem delA_enc (h : InjA kA) (k : K) : ∀ l : List (K × V), delA (kA k) (encM kA vA l) = encM kA vA (delM k l)
 | [] => rfl
 | (a, u) :: r => by
  have ih := delA_enc h k r
  simp only [encM, List.map_cons, delA, delM, eqB_inj h, decide_eq_true_eq] at ih ⊢
  split
  ·rfl
  ·rw [ih]; rfl
theorem enc_len (l : List (K × V)) : (encM kA vA l).length = l.length := by simp [encM]
theorem nb_encK {m : Nat} (h : ∀ k, (kA k).nb m) (l : List (K × V)) : AV.nbs m ((encM kA vA l).map (·.1)) = True := by
 simp only [eq_iff_iff, iff_true, encM, List.map_map]
 exact nbs_map (fun s => h s.1) l
theorem nb_encV {m : Nat} (h : ∀ v, (vA v).nb m) (l : List (K × V)) : AV.nbs m ((encM kA vA l).map (·.2)) = True := by
 simp only [eq_iff_iff, iff_true, encM, List.map_map]
 exact nbs_map (fun s => h s.2) l
theorem enc_keys {P : Program} {T : TypeId} (h : ∀ k, keyOK P T (kA k)) (l : List (K × V)) : (∀ p ∈ encM kA vA l, keyOK P T p.1) = True := by
 simp only [eq_iff_iff, iff_true]
 intro p hp
 obtain ⟨q, _, rfl⟩ := List.mem_map.1 hp
 exact h q.1
theorem lookM_mem {k : K} {v : V} : ∀ {l : List (K × V)}, lookM k l = some v → (k, v) ∈ l
 | (a, u) :: r, h => by
  simp only [lookM] at h
  split at h
  ·rename_i e; injection h with h; subst e h; exact List.mem_cons_self
  ·exact List.mem_cons_of_mem _ (lookM_mem h)
theorem delM_sub {k : K} : ∀ (l : List (K × V)), (delM k l).Sublist l
 | [] => .slnil
 | (a, u) :: r => by
  simp only [delM]
  split
  ·exact List.sublist_cons_self _ _
  ·exact (delM_sub r).cons_cons _
end
theorem u8_inj' {a b : List UInt8} (h : u8s a = u8s b) : a = b := by
 induction a generalizing b with
 | nil => cases b with
  | nil => rfl
  | cons x b => simp [u8s] at h
 | cons y a ih => cases b with
  | nil => simp [u8s] at h
  | cons x b =>
   simp only [u8s, List.map_cons, List.cons.injEq] at h
   obtain ⟨h1, h2⟩ := h
   rw [ih h2]
   have : y = x := by
    simp only [u8, AV.val.injEq, Value.int.injEq, true_and] at h1
    exact UInt8.toNat_inj.1 (by omega)
   rw [this]
theorem sumA_inj : InjA sumA := fun a b h => Sum.ext' (u8_inj' (by simp only [sumA, AV.vec.injEq, true_and] at h; exact h))
theorem refA_inj : InjA refA := fun a b h => by
 cases a; cases b
 simp only [refA, AV.agg.injEq, true_and, List.cons.injEq, AV.val.injEq, Value.int.injEq, and_true] at h
 obtain ⟨h1, h2⟩ := h
 rw [sumA_inj _ _ h1, h2]
theorem n64_inj : InjA n64 := fun a b h => by simpa using h
def pairKA (p : Int × Int) : AV := .vec 1 [n64 p.1, n64 p.2]
theorem pairKA_inj : InjA pairKA := fun a b h => by
 cases a; cases b; simp only [pairKA, AV.vec.injEq, List.cons.injEq, AV.val.injEq, Value.int.injEq, true_and, and_true] at h; rw [h.1, h.2]
structure Coin_ where
 out : Out_
 height : Int
structure Tw_ where
 root : Sum
 locked : Int
 asked : Int
 at_ : Int
structure Hold_ where
 chan : Chan
 amount : Int
 proved : Bool
 at_ : Int
 commit : Sum
structure Done_ where
 tx : Tx_
 height : Int
structure Spend_ where
 by_ : Sum
 way : Int
 height : Int
def coinA (c : Coin_) : AV := .agg 3 [outA c.out, n64 c.height]
def towA (t : Tw_) : AV := .agg 35 [sumA t.root, n64 t.locked, n64 t.asked, n64 t.at_]
def holdA (h : Hold_) : AV := .agg 74 [chanA h.chan, n64 h.amount, bA h.proved, n64 h.at_, sumA h.commit]
def doneA (d : Done_) : AV := .agg 41 [txA d.tx, n64 d.height]
def spendA (s : Spend_) : AV := .agg 34 [sumA s.by_, n64 s.way, n64 s.height]
theorem nb_out1 {m : Nat} (o : Out_) : AV.nb m (outA o) = True := by simp [outA, AV.nb, AV.nbs, nb_ways]
theorem nb_ref {m : Nat} (r : Ref_) : AV.nb m (refA r) = True := by simp [refA, AV.nb, AV.nbs, nb_sum]
theorem nb_coin {m : Nat} (c : Coin_) : AV.nb m (coinA c) = True := by simp [coinA, AV.nb, AV.nbs, nb_out1]
theorem nb_tow {m : Nat} (t : Tw_) : AV.nb m (towA t) = True := by simp [towA, AV.nb, AV.nbs, nb_sum]
theorem nb_hold {m : Nat} (h : Hold_) : AV.nb m (holdA h) = True := by simp [holdA, chanA, AV.nb, AV.nbs, nb_sum, nb_ref]
theorem nb_done {m : Nat} (d : Done_) : AV.nb m (doneA d) = True := by simp [doneA, AV.nb, AV.nbs, nb_tx]
theorem nb_spend {m : Nat} (s : Spend_) : AV.nb m (spendA s) = True := by simp [spendA, AV.nb, AV.nbs, nb_sum]
theorem nb_pairK {m : Nat} (p : Int × Int) : AV.nb m (pairKA p) = True := by simp [pairKA, AV.nb, AV.nbs]
abbrev coinsE (l : List (Ref_ × Coin_)) : List (AV × AV) := encM refA coinA l
abbrev towsE (l : List (Int × Tw_)) : List (AV × AV) := encM n64 towA l
abbrev holdsE (l : List ((Int × Int) × Hold_)) : List (AV × AV) := encM pairKA holdA l
abbrev donesE (l : List (Sum × Done_)) : List (AV × AV) := encM sumA doneA l
abbrev spentE (l : List (Ref_ × Spend_)) : List (AV × AV) := encM refA spendA l
theorem nbK_ref {V : Type} {vA : V → AV} {m : Nat} (l : List (Ref_ × V)) : AV.nbs m ((encM refA vA l).map (·.1)) = True := nb_encK (fun k => by rw [nb_ref]; trivial) l
theorem nbK_int {V : Type} {vA : V → AV} {m : Nat} (l : List (Int × V)) : AV.nbs m ((encM n64 vA l).map (·.1)) = True := nb_encK (fun k => by simp [AV.nb]) l
theorem nbK_pair {V : Type} {vA : V → AV} {m : Nat} (l : List ((Int × Int) × V)) : AV.nbs m ((encM pairKA vA l).map (·.1)) = True := nb_encK (fun k => by rw [nb_pairK]; trivial) l
theorem nbK_sum {V : Type} {vA : V → AV} {m : Nat} (l : List (Sum × V)) : AV.nbs m ((encM sumA vA l).map (·.1)) = True := nb_encK (fun k => by rw [nb_sum]; trivial) l
theorem nbV_coin {K : Type} {kA : K → AV} {m : Nat} (l : List (K × Coin_)) : AV.nbs m ((encM kA coinA l).map (·.2)) = True := nb_encV (fun k => by rw [nb_coin]; trivial) l
theorem nbV_tow {K : Type} {kA : K → AV} {m : Nat} (l : List (K × Tw_)) : AV.nbs m ((encM kA towA l).map (·.2)) = True := nb_encV (fun k => by rw [nb_tow]; trivial) l
theorem nbV_hold {K : Type} {kA : K → AV} {m : Nat} (l : List (K × Hold_)) : AV.nbs m ((encM kA holdA l).map (·.2)) = True := nb_encV (fun k => by rw [nb_hold]; trivial) l
theorem nbV_done {K : Type} {kA : K → AV} {m : Nat} (l : List (K × Done_)) : AV.nbs m ((encM kA doneA l).map (·.2)) = True := nb_encV (fun k => by rw [nb_done]; trivial) l
theorem nbV_spend {K : Type} {kA : K → AV} {m : Nat} (l : List (K × Spend_)) : AV.nbs m ((encM kA spendA l).map (·.2)) = True := nb_encV (fun k => by rw [nb_spend]; trivial) l
theorem cmp_sumA {P : Program} {T : TypeId} {s : Sum} {n : Nat} (h : isSumT P T = true) : cmpOK P (n + 2) T (sumA s) = True := cmp_sumN h
theorem isS : isSumT Tryz.prog 26 = true := by kernel_rfl
theorem k1_sum (s : Sum) : keyOK Tryz.prog 26 (sumA s) = True := by
 simp only [eq_iff_iff, iff_true]
 exact ⟨by simp only [go_sem], by have := cmp_sumA (n := 6) (s := s) isS; rw [eq_iff_iff, iff_true] at this; exact this⟩
theorem k1_ref (r : Ref_) : keyOK Tryz.prog 45 (refA r) = True := by
 simp only [eq_iff_iff, iff_true]
 refine ⟨by simp only [go_sem], ?_⟩
 have hs : cmpOK Tryz.prog 7 26 (sumA r.tx) := by have := cmp_sum7 (s := r.tx) isS; rw [eq_iff_iff, iff_true] at this; exact this
 have hi : cmpOK Tryz.prog 7 3 (n64 r.at_) := by simp only [go_sem]
 have ht : tcmp Tryz.prog 45 = some [(0, 26), (32, 3)] := by kernel_rfl
 have hz : tsz Tryz.prog 45 = some 33 := by kernel_rfl
 rw [cmpOK]
 generalize cmpOK Tryz.prog 7 = C at *
 refine ⟨hz, ?_⟩
 simp only [ht]
 have e1 := sum_csz r.tx
 refine ⟨rfl, ?_, ?_, hs, ?_, ?_, ?_, hi, trivial⟩
 ·rw [e1]; kernel_rfl
 ·rw [sum_agg]; kernel_rfl
 ·show 32 = 0 + _; rw [e1]
 ·kernel_rfl
 ·kernel_rfl
theorem k1_int (n : Int) : keyOK Tryz.prog 3 (n64 n) = True := by simp only [go_sem]
theorem k1_pair (p : Int × Int) : keyOK Tryz.prog 146 (pairKA p) = True := by
 simp only [eq_iff_iff, iff_true]
 refine ⟨by simp only [go_sem], ?_⟩
 simp only [go_sem]
theorem kk_ref {V : Type} {vA : V → AV} (l : List (Ref_ × V)) : (∀ p ∈ encM refA vA l, keyOK Tryz.prog 45 p.1) = True := enc_keys (fun k => by rw [k1_ref]; trivial) l
theorem kk_sum {V : Type} {vA : V → AV} (l : List (Sum × V)) : (∀ p ∈ encM sumA vA l, keyOK Tryz.prog 26 p.1) = True := enc_keys (fun k => by rw [k1_sum]; trivial) l
theorem kk_int {V : Type} {vA : V → AV} (l : List (Int × V)) : (∀ p ∈ encM n64 vA l, keyOK Tryz.prog 3 p.1) = True := enc_keys (fun k => by rw [k1_int]; trivial) l
theorem kk_pair {V : Type} {vA : V → AV} (l : List ((Int × Int) × V)) : (∀ p ∈ encM pairKA vA l, keyOK Tryz.prog 146 p.1) = True := enc_keys (fun k => by rw [k1_pair]; trivial) l
theorem enc_nil {K V : Type} {kA : K → AV} {vA : V → AV} : encM kA vA [] = [] := rfl
theorem ltF {a nx : Nat} (h : a < nx) : (∀ k, (a = nx + k) = False) ∧ (∀ k, (nx + k = a) = False) ∧ (a = nx) = False ∧ (nx = a) = False := by
 refine ⟨fun k => ?_, fun k => ?_, ?_, ?_⟩ <;> (simp only [eq_iff_iff, iff_false]; omega)
theorem neF {a b : Nat} (h : a ≠ b) : (a = b) = False ∧ (b = a) = False := ⟨by simp [h], by simp [Ne.symm h]⟩
theorem refA_good (r : Ref_) : (refA r).good = true := rfl
theorem refA_agg (r : Ref_) : (refA r).isAgg = true := rfl
theorem refA_csz (r : Ref_) : (refA r).csize = 33 := rfl
theorem outA_good (r : Out_) : (outA r).good = true := rfl
theorem outA_agg (r : Out_) : (outA r).isAgg = true := rfl
theorem outA_csz (r : Out_) : (outA r).csize = 2 := rfl
theorem coinA_good (r : Coin_) : (coinA r).good = true := rfl
theorem coinA_agg (r : Coin_) : (coinA r).isAgg = true := rfl
theorem coinA_csz (r : Coin_) : (coinA r).csize = 3 := rfl
theorem towA_good (r : Tw_) : (towA r).good = true := rfl
theorem towA_agg (r : Tw_) : (towA r).isAgg = true := rfl
theorem towA_csz (r : Tw_) : (towA r).csize = 35 := rfl
theorem holdA_good (r : Hold_) : (holdA r).good = true := rfl
theorem holdA_agg (r : Hold_) : (holdA r).isAgg = true := rfl
theorem holdA_csz (r : Hold_) : (holdA r).csize = 74 := rfl
theorem doneA_good (r : Done_) : (doneA r).good = true := rfl
theorem doneA_agg (r : Done_) : (doneA r).isAgg = true := rfl
theorem doneA_csz (r : Done_) : (doneA r).csize = 41 := rfl
theorem spendA_good (r : Spend_) : (spendA r).good = true := rfl
theorem spendA_agg (r : Spend_) : (spendA r).isAgg = true := rfl
theorem spendA_csz (r : Spend_) : (spendA r).csize = 34 := rfl
theorem sumA_good (r : Sum) : (sumA r).good = true := rfl
def optC : Option Coin_ → AV
 | some c => coinA c
 | none => .agg 3 [.agg 2 [n64 0, .sl 35 [] 1], n64 0]
def optT : Option Tw_ → AV
 | some c => towA c
 | none => towA ⟨zeroS, 0, 0, 0⟩
def optH : Option Hold_ → AV
 | some c => holdA c
 | none => holdA ⟨⟨0, 0, 0, ⟨zeroS, 0⟩, 0, 0, 0⟩, 0, false, 0, zeroS⟩
def optD : Option Done_ → AV
 | some c => doneA c
 | none => .agg 41 [.agg 40 [.sl 35 [] 1, .sl 2 [] 1, .agg 37 [n64 0, n64 0, n64 0, n64 0, sumA zeroS, .sl 1 [] 1], .sl 33 [] 1], n64 0]
def optS : Option Spend_ → AV
 | some c => spendA c
 | none => spendA ⟨zeroS, 0, 0⟩
end Go.Proofs.YtaghcjbpjnpkbaaGreat

namespace Go.Proofs.YtaghcjbpjnpkbaaGreat
open Go Go.AL Go.Proofs.YtaghcjbpjnpkbaaGreat.T
abbrev viewH (v vm : Nat) (l : List (Ref_ × Coin_)) : Heap := [(v, some (.obj (.agg 1 [.map vm]))), (vm, some (.mp (coinsE l)))]
abbrev viewR (v vm : Nat) (l : List (Ref_ × Coin_)) : Heap := [(v, some (.robj (.agg 1 [.map vm]))), (vm, some (.rmp (coinsE l)))]
abbrev viewW (v vm : Nat) (l : List (Ref_ × Coin_)) : Heap := [(v, some (.robj (.agg 1 [.map vm]))), (vm, some (.mp (coinsE l)))]
theorem o_some {α β : Type} {f : α → β} {a : α} : Option.map f (some a) = some (f a) := rfl
theorem o_none {α β : Type} {f : α → β} : Option.map f none = none := rfl
attribute [local go_sem] nb_u8s u8s_length nb_sum List.length_replicate zero_sum sum_h u8s_nil nb_ref nb_out1 nb_coin refA_good refA_agg refA_csz outA_good outA_agg outA_csz coinA_good coinA_agg coinA_csz nbK_ref nbV_coin kk_ref k1_ref o_some o_none Option.getD_some Option.getD_none Option.isSome_some Option.isSome_none
theorem newv_spec (nx : Nat) : FnSpec Tryz.prog 44 nx [] [] (.ref (nx + 24) 0 []) (viewH (nx + 24) (nx + 8) []) 40 := by
  refine FnSpec.of_code (cx := cx) (an := {mt := [3]}) (rs := [.tmp 0]) mo Tryz.func44 rfl rfl (by kernel_rfl) (by kernel_rfl) (by show 0 ≤ _; decide) (.inl rfl) (by simp [allWr, keys, Res.wr]) ?_
  repeat' (first | omega | assumption | (show AL.ahead _ _ _ = true; rfl) | (first | apply brF | apply brT | apply brVF | apply brVT) <;> intro _ | (with_reducible refine And.intro ?_ ?_) | (simp -dsimp -implicitDefEqProofs only [go_sem, enc_nil]))
  all_goals rfl
theorem vnone_spec (nx v vm : Nat) (hv : v < nx) : FnSpec Tryz.prog 109 nx [.ref v 0 []] [(v, some (.robj (.agg 1 [.map vm])))] (bA false) [] 0 := by
  have x1 := ltF hv
  refine FnSpec.of_code (cx := cx) (an := {}) (rs := [.tmp 2]) mo Tryz.func109 rfl rfl (by kernel_rfl) (by kernel_rfl) (by show 1 ≤ _; decide) (.inl rfl) (by simp [allWr, keys, Res.wr]) ?_
  repeat' (first | omega | assumption | (show AL.ahead _ _ _ = true; rfl) | (first | apply brF | apply brT | apply brVF | apply brVT) <;> intro _ | (with_reducible refine And.intro ?_ ?_) | (simp -dsimp -implicitDefEqProofs only [go_sem, x1]))
theorem vget_spec (nx v vm : Nat) (l : List (Ref_ × Coin_)) (r : Ref_) (hv : v < nx) (hm : vm < nx) (hne : v ≠ vm) :
    FnSpec Tryz.prog 93 nx [.ref v 0 [], refA r] (viewR v vm l) (.tup [optC (lookM r l), bA (lookM r l).isSome]) [] 0 := by
  have x1 := ltF hv
  have x2 := ltF hm
  have x3 := neF hne
  cases h : lookM r l with
  | none =>
    refine FnSpec.of_code (cx := cx) (an := {}) (rs := [.cell 4 129, .tmp 5]) mo Tryz.func93 rfl rfl (by kernel_rfl) (by kernel_rfl) (by show 2 ≤ _; decide) (.inr ⟨_, rfl, by simp [AV.good, optC, coinA, h]⟩) (by simp [allWr, keys, Res.wr]) ?_
    repeat' (first | omega | assumption | (show AL.ahead _ _ _ = true; rfl) | (first | apply brF | apply brT | apply brVF | apply brVT) <;> intro _ | (with_reducible refine And.intro ?_ ?_) | (refine callK_by (vnone_spec _ v vm (by omega)) ?_) | (simp -dsimp -implicitDefEqProofs only [go_sem, x1, x2, x3, h, lookA_enc refA_inj, optC]))
  | some c =>
    refine FnSpec.of_code (cx := cx) (an := {}) (rs := [.cell 4 129, .tmp 5]) mo Tryz.func93 rfl rfl (by kernel_rfl) (by kernel_rfl) (by show 2 ≤ _; decide) (.inr ⟨_, rfl, by simp [AV.good, optC, coinA, h]⟩) (by simp [allWr, keys, Res.wr]) ?_
    repeat' (first | omega | assumption | (show AL.ahead _ _ _ = true; rfl) | (first | apply brF | apply brT | apply brVF | apply brVT) <;> intro _ | (with_reducible refine And.intro ?_ ?_) | (refine callK_by (vnone_spec _ v vm (by omega)) ?_) | (simp -dsimp -implicitDefEqProofs only [go_sem, x1, x2, x3, h, lookA_enc refA_inj, optC]))
theorem vhas_spec (nx v vm : Nat) (l : List (Ref_ × Coin_)) (r : Ref_) (hv : v < nx) (hm : vm < nx) (hne : v ≠ vm) :
    FnSpec Tryz.prog 110 nx [.ref v 0 [], refA r] (viewR v vm l) (bA (lookM r l).isSome) [] 0 := by
  have x1 := ltF hv
  have x2 := ltF hm
  have x3 := neF hne
  cases h : lookM r l with
  | none =>
    refine FnSpec.of_code (cx := cx) (an := {}) (rs := [.tmp 4]) mo Tryz.func110 rfl rfl (by kernel_rfl) (by kernel_rfl) (by show 2 ≤ _; decide) (.inl rfl) (by simp [allWr, keys, Res.wr]) ?_
    repeat' (first | omega | assumption | (show AL.ahead _ _ _ = true; rfl) | (first | apply brF | apply brT | apply brVF | apply brVT) <;> intro _ | (with_reducible refine And.intro ?_ ?_) | (simp -dsimp -implicitDefEqProofs only [go_sem, x1, x2, x3, h, lookA_enc refA_inj, optC]))
  | some c =>
    refine FnSpec.of_code (cx := cx) (an := {}) (rs := [.tmp 4]) mo Tryz.func110 rfl rfl (by kernel_rfl) (by kernel_rfl) (by show 2 ≤ _; decide) (.inl rfl) (by simp [allWr, keys, Res.wr]) ?_
    repeat' (first | omega | assumption | (show AL.ahead _ _ _ = true; rfl) | (first | apply brF | apply brT | apply brVF | apply brVT) <;> intro _ | (with_reducible refine And.intro ?_ ?_) | (simp -dsimp -implicitDefEqProofs only [go_sem, x1, x2, x3, h, lookA_enc refA_inj, optC]))
noncomputable def putE (r : Ref_) (o : Out_) (h : Int) (l : List (Ref_ × Coin_)) : Int := @ite _ (outB o = false ∨ h < 0 ∨ 1073741824 < h) (Classical.propDecidable _) 1 (if (lookM r l).isSome then 8 else 0)
noncomputable def putL (r : Ref_) (o : Out_) (h : Int) (l : List (Ref_ × Coin_)) : List (Ref_ × Coin_) := if putE r o h l = 0 then setM r ⟨o, h⟩ l else l
theorem putL_ok {r : Ref_} {o : Out_} {h : Int} {l : List (Ref_ × Coin_)} (h1 : outB o = true) (h2 : 0 ≤ h) (h3 : h ≤ 1073741824) (h4 : lookM r l = none) : putL r o h l = setM r ⟨o, h⟩ l ∧ putE r o h l = 0 := by
  have : putE r o h l = 0 := by
    unfold putE
    rw [if_neg (by rw [h1]; simp; omega), h4]; rfl
  exact ⟨by unfold putL; rw [if_pos this], this⟩
theorem vput_spec (nx v vm : Nat) (l : List (Ref_ × Coin_)) (r : Ref_) (o : Out_) (h : Int) (hv : v < nx) (hm : vm < nx) (hne : v ≠ vm) (hl : o.ways.length < 2 ^ 40) (hk : ∀ w ∈ o.ways, w.keys.length < 2 ^ 40) :
    FnSpec Tryz.prog 91 nx [.ref v 0 [], refA r, outA o, n64 h] (viewW v vm l) (n64 (putE r o h l)) [(vm, some (.mp (coinsE (putL r o h l))))] 0 := by
  have x1 := ltF hv
  have x2 := ltF hm
  have x3 := neF hne
  have ho := fun nc => outR_spec nc o hl hk
  by_cases c : outB o = false ∨ h < 0 ∨ 1073741824 < h
  · have e1 : putE r o h l = 1 := by unfold putE; rw [if_pos c]
    have e2 : putL r o h l = l := by unfold putL; rw [if_neg (by rw [e1]; decide)]
    rw [e1, e2]
    rcases Bool.eq_false_or_eq_true (outB o) with c1 | c1
    · by_cases c2 : h < 0
      · refine FnSpec.of_code (cx := cx) (an := {}) (rs := [.tmp 8]) mo Tryz.func91 rfl rfl (by kernel_rfl) (by kernel_rfl) (by show 4 ≤ _; decide) (.inl rfl) (by simp [allWr, keys, Res.wr]) ?_
        repeat' (first | omega | assumption | (show AL.ahead _ _ _ = true; rfl) | (first | apply brF | apply brT | apply brVF | apply brVT) <;> intro _ | (with_reducible refine And.intro ?_ ?_) | (refine callK_by (vnone_spec _ v vm (by omega)) ?_) | (refine callK_by (ho _) ?_) | (simp -dsimp -implicitDefEqProofs only [go_sem, x1, x2, x3, c1, c2]))
      · have c3 : 1073741824 < h := by rcases c with c | c | c; · rw [c1] at c; cases c
                                       · omega
                                       · exact c
        refine FnSpec.of_code (cx := cx) (an := {}) (rs := [.tmp 8]) mo Tryz.func91 rfl rfl (by kernel_rfl) (by kernel_rfl) (by show 4 ≤ _; decide) (.inl rfl) (by simp [allWr, keys, Res.wr]) ?_
        repeat' (first | omega | assumption | (show AL.ahead _ _ _ = true; rfl) | (first | apply brF | apply brT | apply brVF | apply brVT) <;> intro _ | (with_reducible refine And.intro ?_ ?_) | (refine callK_by (vnone_spec _ v vm (by omega)) ?_) | (refine callK_by (ho _) ?_) | (simp -dsimp -implicitDefEqProofs only [go_sem, x1, x2, x3, c1, c2, c3]))
    · refine FnSpec.of_code (cx := cx) (an := {}) (rs := [.tmp 8]) mo Tryz.func91 rfl rfl (by kernel_rfl) (by kernel_rfl) (by show 4 ≤ _; decide) (.inl rfl) (by simp [allWr, keys, Res.wr]) ?_
      repeat' (first | omega | assumption | (show AL.ahead _ _ _ = true; rfl) | (first | apply brF | apply brT | apply brVF | apply brVT) <;> intro _ | (with_reducible refine And.intro ?_ ?_) | (refine callK_by (vnone_spec _ v vm (by omega)) ?_) | (refine callK_by (ho _) ?_) | (simp -dsimp -implicitDefEqProofs only [go_sem, x1, x2, x3, c1]))
  · have c1 : outB o = true := by
      rcases Bool.eq_false_or_eq_true (outB o) with q | q
      · exact q
      · exact absurd (.inl q) c
    have c2 : (h < 0) = False := by simp only [eq_iff_iff, iff_false]; exact fun q => c (.inr (.inl q))
    have c3 : (1073741824 < h) = False := by simp only [eq_iff_iff, iff_false]; exact fun q => c (.inr (.inr q))
    have hb := fun nc (h : v < nc) (h2 : vm < nc) => vhas_spec nc v vm l r h h2 hne
    cases hf : lookM r l with
    | some c0 =>
      have e1 : putE r o h l = 8 := by unfold putE; rw [if_neg c, hf]; rfl
      have e2 : putL r o h l = l := by unfold putL; rw [if_neg (by rw [e1]; decide)]
      rw [e1, e2]
      simp only [hf, Option.isSome_some] at hb
      refine FnSpec.of_code (cx := cx) (an := {}) (rs := [.tmp 8]) mo Tryz.func91 rfl rfl (by kernel_rfl) (by kernel_rfl) (by show 4 ≤ _; decide) (.inl rfl) (by simp [allWr, keys, Res.wr]) ?_
      repeat' (first | omega | assumption | (show AL.ahead _ _ _ = true; rfl) | (first | apply brF | apply brT | apply brVF | apply brVT) <;> intro _ | (with_reducible refine And.intro ?_ ?_) | (refine callK_by (vnone_spec _ v vm (by omega)) ?_) | (refine callK_by (ho _) ?_) | (refine callK_by (hb _ (by omega) (by omega)) ?_) | (simp -dsimp -implicitDefEqProofs only [go_sem, x1, x2, x3, c1, c2, c3]))
    | none =>
      obtain ⟨e2, e1⟩ := putL_ok (r := r) (o := o) (h := h) c1 (by have : ¬ h < 0 := fun q => c (.inr (.inl q)); omega) (by have : ¬ 1073741824 < h := fun q => c (.inr (.inr q)); omega) hf
      rw [e1, e2]
      simp only [hf, Option.isSome_none] at hb
      have hset : setA (refA r) (.agg 3 [outA o, n64 h]) (coinsE l) = coinsE (setM r ⟨o, h⟩ l) := setA_enc (vA := coinA) refA_inj r (⟨o, h⟩ : Coin_) l
      refine FnSpec.of_code (cx := cx) (an := {}) (rs := [.tmp 8]) mo Tryz.func91 rfl rfl (by kernel_rfl) (by kernel_rfl) (by show 4 ≤ _; decide) (.inl rfl) (by simp [allWr, keys, Res.wr]) ?_
      repeat' (first | omega | assumption | (show AL.ahead _ _ _ = true; rfl) | (first | apply brF | apply brT | apply brVF | apply brVT) <;> intro _ | (with_reducible refine And.intro ?_ ?_) | (refine callK_by (vnone_spec _ v vm (by omega)) ?_) | (refine callK_by (ho _) ?_) | (refine callK_by (hb _ (by omega) (by omega)) ?_) | (simp -dsimp -implicitDefEqProofs only [go_sem, x1, x2, x3, c1, c2, c3, hset]))
theorem vtake_spec (nx v vm : Nat) (l : List (Ref_ × Coin_)) (r : Ref_) (hv : v < nx) (hm : vm < nx) (hne : v ≠ vm) :
    FnSpec Tryz.prog 52 nx [.ref v 0 [], refA r] (viewW v vm l) (.tup [optC (lookM r l), n64 (if (lookM r l).isSome then 0 else 13)]) [(vm, some (.mp (coinsE (delM r l))))] 0 := by
  have x1 := ltF hv
  have x2 := ltF hm
  have x3 := neF hne
  have hb := fun nc (h : v < nc) (h2 : vm < nc) => vhas_spec nc v vm l r h h2 hne
  cases h : lookM r l with
  | none =>
    have hd : delM r l = l := by
      clear hb
      induction l with
      | nil => rfl
      | cons a l ih =>
        obtain ⟨a, b⟩ := a
        by_cases q : r = a
        · subst q; simp [lookM] at h
        · simp only [lookM, if_neg q] at h
          simp only [delM, if_neg q, ih h]
    rw [hd]
    simp only [h, Option.isSome_none] at hb
    refine FnSpec.of_code (cx := cx) (an := {}) (rs := [.cell 4 129, .tmp 5]) mo Tryz.func52 rfl rfl (by kernel_rfl) (by kernel_rfl) (by show 2 ≤ _; decide) (.inr ⟨_, rfl, by simp [AV.good, optC, coinA]⟩) (by simp [allWr, keys, Res.wr]) ?_
    repeat' (first | omega | assumption | (show AL.ahead _ _ _ = true; rfl) | (first | apply brF | apply brT | apply brVF | apply brVT) <;> intro _ | (with_reducible refine And.intro ?_ ?_) | (refine callK_by (vnone_spec _ v vm (by omega)) ?_) | (refine callK_by (hb _ (by omega) (by omega)) ?_) | (simp -dsimp -implicitDefEqProofs only [go_sem, x1, x2, x3, h, lookA_enc refA_inj, optC]))
    all_goals rfl
  | some c =>
    simp only [h, Option.isSome_some] at hb
    refine FnSpec.of_code (cx := cx) (an := {}) (rs := [.cell 4 129, .tmp 5]) mo Tryz.func52 rfl rfl (by kernel_rfl) (by kernel_rfl) (by show 2 ≤ _; decide) (.inr ⟨_, rfl, by simp [AV.good, optC, coinA]⟩) (by simp [allWr, keys, Res.wr]) ?_
    repeat' (first | omega | assumption | (show AL.ahead _ _ _ = true; rfl) | (first | apply brF | apply brT | apply brVF | apply brVT) <;> intro _ | (with_reducible refine And.intro ?_ ?_) | (refine callK_by (vnone_spec _ v vm (by omega)) ?_) | (refine callK_by (hb _ (by omega) (by omega)) ?_) | (simp -dsimp -implicitDefEqProofs only [go_sem, x1, x2, x3, h, lookA_enc refA_inj, delA_enc refA_inj, optC]))
    all_goals rfl
end Go.Proofs.YtaghcjbpjnpkbaaGreat

namespace Go.Proofs.YtaghcjbpjnpkbaaGreat
open Go Go.AL Go.Proofs.YtaghcjbpjnpkbaaGreat.T
def boardA (tm hm : Nat) : AV := .agg 2 [.map tm, .map hm]
abbrev boardH (b tm hm : Nat) (ts : List (Int × Tw_)) (hs : List ((Int × Int) × Hold_)) : Heap := [(b, some (.obj (boardA tm hm))), (tm, some (.mp (towsE ts))), (hm, some (.mp (holdsE hs)))]
abbrev boardR (b tm hm : Nat) (ts : List (Int × Tw_)) (hs : List ((Int × Int) × Hold_)) : Heap := [(b, some (.robj (boardA tm hm))), (tm, some (.rmp (towsE ts))), (hm, some (.rmp (holdsE hs)))]
theorem rep2 {α : Type} (a : α) : List.replicate 2 a = [a, a] := rfl
theorem k2_pair (a b : Int) : keyOK Tryz.prog 146 (.vec 1 [n64 a, n64 b]) = True := k1_pair (a, b)
theorem look_pair {V : Type} {vA : V → AV} (a b : Int) (l : List ((Int × Int) × V)) : lookA (.vec 1 [n64 a, n64 b]) (encM pairKA vA l) = (lookM (a, b) l).map vA := lookA_enc pairKA_inj (a, b) l
attribute [local go_sem] nb_u8s u8s_length nb_sum List.length_replicate zero_sum sum_h u8s_nil towA_good towA_agg towA_csz holdA_good holdA_agg holdA_csz nbK_int nbK_pair nbV_tow nbV_hold nb_tow nb_hold kk_int kk_pair k2_pair o_some o_none Option.getD_some Option.getD_none Option.isSome_some Option.isSome_none
theorem newb_spec (nx : Nat) : FnSpec Tryz.prog 45 nx [] [] (.ref (nx + 32) 0 []) (boardH (nx + 32) (nx + 8) (nx + 16) [] []) 40 := by
 refine FnSpec.of_code (cx := cx) (an := {mt := [4]}) (rs := [.tmp 0]) mo Tryz.func45 rfl rfl (by kernel_rfl) (by kernel_rfl) (by show 0 ≤ _; decide) (.inl rfl) (by simp [allWr, keys, Res.wr]) ?_
 repeat' (first | omega | assumption | (show AL.ahead _ _ _ = true; rfl) | (first | apply brF | apply brT | apply brVF | apply brVT) <;> intro _ | (with_reducible refine And.intro ?_ ?_) | (simp -dsimp -implicitDefEqProofs only [go_sem, enc_nil, boardA]))
 all_goals rfl
theorem bnone2_spec (nx b tm hm : Nat) (hv : b < nx) : FnSpec Tryz.prog 95 nx [.ref b 0 []] [(b, some (.robj (boardA tm hm)))] (bA false) [] 0 := by
 have x1 := ltF hv
 refine FnSpec.of_code (cx := cx) (an := {}) (rs := [.tmp 2]) mo Tryz.func95 rfl rfl (by kernel_rfl) (by kernel_rfl) (by show 1 ≤ _; decide) (.inl rfl) (by simp [allWr, keys, Res.wr]) ?_
 repeat' (first | omega | assumption | (show AL.ahead _ _ _ = true; rfl) | (first | apply brF | apply brT | apply brVF | apply brVT) <;> intro _ | (with_reducible refine And.intro ?_ ?_) | (simp -dsimp -implicitDefEqProofs only [go_sem, x1, boardA]))
theorem bget_spec (nx b tm hm : Nat) (ts : List (Int × Tw_)) (t : Int) (hb : b < nx) (ht : tm < nx) (hne : b ≠ tm) :
  FnSpec Tryz.prog 139 nx [.ref b 0 [], n64 t] [(b, some (.robj (boardA tm hm))), (tm, some (.rmp (towsE ts)))] (.tup [optT (lookM t ts), bA (lookM t ts).isSome]) [] 0 := by
 have x1 := ltF hb
 have x2 := ltF ht
 have x3 := neF hne
 cases h : lookM t ts with
 | none =>
  refine FnSpec.of_code (cx := cx) (an := {}) (rs := [.cell 4 197, .tmp 5]) mo Tryz.func139 rfl rfl (by kernel_rfl) (by kernel_rfl) (by show 2 ≤ _; decide) (.inr ⟨_, rfl, by simp [AV.good, optT, towA]⟩) (by simp [allWr, keys, Res.wr]) ?_
  repeat' (first | omega | assumption | (show AL.ahead _ _ _ = true; rfl) | (first | apply brF | apply brT | apply brVF | apply brVT) <;> intro _ | (with_reducible refine And.intro ?_ ?_) | (refine callK_by (bnone2_spec _ b tm hm (by omega)) ?_) | (simp -dsimp -implicitDefEqProofs only [go_sem, x1, x2, x3, h, lookA_enc n64_inj, optT, boardA, towA]))
 | some c =>
  refine FnSpec.of_code (cx := cx) (an := {}) (rs := [.cell 4 197, .tmp 5]) mo Tryz.func139 rfl rfl (by kernel_rfl) (by kernel_rfl) (by show 2 ≤ _; decide) (.inr ⟨_, rfl, by simp [AV.good, optT, towA]⟩) (by simp [allWr, keys, Res.wr]) ?_
  repeat' (first | omega | assumption | (show AL.ahead _ _ _ = true; rfl) | (first | apply brF | apply brT | apply brVF | apply brVT) <;> intro _ | (with_reducible refine And.intro ?_ ?_) | (refine callK_by (bnone2_spec _ b tm hm (by omega)) ?_) | (simp -dsimp -implicitDefEqProofs only [go_sem, x1, x2, x3, h, lookA_enc n64_inj, optT, boardA]))
theorem bholds_spec (nx b tm hm : Nat) (hs : List ((Int × Int) × Hold_)) (t c : Int) (hb : b < nx) (hh : hm < nx) (hne : b ≠ hm) :
  FnSpec Tryz.prog 100 nx [.ref b 0 [], n64 t, n64 c] [(b, some (.robj (boardA tm hm))), (hm, some (.rmp (holdsE hs)))] (.tup [optH (lookM (t, c) hs), bA (lookM (t, c) hs).isSome]) [] 0 := by
 have x1 := ltF hb
 have x2 := ltF hh
 have x3 := neF hne
 cases h : lookM (t, c) hs with
 | none =>
  refine FnSpec.of_code (cx := cx) (an := {}) (rs := [.cell 6 200, .tmp 7]) mo Tryz.func100 rfl rfl (by kernel_rfl) (by kernel_rfl) (by show 3 ≤ _; decide) (.inr ⟨_, rfl, by simp [AV.good, optH, holdA]⟩) (by simp [allWr, keys, Res.wr]) ?_
  repeat' (first | omega | assumption | (show AL.ahead _ _ _ = true; rfl) | (first | apply brF | apply brT | apply brVF | apply brVT) <;> intro _ | (with_reducible refine And.intro ?_ ?_) | (refine callK_by (bnone2_spec _ b tm hm (by omega)) ?_) | (simp -dsimp -implicitDefEqProofs only [go_sem, x1, x2, x3, h, rep2, List.set_cons_zero, List.set_cons_succ, List.getD_cons_zero, List.getD_cons_succ, look_pair, optH, boardA, holdA, chanA, refA]))
 | some q =>
  refine FnSpec.of_code (cx := cx) (an := {}) (rs := [.cell 6 200, .tmp 7]) mo Tryz.func100 rfl rfl (by kernel_rfl) (by kernel_rfl) (by show 3 ≤ _; decide) (.inr ⟨_, rfl, by simp [AV.good, optH, holdA]⟩) (by simp [allWr, keys, Res.wr]) ?_
  repeat' (first | omega | assumption | (show AL.ahead _ _ _ = true; rfl) | (first | apply brF | apply brT | apply brVF | apply brVT) <;> intro _ | (with_reducible refine And.intro ?_ ?_) | (refine callK_by (bnone2_spec _ b tm hm (by omega)) ?_) | (simp -dsimp -implicitDefEqProofs only [go_sem, x1, x2, x3, h, rep2, List.set_cons_zero, List.set_cons_succ, List.getD_cons_zero, List.getD_cons_succ, look_pair, optH, boardA]))
theorem isClone : cloneFn Tryz.prog 131 := ⟨Tryz.f131, by kernel_rfl, by kernel_rfl, by kernel_rfl, by kernel_rfl, by kernel_rfl⟩
theorem cloneT_spec (nx m : Nat) (ts : List (Int × Tw_)) (hm : m < nx) : FnSpec Tryz.prog 96 nx [.map m] [(m, some (.rmp (towsE ts)))] (.map (nx + 24)) [(nx + 24, some (.mp (towsE ts)))] 40 := by
 have x1 := ltF hm
 refine FnSpec.of_code (cx := cx) (an := {nxt := [3]}) (rs := [.tmp 2]) mo Tryz.func96 rfl rfl (by kernel_rfl) (by kernel_rfl) (by show 1 ≤ _; decide) (.inl rfl) (by simp [allWr, keys, Res.wr]) ?_
 repeat' (first | omega | assumption | (show AL.ahead _ _ _ = true; rfl) | (first | apply brF | apply brT | apply brVF | apply brVT) <;> intro _ | (with_reducible refine And.intro ?_ ?_) | (simp -dsimp -implicitDefEqProofs only [go_sem, x1, isClone]))
theorem cloneH_spec (nx m : Nat) (hs : List ((Int × Int) × Hold_)) (hm : m < nx) : FnSpec Tryz.prog 97 nx [.map m] [(m, some (.rmp (holdsE hs)))] (.map (nx + 24)) [(nx + 24, some (.mp (holdsE hs)))] 40 := by
 have x1 := ltF hm
 refine FnSpec.of_code (cx := cx) (an := {nxt := [3]}) (rs := [.tmp 2]) mo Tryz.func97 rfl rfl (by kernel_rfl) (by kernel_rfl) (by show 1 ≤ _; decide) (.inl rfl) (by simp [allWr, keys, Res.wr]) ?_
 repeat' (first | omega | assumption | (show AL.ahead _ _ _ = true; rfl) | (first | apply brF | apply brT | apply brVF | apply brVT) <;> intro _ | (with_reducible refine And.intro ?_ ?_) | (simp -dsimp -implicitDefEqProofs only [go_sem, x1, isClone]))
theorem bclone_spec (nx b tm hm : Nat) (ts : List (Int × Tw_)) (hs : List ((Int × Int) × Hold_)) (hb : b < nx) (ht : tm < nx) (hh : hm < nx) (h1 : b ≠ tm) (h2 : b ≠ hm) (h3 : tm ≠ hm) :
  FnSpec Tryz.prog 49 nx [.ref b 0 []] (boardR b tm hm ts hs) (.ref (nx + 112) 0 []) (boardH (nx + 112) (nx + 152) (nx + 192) ts hs) 300 := by
 have x1 := ltF hb
 have x2 := ltF ht
 have x3 := ltF hh
 have y1 := neF h1
 have y2 := neF h2
 have y3 := neF h3
 refine FnSpec.of_code (cx := cx) (an := {mt := [17]}) (rs := [.tmp 2]) mo Tryz.func49 rfl rfl (by kernel_rfl) (by kernel_rfl) (by show 1 ≤ _; decide) (.inl rfl) (by simp [allWr, keys, Res.wr]) ?_
 repeat' (first | omega | assumption | (show AL.ahead _ _ _ = true; rfl) | (first | apply brF | apply brT | apply brVF | apply brVT) <;> intro _ | (with_reducible refine And.intro ?_ ?_) | (refine callK_by (bnone2_spec _ b tm hm (by omega)) ?_) | (refine callK_by (cloneT_spec _ tm ts (by omega)) ?_) | (refine callK_by (cloneH_spec _ hm hs (by omega)) ?_) | (simp -dsimp -implicitDefEqProofs only [go_sem, x1, x2, x3, y1, y2, y3, boardA]))
end Go.Proofs.YtaghcjbpjnpkbaaGreat

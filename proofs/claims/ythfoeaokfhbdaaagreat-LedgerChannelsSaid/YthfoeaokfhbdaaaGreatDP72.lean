/-
  Maps, told by what they hold: looked up, written, cleared; coins, spends and what came.
-/
import Derived.Test.YthfoeaokfhbdaaaGreatDP71
import Derived.Test.YthfoeaokfhbdaaaGreatDP24
import Derived.Test.YthfoeaokfhbdaaaGreatDP14
import Derived.Test.YthfoeaokfhbdaaaGreatAL27
set_option linter.unusedSimpArgs false
set_option linter.unusedVariables false
set_option maxRecDepth 100000
set_option maxHeartbeats 1000000
namespace Go.Proofs.YthfoeaokfhbdaaaGreat
open Go Go.AL Go.Proofs.YthfoeaokfhbdaaaGreat.T
section
open Classical
variable {K V : Type}
noncomputable def lookM (k : K) : List (K × V) → Option V
  | [] => none
  | (a, v) :: r => if k = a then some v else lookM k r
noncomputable def setM (k : K) (v : V) : List (K × V) → List (K × V)
  | [] => [(k, v)]
  | (a, u) :: r => if k = a then (k, v) :: r else (a, u) :: setM k v r
noncomputable def delM (k : K) : List (K × V) → List (K × V)
  | [] => []
  | (a, u) :: r => if k = a then r else (a, u) :: delM k r
/-- entries as they are told -/
def encM (kA : K → AV) (vA : V → AV) (l : List (K × V)) : List (AV × AV) := l.map fun p => (kA p.1, vA p.2)
def InjA (kA : K → AV) : Prop := ∀ a b, kA a = kA b → a = b
theorem eqB_inj {kA : K → AV} (h : InjA kA) (a b : K) : eqB (kA a) (kA b) = decide (a = b) := by
  by_cases e : a = b
  · subst e; rw [eqB_yes rfl]; simp
  · rw [eqB_no (fun q => e (h a b q))]; simp [e]
variable {kA : K → AV} {vA : V → AV}
theorem lookA_enc (h : InjA kA) (k : K) : ∀ l : List (K × V), lookA (kA k) (encM kA vA l) = (lookM k l).map vA
  | [] => rfl
  | (a, v) :: r => by
    have ih := lookA_enc h k r
    simp only [encM, List.map_cons, lookA, lookM, eqB_inj h, decide_eq_true_eq] at ih ⊢
    split
    · rfl
    · exact ih
theorem setA_enc (h : InjA kA) (k : K) (v : V) : ∀ l : List (K × V), setA (kA k) (vA v) (encM kA vA l) = encM kA vA (setM k v l)
  | [] => rfl
  | (a, u) :: r => by
    have ih := setA_enc h k v r
    simp only [encM, List.map_cons, setA, setM, eqB_inj h, decide_eq_true_eq] at ih ⊢
    split
    · rfl
    · rw [ih]; rfl
theorem delA_enc (h : InjA kA) (k : K) : ∀ l : List (K × V), delA (kA k) (encM kA vA l) = encM kA vA (delM k l)
  | [] => rfl
  | (a, u) :: r => by
    have ih := delA_enc h k r
    simp only [encM, List.map_cons, delA, delM, eqB_inj h, decide_eq_true_eq] at ih ⊢
    split
    · rfl
    · rw [ih]; rfl
theorem enc_len (l : List (K × V)) : (encM kA vA l).length = l.length := by simp [encM]
theorem nb_encK {m : Nat} (h : ∀ k, (kA k).nb m) (l : List (K × V)) : AV.nbs m ((encM kA vA l).map (·.1)) = True := by
  simp only [eq_iff_iff, iff_true, encM, List.map_map]
  exact nbs_map (fun s => h s.1) l
theorem nb_encV {m : Nat} (h : ∀ v, (vA v).nb m) (l : List (K × V)) : AV.nbs m ((encM kA vA l).map (·.2)) = True := by
  simp only [eq_iff_iff, iff_true, encM, List.map_map]
  exact nbs_map (fun s => h s.2) l
theorem enc_keys {P : Program} {T : TypeId} (h : ∀ k, keyOK P T (kA k)) (l : List (K × V)) : (∀ p ∈ encM kA vA l, keyOK P T p.1) = True := by
  simp only [eq_iff_iff, iff_true]
  intro p hp
  obtain ⟨q, _, rfl⟩ := List.mem_map.1 hp
  exact h q.1
theorem lookM_mem {k : K} {v : V} : ∀ {l : List (K × V)}, lookM k l = some v → (k, v) ∈ l
  | (a, u) :: r, h => by
    simp only [lookM] at h
    split at h
    · rename_i e; injection h with h; subst e h; exact List.mem_cons_self
    · exact List.mem_cons_of_mem _ (lookM_mem h)
theorem lookM_none {k : K} : ∀ {l : List (K × V)}, (lookM k l = none ↔ k ∉ l.map (·.1))
  | [] => by simp [lookM]
  | (a, u) :: r => by
    by_cases q : k = a
    · subst q; simp [lookM]
    · simp only [lookM, if_neg q, lookM_none, List.map_cons, List.mem_cons, not_or]; exact ⟨fun h => ⟨q, h⟩, fun h => h.2⟩
theorem lookM_set {k : K} {v : V} (j : K) : ∀ {l : List (K × V)}, lookM j (setM k v l) = if j = k then some v else lookM j l
  | [] => by simp [setM, lookM]
  | (a, u) :: r => by
    have ih := lookM_set (k := k) (v := v) j (l := r)
    by_cases q : k = a
    · subst q
      simp only [setM, if_true, lookM]
      split <;> rfl
    · simp only [setM, if_neg q, lookM, ih]
      by_cases e : j = a
      · subst e; rw [if_pos rfl, if_neg (fun h => q h.symm), if_pos rfl]
      · rw [if_neg e, if_neg e]
/-- keys that differ -/
def NodK (l : List (K × V)) : Prop := (l.map (·.1)).Nodup
theorem setM_keys {k : K} {v : V} : ∀ (l : List (K × V)), (setM k v l).map (·.1) = if lookM k l = none then l.map (·.1) ++ [k] else l.map (·.1)
  | [] => by simp [setM, lookM]
  | (a, u) :: r => by
    have ih := setM_keys (k := k) (v := v) r
    by_cases q : k = a
    · subst q; simp [setM, lookM]
    · simp only [setM, lookM, if_neg q, List.map_cons, ih]
      split <;> simp
theorem setM_nod {k : K} {v : V} {l : List (K × V)} (h : NodK l) : NodK (setM k v l) := by
  unfold NodK at h ⊢
  rw [setM_keys]
  split
  · rename_i q
    rw [lookM_none] at q
    rw [List.nodup_append]
    exact ⟨h, by simp, fun a ha b hb => by simp at hb; subst hb; exact fun e => q (e ▸ ha)⟩
  · exact h
theorem delM_sub {k : K} : ∀ (l : List (K × V)), (delM k l).Sublist l
  | [] => .slnil
  | (a, u) :: r => by
    simp only [delM]
    split
    · exact List.sublist_cons_self _ _
    · exact (delM_sub r).cons_cons _
theorem delM_nod {k : K} {l : List (K × V)} (h : NodK l) : NodK (delM k l) := List.Nodup.sublist ((delM_sub l).map _) h
end
theorem u8_inj' {a b : List UInt8} (h : u8s a = u8s b) : a = b := by
  induction a generalizing b with
  | nil => cases b with
    | nil => rfl
    | cons x b => simp [u8s] at h
  | cons y a ih => cases b with
    | nil => simp [u8s] at h
    | cons x b =>
      simp only [u8s, List.map_cons, List.cons.injEq] at h
      obtain ⟨h1, h2⟩ := h
      rw [ih h2]
      have : y = x := by
        simp only [u8, AV.val.injEq, Value.int.injEq, true_and] at h1
        exact UInt8.toNat_inj.1 (by omega)
      rw [this]
theorem sumA_inj : InjA sumA := fun a b h => Sum.ext' (u8_inj' (by simp only [sumA, AV.vec.injEq, true_and] at h; exact h))
theorem refA_inj : InjA refA := fun a b h => by
  cases a; cases b
  simp only [refA, AV.agg.injEq, true_and, List.cons.injEq, AV.val.injEq, Value.int.injEq, and_true] at h
  obtain ⟨h1, h2⟩ := h
  rw [sumA_inj _ _ h1, h2]
theorem n64_inj : InjA n64 := fun a b h => by simpa using h
def pairKA (p : Int × Int) : AV := .vec 1 [n64 p.1, n64 p.2]
theorem pairKA_inj : InjA pairKA := fun a b h => by
  cases a; cases b; simp only [pairKA, AV.vec.injEq, List.cons.injEq, AV.val.injEq, Value.int.injEq, true_and, and_true] at h; rw [h.1, h.2]
structure Coin_ where
  out : Out_
  height : Int
structure Tw_ where
  root : Sum
  locked : Int
  asked : Int
  at_ : Int
structure Hold_ where
  chan : Chan
  amount : Int
  proved : Bool
  at_ : Int
  commit : Sum
structure Done_ where
  tx : Tx_
  height : Int
structure Spend_ where
  by_ : Sum
  way : Int
  height : Int
def coinA (c : Coin_) : AV := .agg 3 [outA c.out, n64 c.height]
def towA (t : Tw_) : AV := .agg 35 [sumA t.root, n64 t.locked, n64 t.asked, n64 t.at_]
def holdA (h : Hold_) : AV := .agg 74 [chanA h.chan, n64 h.amount, bA h.proved, n64 h.at_, sumA h.commit]
def doneA (d : Done_) : AV := .agg 41 [txA d.tx, n64 d.height]
def spendA (s : Spend_) : AV := .agg 34 [sumA s.by_, n64 s.way, n64 s.height]
theorem nb_out1 {m : Nat} (o : Out_) : AV.nb m (outA o) = True := by simp [outA, AV.nb, AV.nbs, nb_ways]
theorem nb_ref {m : Nat} (r : Ref_) : AV.nb m (refA r) = True := by simp [refA, AV.nb, AV.nbs, nb_sum]
theorem nb_coin {m : Nat} (c : Coin_) : AV.nb m (coinA c) = True := by simp [coinA, AV.nb, AV.nbs, nb_out1]
theorem nb_tow {m : Nat} (t : Tw_) : AV.nb m (towA t) = True := by simp [towA, AV.nb, AV.nbs, nb_sum]
theorem nb_hold {m : Nat} (h : Hold_) : AV.nb m (holdA h) = True := by simp [holdA, chanA, AV.nb, AV.nbs, nb_sum, nb_ref]
theorem nb_done {m : Nat} (d : Done_) : AV.nb m (doneA d) = True := by simp [doneA, AV.nb, AV.nbs, nb_tx]
theorem nb_spend {m : Nat} (s : Spend_) : AV.nb m (spendA s) = True := by simp [spendA, AV.nb, AV.nbs, nb_sum]
theorem nb_pairK {m : Nat} (p : Int × Int) : AV.nb m (pairKA p) = True := by simp [pairKA, AV.nb, AV.nbs]
abbrev coinsE (l : List (Ref_ × Coin_)) : List (AV × AV) := encM refA coinA l
abbrev towsE (l : List (Int × Tw_)) : List (AV × AV) := encM n64 towA l
abbrev holdsE (l : List ((Int × Int) × Hold_)) : List (AV × AV) := encM pairKA holdA l
abbrev donesE (l : List (Sum × Done_)) : List (AV × AV) := encM sumA doneA l
abbrev spentE (l : List (Ref_ × Spend_)) : List (AV × AV) := encM refA spendA l
theorem nbK_ref {V : Type} {vA : V → AV} {m : Nat} (l : List (Ref_ × V)) : AV.nbs m ((encM refA vA l).map (·.1)) = True := nb_encK (fun k => by rw [nb_ref]; trivial) l
theorem nbK_int {V : Type} {vA : V → AV} {m : Nat} (l : List (Int × V)) : AV.nbs m ((encM n64 vA l).map (·.1)) = True := nb_encK (fun k => by simp [AV.nb]) l
theorem nbK_pair {V : Type} {vA : V → AV} {m : Nat} (l : List ((Int × Int) × V)) : AV.nbs m ((encM pairKA vA l).map (·.1)) = True := nb_encK (fun k => by rw [nb_pairK]; trivial) l
theorem nbK_sum {V : Type} {vA : V → AV} {m : Nat} (l : List (Sum × V)) : AV.nbs m ((encM sumA vA l).map (·.1)) = True := nb_encK (fun k => by rw [nb_sum]; trivial) l
theorem nbV_coin {K : Type} {kA : K → AV} {m : Nat} (l : List (K × Coin_)) : AV.nbs m ((encM kA coinA l).map (·.2)) = True := nb_encV (fun k => by rw [nb_coin]; trivial) l
theorem nbV_tow {K : Type} {kA : K → AV} {m : Nat} (l : List (K × Tw_)) : AV.nbs m ((encM kA towA l).map (·.2)) = True := nb_encV (fun k => by rw [nb_tow]; trivial) l
theorem nbV_hold {K : Type} {kA : K → AV} {m : Nat} (l : List (K × Hold_)) : AV.nbs m ((encM kA holdA l).map (·.2)) = True := nb_encV (fun k => by rw [nb_hold]; trivial) l
theorem nbV_done {K : Type} {kA : K → AV} {m : Nat} (l : List (K × Done_)) : AV.nbs m ((encM kA doneA l).map (·.2)) = True := nb_encV (fun k => by rw [nb_done]; trivial) l
theorem nbV_spend {K : Type} {kA : K → AV} {m : Nat} (l : List (K × Spend_)) : AV.nbs m ((encM kA spendA l).map (·.2)) = True := nb_encV (fun k => by rw [nb_spend]; trivial) l
theorem cmp_sumA {P : Program} {T : TypeId} {s : Sum} {n : Nat} (h : isSumT P T = true) : cmpOK P (n + 2) T (sumA s) = True := cmp_sumN h
theorem isS : isSumT Tryz.prog 23 = true := by kernel_rfl
/-- sums are keys -/
theorem k1_sum (s : Sum) : keyOK Tryz.prog 23 (sumA s) = True := by
  simp only [eq_iff_iff, iff_true]
  exact ⟨by simp only [go_sem], by have := cmp_sumA (n := 6) (s := s) isS; rw [eq_iff_iff, iff_true] at this; exact this⟩
theorem k1_ref (r : Ref_) : keyOK Tryz.prog 25 (refA r) = True := by
  simp only [eq_iff_iff, iff_true]
  refine ⟨by simp only [go_sem], ?_⟩
  have hs : cmpOK Tryz.prog 7 23 (sumA r.tx) := by have := cmp_sum7 (s := r.tx) isS; rw [eq_iff_iff, iff_true] at this; exact this
  have hi : cmpOK Tryz.prog 7 3 (n64 r.at_) := by simp only [go_sem]
  have ht : tcmp Tryz.prog 25 = some [(0, 23), (32, 3)] := by kernel_rfl
  have hz : tsz Tryz.prog 25 = some 33 := by kernel_rfl
  rw [cmpOK]
  generalize cmpOK Tryz.prog 7 = C at *
  refine ⟨hz, ?_⟩
  simp only [ht]
  have e1 := sum_csz r.tx
  refine ⟨rfl, ?_, ?_, hs, ?_, ?_, ?_, hi, trivial⟩
  · rw [e1]; kernel_rfl
  · rw [sum_agg]; kernel_rfl
  · show 32 = 0 + _; rw [e1]
  · kernel_rfl
  · kernel_rfl
theorem k1_int (n : Int) : keyOK Tryz.prog 3 (n64 n) = True := by simp only [go_sem]
theorem k1_pair (p : Int × Int) : keyOK Tryz.prog 187 (pairKA p) = True := by
  simp only [eq_iff_iff, iff_true]
  refine ⟨by simp only [go_sem], ?_⟩
  simp only [go_sem]
theorem kk_ref {V : Type} {vA : V → AV} (l : List (Ref_ × V)) : (∀ p ∈ encM refA vA l, keyOK Tryz.prog 25 p.1) = True := enc_keys (fun k => by rw [k1_ref]; trivial) l
theorem kk_sum {V : Type} {vA : V → AV} (l : List (Sum × V)) : (∀ p ∈ encM sumA vA l, keyOK Tryz.prog 23 p.1) = True := enc_keys (fun k => by rw [k1_sum]; trivial) l
theorem kk_int {V : Type} {vA : V → AV} (l : List (Int × V)) : (∀ p ∈ encM n64 vA l, keyOK Tryz.prog 3 p.1) = True := enc_keys (fun k => by rw [k1_int]; trivial) l
theorem kk_pair {V : Type} {vA : V → AV} (l : List ((Int × Int) × V)) : (∀ p ∈ encM pairKA vA l, keyOK Tryz.prog 187 p.1) = True := enc_keys (fun k => by rw [k1_pair]; trivial) l
theorem enc_nil {K V : Type} {kA : K → AV} {vA : V → AV} : encM kA vA [] = [] := rfl
theorem ltF {a nx : Nat} (h : a < nx) : (∀ k, (a = nx + k) = False) ∧ (∀ k, (nx + k = a) = False) ∧ (a = nx) = False ∧ (nx = a) = False := by
  refine ⟨fun k => ?_, fun k => ?_, ?_, ?_⟩ <;> (simp only [eq_iff_iff, iff_false]; omega)
theorem neF {a b : Nat} (h : a ≠ b) : (a = b) = False ∧ (b = a) = False := ⟨by simp [h], by simp [Ne.symm h]⟩
theorem refA_good (r : Ref_) : (refA r).good = true := rfl
theorem refA_agg (r : Ref_) : (refA r).isAgg = true := rfl
theorem refA_csz (r : Ref_) : (refA r).csize = 33 := rfl
theorem outA_good (r : Out_) : (outA r).good = true := rfl
theorem outA_agg (r : Out_) : (outA r).isAgg = true := rfl
theorem outA_csz (r : Out_) : (outA r).csize = 2 := rfl
theorem coinA_good (r : Coin_) : (coinA r).good = true := rfl
theorem coinA_agg (r : Coin_) : (coinA r).isAgg = true := rfl
theorem coinA_csz (r : Coin_) : (coinA r).csize = 3 := rfl
theorem towA_good (r : Tw_) : (towA r).good = true := rfl
theorem towA_agg (r : Tw_) : (towA r).isAgg = true := rfl
theorem towA_csz (r : Tw_) : (towA r).csize = 35 := rfl
theorem holdA_good (r : Hold_) : (holdA r).good = true := rfl
theorem holdA_agg (r : Hold_) : (holdA r).isAgg = true := rfl
theorem holdA_csz (r : Hold_) : (holdA r).csize = 74 := rfl
theorem doneA_good (r : Done_) : (doneA r).good = true := rfl
theorem doneA_agg (r : Done_) : (doneA r).isAgg = true := rfl
theorem doneA_csz (r : Done_) : (doneA r).csize = 41 := rfl
theorem spendA_good (r : Spend_) : (spendA r).good = true := rfl
theorem spendA_agg (r : Spend_) : (spendA r).isAgg = true := rfl
theorem spendA_csz (r : Spend_) : (spendA r).csize = 34 := rfl
theorem sumA_good (r : Sum) : (sumA r).good = true := rfl
/-- coins, and none -/
def optC : Option Coin_ → AV
  | some c => coinA c
  | none => .agg 3 [.agg 2 [n64 0, .sl 35 [] 1], n64 0]
def optT : Option Tw_ → AV
  | some c => towA c
  | none => towA ⟨zeroS, 0, 0, 0⟩
def optH : Option Hold_ → AV
  | some c => holdA c
  | none => holdA ⟨⟨0, 0, 0, ⟨zeroS, 0⟩, 0, 0, 0⟩, 0, false, 0, zeroS⟩
def optD : Option Done_ → AV
  | some c => doneA c
  | none => .agg 41 [.agg 40 [.sl 35 [] 1, .sl 2 [] 1, .agg 37 [n64 0, n64 0, n64 0, n64 0, sumA zeroS, .sl 1 [] 1], .sl 33 [] 1], n64 0]
def optS : Option Spend_ → AV
  | some c => spendA c
  | none => spendA ⟨zeroS, 0, 0⟩
end Go.Proofs.YthfoeaokfhbdaaaGreat

/-
  A channel is read.
-/
set_option linter.unusedSimpArgs false
set_option linter.unusedVariables false
set_option maxRecDepth 100000
set_option maxHeartbeats 2000000
namespace Go.Proofs.YthfoeaokfhbdaaaGreat
open Go Go.AL Go.Proofs.YthfoeaokfhbdaaaGreat.T
attribute [local go_sem] nb_u8s u8s_length nb_sum List.length_replicate zero_sum sum_h u8s_nil sum_csz sum_agg sumA_good nb_eye
theorem chanZ_A : AV.agg 39 [n64 0, n64 0, n64 0, .agg 33 [sumA zeroS, n64 0], n64 0, n64 0, n64 0] = chanA chanZ0 := rfl
theorem rchan_spec (nx : Nat) (b : List UInt8) (hb : b.length < 2 ^ 40) : FnSpec Tryz.prog 22 nx [.sl 1 (u8s b) 0] [] (.tup [chanA (rdC b).1, n64 (rdC b).2]) [] 0 := by
  obtain ⟨a, ha⟩ : ∃ a, a = uptoS ⟨b, 0⟩ 1048576 := ⟨_, rfl⟩
  obtain ⟨c, hc⟩ : ∃ c, c = uptoS a.2 255 := ⟨_, rfl⟩
  obtain ⟨p, hp⟩ : ∃ p, p = uptoS c.2 255 := ⟨_, rfl⟩
  obtain ⟨t, ht⟩ : ∃ t, t = esumS p.2 := ⟨_, rfl⟩
  obtain ⟨i, hi⟩ : ∃ i, i = uptoS t.2 16 := ⟨_, rfl⟩
  obtain ⟨k, hk⟩ : ∃ k, k = uptoS i.2 1125899906842624 := ⟨_, rfl⟩
  obtain ⟨w, hw⟩ : ∃ w, w = uptoS k.2 1073741824 := ⟨_, rfl⟩
  obtain ⟨v, hv⟩ : ∃ v, v = uptoS w.2 1073741824 := ⟨_, rfl⟩
  have hr : readC b = (⟨a.1, c.1, p.1, ⟨t.1, i.1⟩, k.1, w.1, v.1⟩, doneS v.2) := by rw [hv, hw, hk, hi, ht, hp, hc, ha]; rfl
  have l1 := uptoS_len ⟨b, 0⟩ 1048576
  have l2 := uptoS_len a.2 255
  have l3 := uptoS_len c.2 255
  have l4 := esumS_len p.2
  have l5 := uptoS_len t.2 16
  have l6 := uptoS_len i.2 1125899906842624
  have l7 := uptoS_len k.2 1073741824
  rw [← ha] at l1
  rw [← hc] at l2
  rw [← hp] at l3
  rw [← ht] at l4
  rw [← hi] at l5
  rw [← hk] at l6
  rw [← hw] at l7
  simp only at l1
  have hrr : rdC b = if doneS v.2 = 0 then (@ite _ (chanR ⟨a.1, c.1, p.1, ⟨t.1, i.1⟩, k.1, w.1, v.1⟩) (Classical.propDecidable _) (⟨a.1, c.1, p.1, ⟨t.1, i.1⟩, k.1, w.1, v.1⟩, 0) (chanZ0, 4)) else (chanZ0, doneS v.2) := by unfold rdC; rw [hr]
  have hch := fun nc => chanR_spec nc ⟨a.1, c.1, p.1, ⟨t.1, i.1⟩, k.1, w.1, v.1⟩
  have z1 := fun nc m (q : m < nc) => upto_spec nc m ⟨b, 0⟩ 1048576 q hb
  have z2 := fun nc m (q : m < nc) => upto_spec nc m a.2 255 q (by omega)
  have z3 := fun nc m (q : m < nc) => upto_spec nc m c.2 255 q (by omega)
  have z4 := fun nc m (q : m < nc) => esum_spec nc m p.2 q (by omega)
  have z5 := fun nc m (q : m < nc) => upto_spec nc m t.2 16 q (by omega)
  have z6 := fun nc m (q : m < nc) => upto_spec nc m i.2 1125899906842624 q (by omega)
  have z7 := fun nc m (q : m < nc) => upto_spec nc m k.2 1073741824 q (by omega)
  have z8 := fun nc m (q : m < nc) => upto_spec nc m w.2 1073741824 q (by omega)
  have z9 := fun nc m (q : m < nc) => done_spec nc m v.2 q
  rw [← ha] at z1
  rw [← hc] at z2
  rw [← hp] at z3
  rw [← ht] at z4
  rw [← hi] at z5
  rw [← hk] at z6
  rw [← hw] at z7
  rw [← hv] at z8
  clear ha hc hp ht hi hk hw hv hr
  simp only [chanA, refA] at hch
  rw [hrr]
  by_cases hd : doneS v.2 = 0
  · rw [hd] at z9
    rw [if_pos hd]
    by_cases hR : chanR ⟨a.1, c.1, p.1, ⟨t.1, i.1⟩, k.1, w.1, v.1⟩
    · rw [if_pos hR]
      rw [decide_eq_true hR] at hch
      refine FnSpec.of_code (cx := cx) (an := {}) (rs := [.cell 2 66, .tmp 3]) mo Tryz.func22 rfl rfl (by kernel_rfl) (by kernel_rfl) (by show 1 ≤ _; decide) (.inr ⟨_, rfl, by simp [AV.good, chanA]⟩) (by simp [allWr, keys, Res.wr]) ?_
      repeat' (first | omega | assumption | (show AL.ahead _ _ _ = true; rfl) | refine brF (fun _ => ?_) (fun _ => ?_) | refine brT (fun _ => ?_) (fun _ => ?_) | refine brVF (fun _ => ?_) (fun _ => ?_) | refine brVT (fun _ => ?_) (fun _ => ?_) | (with_reducible refine And.intro ?_ ?_) | (refine callK_by (look_spec _ b) ?_) | (simp -dsimp -implicitDefEqProofs only [go_sem, ↓reduceIte, Nat.reduceEqDiff, Nat.reduceAdd, Nat.reduceMul, Nat.reduceLeDiff, Nat.reduceLT, Nat.reduceBEq, Nat.reducePow, Int.reduceToNat, Int.reduceLE, Int.reduceLT, Int.reduceNeg, reduceCtorEq, Int.reduceEq, Int.reduceAdd, Int.reduceSub, Int.reduceMul, Nat.reduceSub]))
      refine callK_by (z1 _ (nx + 64) (by omega)) ?_
      repeat' (first | omega | assumption | (show AL.ahead _ _ _ = true; rfl) | refine brF (fun _ => ?_) (fun _ => ?_) | refine brT (fun _ => ?_) (fun _ => ?_) | refine brVF (fun _ => ?_) (fun _ => ?_) | refine brVT (fun _ => ?_) (fun _ => ?_) | (with_reducible refine And.intro ?_ ?_) | (simp -dsimp -implicitDefEqProofs only [go_sem, ↓reduceIte, Nat.reduceEqDiff, Nat.reduceAdd, Nat.reduceMul, Nat.reduceLeDiff, Nat.reduceLT, Nat.reduceBEq, Nat.reducePow, Int.reduceToNat, Int.reduceLE, Int.reduceLT, Int.reduceNeg, reduceCtorEq, Int.reduceEq, Int.reduceAdd, Int.reduceSub, Int.reduceMul, Nat.reduceSub]))
      refine callK_by (z2 _ (nx + 64) (by omega)) ?_
      repeat' (first | omega | assumption | (show AL.ahead _ _ _ = true; rfl) | refine brF (fun _ => ?_) (fun _ => ?_) | refine brT (fun _ => ?_) (fun _ => ?_) | refine brVF (fun _ => ?_) (fun _ => ?_) | refine brVT (fun _ => ?_) (fun _ => ?_) | (with_reducible refine And.intro ?_ ?_) | (simp -dsimp -implicitDefEqProofs only [go_sem, ↓reduceIte, Nat.reduceEqDiff, Nat.reduceAdd, Nat.reduceMul, Nat.reduceLeDiff, Nat.reduceLT, Nat.reduceBEq, Nat.reducePow, Int.reduceToNat, Int.reduceLE, Int.reduceLT, Int.reduceNeg, reduceCtorEq, Int.reduceEq, Int.reduceAdd, Int.reduceSub, Int.reduceMul, Nat.reduceSub]))
      refine callK_by (z3 _ (nx + 64) (by omega)) ?_
      repeat' (first | omega | assumption | (show AL.ahead _ _ _ = true; rfl) | refine brF (fun _ => ?_) (fun _ => ?_) | refine brT (fun _ => ?_) (fun _ => ?_) | refine brVF (fun _ => ?_) (fun _ => ?_) | refine brVT (fun _ => ?_) (fun _ => ?_) | (with_reducible refine And.intro ?_ ?_) | (simp -dsimp -implicitDefEqProofs only [go_sem, ↓reduceIte, Nat.reduceEqDiff, Nat.reduceAdd, Nat.reduceMul, Nat.reduceLeDiff, Nat.reduceLT, Nat.reduceBEq, Nat.reducePow, Int.reduceToNat, Int.reduceLE, Int.reduceLT, Int.reduceNeg, reduceCtorEq, Int.reduceEq, Int.reduceAdd, Int.reduceSub, Int.reduceMul, Nat.reduceSub]))
      refine callK_by (z4 _ (nx + 64) (by omega)) ?_
      repeat' (first | omega | assumption | (show AL.ahead _ _ _ = true; rfl) | refine brF (fun _ => ?_) (fun _ => ?_) | refine brT (fun _ => ?_) (fun _ => ?_) | refine brVF (fun _ => ?_) (fun _ => ?_) | refine brVT (fun _ => ?_) (fun _ => ?_) | (with_reducible refine And.intro ?_ ?_) | (simp -dsimp -implicitDefEqProofs only [go_sem, ↓reduceIte, Nat.reduceEqDiff, Nat.reduceAdd, Nat.reduceMul, Nat.reduceLeDiff, Nat.reduceLT, Nat.reduceBEq, Nat.reducePow, Int.reduceToNat, Int.reduceLE, Int.reduceLT, Int.reduceNeg, reduceCtorEq, Int.reduceEq, Int.reduceAdd, Int.reduceSub, Int.reduceMul, Nat.reduceSub]))
      refine callK_by (z5 _ (nx + 64) (by omega)) ?_
      repeat' (first | omega | assumption | (show AL.ahead _ _ _ = true; rfl) | refine brF (fun _ => ?_) (fun _ => ?_) | refine brT (fun _ => ?_) (fun _ => ?_) | refine brVF (fun _ => ?_) (fun _ => ?_) | refine brVT (fun _ => ?_) (fun _ => ?_) | (with_reducible refine And.intro ?_ ?_) | (simp -dsimp -implicitDefEqProofs only [go_sem, ↓reduceIte, Nat.reduceEqDiff, Nat.reduceAdd, Nat.reduceMul, Nat.reduceLeDiff, Nat.reduceLT, Nat.reduceBEq, Nat.reducePow, Int.reduceToNat, Int.reduceLE, Int.reduceLT, Int.reduceNeg, reduceCtorEq, Int.reduceEq, Int.reduceAdd, Int.reduceSub, Int.reduceMul, Nat.reduceSub]))
      refine callK_by (z6 _ (nx + 64) (by omega)) ?_
      repeat' (first | omega | assumption | (show AL.ahead _ _ _ = true; rfl) | refine brF (fun _ => ?_) (fun _ => ?_) | refine brT (fun _ => ?_) (fun _ => ?_) | refine brVF (fun _ => ?_) (fun _ => ?_) | refine brVT (fun _ => ?_) (fun _ => ?_) | (with_reducible refine And.intro ?_ ?_) | (simp -dsimp -implicitDefEqProofs only [go_sem, ↓reduceIte, Nat.reduceEqDiff, Nat.reduceAdd, Nat.reduceMul, Nat.reduceLeDiff, Nat.reduceLT, Nat.reduceBEq, Nat.reducePow, Int.reduceToNat, Int.reduceLE, Int.reduceLT, Int.reduceNeg, reduceCtorEq, Int.reduceEq, Int.reduceAdd, Int.reduceSub, Int.reduceMul, Nat.reduceSub]))
      refine callK_by (z7 _ (nx + 64) (by omega)) ?_
      repeat' (first | omega | assumption | (show AL.ahead _ _ _ = true; rfl) | refine brF (fun _ => ?_) (fun _ => ?_) | refine brT (fun _ => ?_) (fun _ => ?_) | refine brVF (fun _ => ?_) (fun _ => ?_) | refine brVT (fun _ => ?_) (fun _ => ?_) | (with_reducible refine And.intro ?_ ?_) | (simp -dsimp -implicitDefEqProofs only [go_sem, ↓reduceIte, Nat.reduceEqDiff, Nat.reduceAdd, Nat.reduceMul, Nat.reduceLeDiff, Nat.reduceLT, Nat.reduceBEq, Nat.reducePow, Int.reduceToNat, Int.reduceLE, Int.reduceLT, Int.reduceNeg, reduceCtorEq, Int.reduceEq, Int.reduceAdd, Int.reduceSub, Int.reduceMul, Nat.reduceSub]))
      refine callK_by (z8 _ (nx + 64) (by omega)) ?_
      repeat' (first | omega | assumption | (show AL.ahead _ _ _ = true; rfl) | refine brF (fun _ => ?_) (fun _ => ?_) | refine brT (fun _ => ?_) (fun _ => ?_) | refine brVF (fun _ => ?_) (fun _ => ?_) | refine brVT (fun _ => ?_) (fun _ => ?_) | (with_reducible refine And.intro ?_ ?_) | (simp -dsimp -implicitDefEqProofs only [go_sem, ↓reduceIte, Nat.reduceEqDiff, Nat.reduceAdd, Nat.reduceMul, Nat.reduceLeDiff, Nat.reduceLT, Nat.reduceBEq, Nat.reducePow, Int.reduceToNat, Int.reduceLE, Int.reduceLT, Int.reduceNeg, reduceCtorEq, Int.reduceEq, Int.reduceAdd, Int.reduceSub, Int.reduceMul, Nat.reduceSub]))
      refine callK_by (z9 _ (nx + 64) (by omega)) ?_
      repeat' (first | omega | assumption | (show AL.ahead _ _ _ = true; rfl) | refine brF (fun _ => ?_) (fun _ => ?_) | refine brT (fun _ => ?_) (fun _ => ?_) | refine brVF (fun _ => ?_) (fun _ => ?_) | refine brVT (fun _ => ?_) (fun _ => ?_) | (with_reducible refine And.intro ?_ ?_) | (refine callK_by (hch _) ?_) | (simp -dsimp -implicitDefEqProofs only [go_sem, ↓reduceIte, Nat.reduceEqDiff, Nat.reduceAdd, Nat.reduceMul, Nat.reduceLeDiff, Nat.reduceLT, Nat.reduceBEq, Nat.reducePow, Int.reduceToNat, Int.reduceLE, Int.reduceLT, Int.reduceNeg, reduceCtorEq, Int.reduceEq, Int.reduceAdd, Int.reduceSub, Int.reduceMul, Nat.reduceSub, chanA, refA]))
      all_goals first | rfl | trace_state
    · rw [if_neg hR]
      rw [decide_eq_false hR] at hch
      refine FnSpec.of_code (cx := cx) (an := {}) (rs := [.cell 2 66, .tmp 3]) mo Tryz.func22 rfl rfl (by kernel_rfl) (by kernel_rfl) (by show 1 ≤ _; decide) (.inr ⟨_, rfl, by simp [AV.good, chanA]⟩) (by simp [allWr, keys, Res.wr]) ?_
      repeat' (first | omega | assumption | (show AL.ahead _ _ _ = true; rfl) | refine brF (fun _ => ?_) (fun _ => ?_) | refine brT (fun _ => ?_) (fun _ => ?_) | refine brVF (fun _ => ?_) (fun _ => ?_) | refine brVT (fun _ => ?_) (fun _ => ?_) | (with_reducible refine And.intro ?_ ?_) | (refine callK_by (look_spec _ b) ?_) | (simp -dsimp -implicitDefEqProofs only [go_sem, ↓reduceIte, Nat.reduceEqDiff, Nat.reduceAdd, Nat.reduceMul, Nat.reduceLeDiff, Nat.reduceLT, Nat.reduceBEq, Nat.reducePow, Int.reduceToNat, Int.reduceLE, Int.reduceLT, Int.reduceNeg, reduceCtorEq, Int.reduceEq, Int.reduceAdd, Int.reduceSub, Int.reduceMul, Nat.reduceSub]))
      refine callK_by (z1 _ (nx + 64) (by omega)) ?_
      repeat' (first | omega | assumption | (show AL.ahead _ _ _ = true; rfl) | refine brF (fun _ => ?_) (fun _ => ?_) | refine brT (fun _ => ?_) (fun _ => ?_) | refine brVF (fun _ => ?_) (fun _ => ?_) | refine brVT (fun _ => ?_) (fun _ => ?_) | (with_reducible refine And.intro ?_ ?_) | (simp -dsimp -implicitDefEqProofs only [go_sem, ↓reduceIte, Nat.reduceEqDiff, Nat.reduceAdd, Nat.reduceMul, Nat.reduceLeDiff, Nat.reduceLT, Nat.reduceBEq, Nat.reducePow, Int.reduceToNat, Int.reduceLE, Int.reduceLT, Int.reduceNeg, reduceCtorEq, Int.reduceEq, Int.reduceAdd, Int.reduceSub, Int.reduceMul, Nat.reduceSub]))
      refine callK_by (z2 _ (nx + 64) (by omega)) ?_
      repeat' (first | omega | assumption | (show AL.ahead _ _ _ = true; rfl) | refine brF (fun _ => ?_) (fun _ => ?_) | refine brT (fun _ => ?_) (fun _ => ?_) | refine brVF (fun _ => ?_) (fun _ => ?_) | refine brVT (fun _ => ?_) (fun _ => ?_) | (with_reducible refine And.intro ?_ ?_) | (simp -dsimp -implicitDefEqProofs only [go_sem, ↓reduceIte, Nat.reduceEqDiff, Nat.reduceAdd, Nat.reduceMul, Nat.reduceLeDiff, Nat.reduceLT, Nat.reduceBEq, Nat.reducePow, Int.reduceToNat, Int.reduceLE, Int.reduceLT, Int.reduceNeg, reduceCtorEq, Int.reduceEq, Int.reduceAdd, Int.reduceSub, Int.reduceMul, Nat.reduceSub]))
      refine callK_by (z3 _ (nx + 64) (by omega)) ?_
      repeat' (first | omega | assumption | (show AL.ahead _ _ _ = true; rfl) | refine brF (fun _ => ?_) (fun _ => ?_) | refine brT (fun _ => ?_) (fun _ => ?_) | refine brVF (fun _ => ?_) (fun _ => ?_) | refine brVT (fun _ => ?_) (fun _ => ?_) | (with_reducible refine And.intro ?_ ?_) | (simp -dsimp -implicitDefEqProofs only [go_sem, ↓reduceIte, Nat.reduceEqDiff, Nat.reduceAdd, Nat.reduceMul, Nat.reduceLeDiff, Nat.reduceLT, Nat.reduceBEq, Nat.reducePow, Int.reduceToNat, Int.reduceLE, Int.reduceLT, Int.reduceNeg, reduceCtorEq, Int.reduceEq, Int.reduceAdd, Int.reduceSub, Int.reduceMul, Nat.reduceSub]))
      refine callK_by (z4 _ (nx + 64) (by omega)) ?_
      repeat' (first | omega | assumption | (show AL.ahead _ _ _ = true; rfl) | refine brF (fun _ => ?_) (fun _ => ?_) | refine brT (fun _ => ?_) (fun _ => ?_) | refine brVF (fun _ => ?_) (fun _ => ?_) | refine brVT (fun _ => ?_) (fun _ => ?_) | (with_reducible refine And.intro ?_ ?_) | (simp -dsimp -implicitDefEqProofs only [go_sem, ↓reduceIte, Nat.reduceEqDiff, Nat.reduceAdd, Nat.reduceMul, Nat.reduceLeDiff, Nat.reduceLT, Nat.reduceBEq, Nat.reducePow, Int.reduceToNat, Int.reduceLE, Int.reduceLT, Int.reduceNeg, reduceCtorEq, Int.reduceEq, Int.reduceAdd, Int.reduceSub, Int.reduceMul, Nat.reduceSub]))
      refine callK_by (z5 _ (nx + 64) (by omega)) ?_
      repeat' (first | omega | assumption | (show AL.ahead _ _ _ = true; rfl) | refine brF (fun _ => ?_) (fun _ => ?_) | refine brT (fun _ => ?_) (fun _ => ?_) | refine brVF (fun _ => ?_) (fun _ => ?_) | refine brVT (fun _ => ?_) (fun _ => ?_) | (with_reducible refine And.intro ?_ ?_) | (simp -dsimp -implicitDefEqProofs only [go_sem, ↓reduceIte, Nat.reduceEqDiff, Nat.reduceAdd, Nat.reduceMul, Nat.reduceLeDiff, Nat.reduceLT, Nat.reduceBEq, Nat.reducePow, Int.reduceToNat, Int.reduceLE, Int.reduceLT, Int.reduceNeg, reduceCtorEq, Int.reduceEq, Int.reduceAdd, Int.reduceSub, Int.reduceMul, Nat.reduceSub]))
      refine callK_by (z6 _ (nx + 64) (by omega)) ?_
      repeat' (first | omega | assumption | (show AL.ahead _ _ _ = true; rfl) | refine brF (fun _ => ?_) (fun _ => ?_) | refine brT (fun _ => ?_) (fun _ => ?_) | refine brVF (fun _ => ?_) (fun _ => ?_) | refine brVT (fun _ => ?_) (fun _ => ?_) | (with_reducible refine And.intro ?_ ?_) | (simp -dsimp -implicitDefEqProofs only [go_sem, ↓reduceIte, Nat.reduceEqDiff, Nat.reduceAdd, Nat.reduceMul, Nat.reduceLeDiff, Nat.reduceLT, Nat.reduceBEq, Nat.reducePow, Int.reduceToNat, Int.reduceLE, Int.reduceLT, Int.reduceNeg, reduceCtorEq, Int.reduceEq, Int.reduceAdd, Int.reduceSub, Int.reduceMul, Nat.reduceSub]))
      refine callK_by (z7 _ (nx + 64) (by omega)) ?_
      repeat' (first | omega | assumption | (show AL.ahead _ _ _ = true; rfl) | refine brF (fun _ => ?_) (fun _ => ?_) | refine brT (fun _ => ?_) (fun _ => ?_) | refine brVF (fun _ => ?_) (fun _ => ?_) | refine brVT (fun _ => ?_) (fun _ => ?_) | (with_reducible refine And.intro ?_ ?_) | (simp -dsimp -implicitDefEqProofs only [go_sem, ↓reduceIte, Nat.reduceEqDiff, Nat.reduceAdd, Nat.reduceMul, Nat.reduceLeDiff, Nat.reduceLT, Nat.reduceBEq, Nat.reducePow, Int.reduceToNat, Int.reduceLE, Int.reduceLT, Int.reduceNeg, reduceCtorEq, Int.reduceEq, Int.reduceAdd, Int.reduceSub, Int.reduceMul, Nat.reduceSub]))
      refine callK_by (z8 _ (nx + 64) (by omega)) ?_
      repeat' (first | omega | assumption | (show AL.ahead _ _ _ = true; rfl) | refine brF (fun _ => ?_) (fun _ => ?_) | refine brT (fun _ => ?_) (fun _ => ?_) | refine brVF (fun _ => ?_) (fun _ => ?_) | refine brVT (fun _ => ?_) (fun _ => ?_) | (with_reducible refine And.intro ?_ ?_) | (simp -dsimp -implicitDefEqProofs only [go_sem, ↓reduceIte, Nat.reduceEqDiff, Nat.reduceAdd, Nat.reduceMul, Nat.reduceLeDiff, Nat.reduceLT, Nat.reduceBEq, Nat.reducePow, Int.reduceToNat, Int.reduceLE, Int.reduceLT, Int.reduceNeg, reduceCtorEq, Int.reduceEq, Int.reduceAdd, Int.reduceSub, Int.reduceMul, Nat.reduceSub]))
      refine callK_by (z9 _ (nx + 64) (by omega)) ?_
      repeat' (first | omega | assumption | (show AL.ahead _ _ _ = true; rfl) | refine brF (fun _ => ?_) (fun _ => ?_) | refine brT (fun _ => ?_) (fun _ => ?_) | refine brVF (fun _ => ?_) (fun _ => ?_) | refine brVT (fun _ => ?_) (fun _ => ?_) | (with_reducible refine And.intro ?_ ?_) | (refine callK_by (hch _) ?_) | (simp -dsimp -implicitDefEqProofs only [go_sem, ↓reduceIte, Nat.reduceEqDiff, Nat.reduceAdd, Nat.reduceMul, Nat.reduceLeDiff, Nat.reduceLT, Nat.reduceBEq, Nat.reducePow, Int.reduceToNat, Int.reduceLE, Int.reduceLT, Int.reduceNeg, reduceCtorEq, Int.reduceEq, Int.reduceAdd, Int.reduceSub, Int.reduceMul, Nat.reduceSub, chanA, refA, chanZ0]))
      all_goals first | rfl | trace_state
  · rw [if_neg hd]
    refine FnSpec.of_code (cx := cx) (an := {}) (rs := [.cell 2 66, .tmp 3]) mo Tryz.func22 rfl rfl (by kernel_rfl) (by kernel_rfl) (by show 1 ≤ _; decide) (.inr ⟨_, rfl, by simp [AV.good, chanA]⟩) (by simp [allWr, keys, Res.wr]) ?_
    repeat' (first | omega | assumption | (show AL.ahead _ _ _ = true; rfl) | refine brF (fun _ => ?_) (fun _ => ?_) | refine brT (fun _ => ?_) (fun _ => ?_) | refine brVF (fun _ => ?_) (fun _ => ?_) | refine brVT (fun _ => ?_) (fun _ => ?_) | (with_reducible refine And.intro ?_ ?_) | (refine callK_by (look_spec _ b) ?_) | (simp -dsimp -implicitDefEqProofs only [go_sem, ↓reduceIte, Nat.reduceEqDiff, Nat.reduceAdd, Nat.reduceMul, Nat.reduceLeDiff, Nat.reduceLT, Nat.reduceBEq, Nat.reducePow, Int.reduceToNat, Int.reduceLE, Int.reduceLT, Int.reduceNeg, reduceCtorEq, Int.reduceEq, Int.reduceAdd, Int.reduceSub, Int.reduceMul, Nat.reduceSub]))
    refine callK_by (z1 _ (nx + 64) (by omega)) ?_
    repeat' (first | omega | assumption | (show AL.ahead _ _ _ = true; rfl) | refine brF (fun _ => ?_) (fun _ => ?_) | refine brT (fun _ => ?_) (fun _ => ?_) | refine brVF (fun _ => ?_) (fun _ => ?_) | refine brVT (fun _ => ?_) (fun _ => ?_) | (with_reducible refine And.intro ?_ ?_) | (simp -dsimp -implicitDefEqProofs only [go_sem, ↓reduceIte, Nat.reduceEqDiff, Nat.reduceAdd, Nat.reduceMul, Nat.reduceLeDiff, Nat.reduceLT, Nat.reduceBEq, Nat.reducePow, Int.reduceToNat, Int.reduceLE, Int.reduceLT, Int.reduceNeg, reduceCtorEq, Int.reduceEq, Int.reduceAdd, Int.reduceSub, Int.reduceMul, Nat.reduceSub]))
    refine callK_by (z2 _ (nx + 64) (by omega)) ?_
    repeat' (first | omega | assumption | (show AL.ahead _ _ _ = true; rfl) | refine brF (fun _ => ?_) (fun _ => ?_) | refine brT (fun _ => ?_) (fun _ => ?_) | refine brVF (fun _ => ?_) (fun _ => ?_) | refine brVT (fun _ => ?_) (fun _ => ?_) | (with_reducible refine And.intro ?_ ?_) | (simp -dsimp -implicitDefEqProofs only [go_sem, ↓reduceIte, Nat.reduceEqDiff, Nat.reduceAdd, Nat.reduceMul, Nat.reduceLeDiff, Nat.reduceLT, Nat.reduceBEq, Nat.reducePow, Int.reduceToNat, Int.reduceLE, Int.reduceLT, Int.reduceNeg, reduceCtorEq, Int.reduceEq, Int.reduceAdd, Int.reduceSub, Int.reduceMul, Nat.reduceSub]))
    refine callK_by (z3 _ (nx + 64) (by omega)) ?_
    repeat' (first | omega | assumption | (show AL.ahead _ _ _ = true; rfl) | refine brF (fun _ => ?_) (fun _ => ?_) | refine brT (fun _ => ?_) (fun _ => ?_) | refine brVF (fun _ => ?_) (fun _ => ?_) | refine brVT (fun _ => ?_) (fun _ => ?_) | (with_reducible refine And.intro ?_ ?_) | (simp -dsimp -implicitDefEqProofs only [go_sem, ↓reduceIte, Nat.reduceEqDiff, Nat.reduceAdd, Nat.reduceMul, Nat.reduceLeDiff, Nat.reduceLT, Nat.reduceBEq, Nat.reducePow, Int.reduceToNat, Int.reduceLE, Int.reduceLT, Int.reduceNeg, reduceCtorEq, Int.reduceEq, Int.reduceAdd, Int.reduceSub, Int.reduceMul, Nat.reduceSub]))
    refine callK_by (z4 _ (nx + 64) (by omega)) ?_
    repeat' (first | omega | assumption | (show AL.ahead _ _ _ = true; rfl) | refine brF (fun _ => ?_) (fun _ => ?_) | refine brT (fun _ => ?_) (fun _ => ?_) | refine brVF (fun _ => ?_) (fun _ => ?_) | refine brVT (fun _ => ?_) (fun _ => ?_) | (with_reducible refine And.intro ?_ ?_) | (simp -dsimp -implicitDefEqProofs only [go_sem, ↓reduceIte, Nat.reduceEqDiff, Nat.reduceAdd, Nat.reduceMul, Nat.reduceLeDiff, Nat.reduceLT, Nat.reduceBEq, Nat.reducePow, Int.reduceToNat, Int.reduceLE, Int.reduceLT, Int.reduceNeg, reduceCtorEq, Int.reduceEq, Int.reduceAdd, Int.reduceSub, Int.reduceMul, Nat.reduceSub]))
    refine callK_by (z5 _ (nx + 64) (by omega)) ?_
    repeat' (first | omega | assumption | (show AL.ahead _ _ _ = true; rfl) | refine brF (fun _ => ?_) (fun _ => ?_) | refine brT (fun _ => ?_) (fun _ => ?_) | refine brVF (fun _ => ?_) (fun _ => ?_) | refine brVT (fun _ => ?_) (fun _ => ?_) | (with_reducible refine And.intro ?_ ?_) | (simp -dsimp -implicitDefEqProofs only [go_sem, ↓reduceIte, Nat.reduceEqDiff, Nat.reduceAdd, Nat.reduceMul, Nat.reduceLeDiff, Nat.reduceLT, Nat.reduceBEq, Nat.reducePow, Int.reduceToNat, Int.reduceLE, Int.reduceLT, Int.reduceNeg, reduceCtorEq, Int.reduceEq, Int.reduceAdd, Int.reduceSub, Int.reduceMul, Nat.reduceSub]))
    refine callK_by (z6 _ (nx + 64) (by omega)) ?_
    repeat' (first | omega | assumption | (show AL.ahead _ _ _ = true; rfl) | refine brF (fun _ => ?_) (fun _ => ?_) | refine brT (fun _ => ?_) (fun _ => ?_) | refine brVF (fun _ => ?_) (fun _ => ?_) | refine brVT (fun _ => ?_) (fun _ => ?_) | (with_reducible refine And.intro ?_ ?_) | (simp -dsimp -implicitDefEqProofs only [go_sem, ↓reduceIte, Nat.reduceEqDiff, Nat.reduceAdd, Nat.reduceMul, Nat.reduceLeDiff, Nat.reduceLT, Nat.reduceBEq, Nat.reducePow, Int.reduceToNat, Int.reduceLE, Int.reduceLT, Int.reduceNeg, reduceCtorEq, Int.reduceEq, Int.reduceAdd, Int.reduceSub, Int.reduceMul, Nat.reduceSub]))
    refine callK_by (z7 _ (nx + 64) (by omega)) ?_
    repeat' (first | omega | assumption | (show AL.ahead _ _ _ = true; rfl) | refine brF (fun _ => ?_) (fun _ => ?_) | refine brT (fun _ => ?_) (fun _ => ?_) | refine brVF (fun _ => ?_) (fun _ => ?_) | refine brVT (fun _ => ?_) (fun _ => ?_) | (with_reducible refine And.intro ?_ ?_) | (simp -dsimp -implicitDefEqProofs only [go_sem, ↓reduceIte, Nat.reduceEqDiff, Nat.reduceAdd, Nat.reduceMul, Nat.reduceLeDiff, Nat.reduceLT, Nat.reduceBEq, Nat.reducePow, Int.reduceToNat, Int.reduceLE, Int.reduceLT, Int.reduceNeg, reduceCtorEq, Int.reduceEq, Int.reduceAdd, Int.reduceSub, Int.reduceMul, Nat.reduceSub]))
    refine callK_by (z8 _ (nx + 64) (by omega)) ?_
    repeat' (first | omega | assumption | (show AL.ahead _ _ _ = true; rfl) | refine brF (fun _ => ?_) (fun _ => ?_) | refine brT (fun _ => ?_) (fun _ => ?_) | refine brVF (fun _ => ?_) (fun _ => ?_) | refine brVT (fun _ => ?_) (fun _ => ?_) | (with_reducible refine And.intro ?_ ?_) | (simp -dsimp -implicitDefEqProofs only [go_sem, ↓reduceIte, Nat.reduceEqDiff, Nat.reduceAdd, Nat.reduceMul, Nat.reduceLeDiff, Nat.reduceLT, Nat.reduceBEq, Nat.reducePow, Int.reduceToNat, Int.reduceLE, Int.reduceLT, Int.reduceNeg, reduceCtorEq, Int.reduceEq, Int.reduceAdd, Int.reduceSub, Int.reduceMul, Nat.reduceSub]))
    refine callK_by (z9 _ (nx + 64) (by omega)) ?_
    repeat' (first | omega | assumption | (show AL.ahead _ _ _ = true; rfl) | refine brF (fun _ => ?_) (fun _ => ?_) | refine brT (fun _ => ?_) (fun _ => ?_) | refine brVF (fun _ => ?_) (fun _ => ?_) | refine brVT (fun _ => ?_) (fun _ => ?_) | (with_reducible refine And.intro ?_ ?_) | (refine callK_by (hch _) ?_) | (simp -dsimp -implicitDefEqProofs only [go_sem, ↓reduceIte, Nat.reduceEqDiff, Nat.reduceAdd, Nat.reduceMul, Nat.reduceLeDiff, Nat.reduceLT, Nat.reduceBEq, Nat.reducePow, Int.reduceToNat, Int.reduceLE, Int.reduceLT, Int.reduceNeg, reduceCtorEq, Int.reduceEq, Int.reduceAdd, Int.reduceSub, Int.reduceMul, Nat.reduceSub, chanA, refA, chanZ0, hd]))
    all_goals first | rfl | trace_state
end Go.Proofs.YthfoeaokfhbdaaaGreat

/-
 Outs to a key; transactions signed by one key.
-/
import Derived.Test.YthfoeaokfhbdaaaGreatDP12
import Derived.Test.YthfoeaokfhbdaaaGreatAL26
import Derived.Test.YthfoeaokfhbdaaaGreatDP6
set_option linter.unusedSimpArgs false
set_option linter.unusedVariables false
set_option maxRecDepth 100000
set_option maxHeartbeats 8000000
namespace Go.Proofs.YthfoeaokfhbdaaaGreat
open Go Go.AL Go.Proofs.YthfoeaokfhbdaaaGreat.T
attribute [local go_sem] nb_u8s u8s_length nb_sum sumA List.length_replicate zero_sum sum_h nb_vals vals_len u8s_nil
theorem to_spec (nx : Nat) (k a : Int) : FnSpec Tryz.prog 69 nx [n64 k, n64 a] [] (outA ⟨a, [⟨[k], zeroS, 0, 0⟩]⟩) [] 0 := by
 have h : FnSpec Tryz.prog 69 nx [n64 k, n64 a] [] (.agg 2 [n64 a, .sl 35 [.agg 35 [.sl 1 [n64 k] 1, sumA zeroS, n64 0, n64 0]] 1]) [] 0 := by
  refine FnSpec.of_code (cx := cx) (an := {}) (rs := [.cell 4 142]) mo Tryz.func69 rfl rfl (by kernel_rfl) (by kernel_rfl) (by show 2 ≤ _; decide) (.inl rfl) (by simp [allWr, keys, Res.wr]) ?_
  repeat' (first | omega | assumption | (show AL.ahead _ _ _ = true; rfl) | (first | apply brF | apply brT | apply brVF | apply brVT) <;> intro _ | (with_reducible refine And.intro ?_ ?_) | (simp -dsimp -implicitDefEqProofs only [go_sem]))
 exact h.outle ⟨_, rfl, _, _, rfl, AV.le_refl _, _, _, rfl, ⟨_, _, rfl, ⟨_, _, rfl, ⟨_, rfl, _, _, rfl, ⟨_, _, rfl, AV.les_refl _, .inr (.inl rfl)⟩, AV.les_refl _⟩, rfl⟩, .inr (.inl rfl)⟩, rfl⟩
def sg (x : Sign_) : Bool → List AV
 | false => []
 | true => [signA x]
end Go.Proofs.YthfoeaokfhbdaaaGreat

namespace Go.Proofs.YthfoeaokfhbdaaaGreat
open Go Go.AL Go.Proofs.YthfoeaokfhbdaaaGreat.T

def sumsA (l : List Sum) : List AV := l.map sumA
theorem sums_len (l : List Sum) : (sumsA l).length = l.length := by simp [sumsA]
theorem nb_sums {m : Nat} (l : List Sum) : AV.nbs m (sumsA l) = True := by
 simp only [eq_iff_iff, iff_true]
 exact nbs_map (fun s => by rw [nb_sum]; trivial) l
theorem sums_snoc (l : List Sum) (s : Sum) : sumsA l ++ [AV.vec 1 (u8s s.b)] = sumsA (l ++ [s]) := by simp [sumsA, sumA]
abbrev nilP : AV := .val (.pointer none)

end Go.Proofs.YthfoeaokfhbdaaaGreat

namespace Go.Proofs.YthfoeaokfhbdaaaGreat
open Go Go.AL Go.Proofs.YthfoeaokfhbdaaaGreat.T

end Go.Proofs.YthfoeaokfhbdaaaGreat

namespace Go.Proofs.YthfoeaokfhbdaaaGreat
open Go Go.AL Go.Proofs.YthfoeaokfhbdaaaGreat.T

def chanZ : Chan := ⟨0, 0, 0, ⟨zeroS, 0⟩, 0, 0, 0⟩
def isSumT (P : Program) (T : TypeId) : Bool :=
 match tarr P T with
 | some (len, e) => decide (len = 32) && decide (tsz P e = some 1) && decide (tagg P e = some false) && (match tint P e with | some .u8 => true | _ => false)
 | none => false
theorem cmp_sum {P : Program} {T : TypeId} {s : Sum} (h : isSumT P T = true) : cmpOK P 8 T (.vec 1 (u8s s.b)) = True := by
 unfold isSumT at h
 split at h
 ·rename_i len e he
  simp only [Bool.and_eq_true, decide_eq_true_eq] at h
  obtain ⟨⟨⟨h1, h2⟩, h3⟩, h4⟩ := h
  have h5 : tint P e = some .u8 := by
   split at h4
   ·assumption
   ·cases h4
  simp only [eq_iff_iff, iff_true]
  rw [cmpOK]
  simp only [he, h2, h3]
  refine ⟨by rw [u8s_length, s.h, h1], trivial, fun p hp => ?_⟩
  obtain ⟨b, _, rfl⟩ := List.mem_map.1 hp
  exact ⟨rfl, rfl, by simp only [u8, cmpOK]; exact h5⟩
 ·cases h
end Go.Proofs.YthfoeaokfhbdaaaGreat

namespace Go.Proofs.YthfoeaokfhbdaaaGreat
open Go Go.AL Go.Proofs.YthfoeaokfhbdaaaGreat.T
def op0 : Op_ := ⟨0, 0, 0, 0, zeroS, []⟩
def toO (k a : Int) : Out_ := ⟨a, [⟨[k], zeroS, 0, 0⟩]⟩
end Go.Proofs.YthfoeaokfhbdaaaGreat

namespace Go.Proofs.YthfoeaokfhbdaaaGreat
open Go Go.AL Go.Proofs.YthfoeaokfhbdaaaGreat.T
attribute [local go_sem] nb_u8s u8s_length nb_sum sumA List.length_replicate zero_sum sum_h nb_vals vals_len u8s_nil
abbrev chanR (c : Chan) : Prop := 0 ≤ c.id ∧ c.id ≤ 1048576 ∧ 0 ≤ c.client ∧ c.client ≤ 255 ∧ 0 ≤ c.peer ∧ c.peer ≤ 255 ∧ c.client ≠ c.peer ∧ 1 ≤ c.cap ∧ 0 ≤ c.cap ∧ c.cap ≤ 1125899906842624 ∧ 1 ≤ c.window ∧ c.window < c.wait ∧ c.wait ≤ 65536 ∧ 0 ≤ c.fund.at_ ∧ c.fund.at_ < 16
theorem chanR_spec (nx : Nat) (c : Chan) : FnSpec Tryz.prog 24 nx [chanA c] [] (bA (decide (chanR c))) [] 0 := by
  refine FnSpec.of_code (cx := cx) (an := {}) (rs := [.tmp 2]) mo Tryz.func24 rfl rfl (by kernel_rfl) (by kernel_rfl) (by show 1 ≤ _; decide) (.inl rfl) (by simp [allWr, keys, Res.wr]) ?_
  repeat' (first | omega | assumption | (show AL.ahead _ _ _ = true; rfl) | (first | apply brF | apply brT | apply brVF | apply brVT) <;> intro _ | (with_reducible refine And.intro ?_ ?_) | (refine callK_by (coinRight_spec _ c.cap) ?_) | (simp -dsimp -implicitDefEqProofs only [go_sem, chanA, refA, List.append_eq, List.cons_append, List.nil_append]))
  all_goals (simp only [bA, chanR]; congr 2; first | (symm; apply decide_eq_false; omega) | (symm; apply decide_eq_true; omega) | (apply decide_eq_decide.2; omega))
def addF : Int → List Int → Int × Int
  | s, [] => (s, 0)
  | s, a :: r => if 0 ≤ a ∧ a ≤ 1125899906842624 then (if 1125899906842624 < s + a then (0, 10) else addF (s + a) r) else (0, 5)
theorem add_spec (nx : Nat) (l : List Int) (hl : l.length < 2 ^ 40) : FnSpec Tryz.prog 60 nx [.sl 1 (vals .i64 l) 1] [] (.tup [n64 (addF 0 l).1, n64 (addF 0 l).2]) [] 0 := by
  obtain ⟨R, hR⟩ : ∃ R, R = addF 0 l := ⟨_, rfl⟩
  rw [← hR]
  refine FnSpec.of_code (cx := cx) (an := {}) (rs := [.tmp 2, .tmp 3]) mo Tryz.func60 rfl rfl (by kernel_rfl) (by kernel_rfl) (by show 1 ≤ _; decide) (.inr ⟨_, rfl, by simp [AV.good]⟩) (by simp [allWr, keys, Res.wr]) ?_
  repeat' (first | omega | assumption | (show AL.ahead _ _ _ = true; rfl) | (first | apply brF | apply brT | apply brVF | apply brVT) <;> intro _ | (with_reducible refine And.intro ?_ ?_) | (simp -dsimp -implicitDefEqProofs only [go_sem]))
  apply loop_keep [7, 8] (fun p : { p : Nat × Int // p.1 ≤ l.length ∧ 0 ≤ p.2 ∧ p.2 ≤ 1125899906842624 ∧ addF p.2 (l.drop p.1) = R } => [(4, n64 p.1.2), (9, n64 p.1.1)]) (fun _ => []) (fun p => l.length - p.1.1) ⟨(0, 0), Nat.zero_le _, Int.le_refl _, by decide, by rw [hR]; rfl⟩
  · simp -dsimp -implicitDefEqProofs only [go_sem]; try rfl
  · simp -dsimp -implicitDefEqProofs only [go_sem]; try rfl
  · simp -dsimp -implicitDefEqProofs only [go_sem]; try rfl
  · intro s
    simp -dsimp -implicitDefEqProofs only [go_sem]
    try omega
  · rintro ⟨⟨i, x⟩, hi, hx0, hx1, hall⟩
    have hi : i ≤ l.length := hi
    simp only at hx0 hx1 hall
    simp -dsimp -implicitDefEqProofs only [go_sem]
    refine brT (fun hc => ?_) (fun hc => ?_)
    · have hi2 : i < l.length := by omega
      have q1 := vals_get (k := .i64) hi2
      have hd := List.drop_eq_getElem_cons hi2
      have hg : l.getD i 0 = l[i] := by rw [List.getD_eq_getElem?_getD, List.getElem?_eq_getElem hi2]; rfl
      rw [hd] at hall
      rw [hg] at q1
      generalize l[i] = y at *
      have w1 : IntKind.i64.wrap ((i : Int) + 1) = ((i + 1 : Nat) : Int) := wrapE (by omega) (by omega)
      by_cases hy : 0 ≤ y ∧ y ≤ 1125899906842624
      · have w2 : IntKind.i64.wrap (x + y) = x + y := by rw [IntKind.wrap_i64]; omega
        rw [addF, if_pos hy] at hall
        repeat' (first | omega | assumption | (show AL.ahead _ _ _ = true; rfl) | (first | apply brF | apply brT | apply brVF | apply brVT) <;> intro _ | (with_reducible refine And.intro ?_ ?_) | (refine callK_by (coinRight_spec _ y) ?_) | (simp -dsimp -implicitDefEqProofs only [go_sem, q1, w1, w2, decide_eq_true hy]))
        · rename_i hx
          rw [if_pos hx] at hall
          rw [← hall]
        · rename_i hx
          rw [if_neg hx] at hall
          exact ⟨⟨(i + 1, x + y), hi2, by show 0 ≤ x + y; omega, by show x + y ≤ _; omega, hall⟩, by show l.length - (i + 1) < l.length - i; omega, ⟨rfl, rfl⟩⟩
      · rw [addF, if_neg hy] at hall
        repeat' (first | omega | assumption | (show AL.ahead _ _ _ = true; rfl) | (first | apply brF | apply brT | apply brVF | apply brVT) <;> intro _ | (with_reducible refine And.intro ?_ ?_) | (refine callK_by (coinRight_spec _ y) ?_) | (simp -dsimp -implicitDefEqProofs only [go_sem, q1, w1, decide_eq_false hy]))
        rw [← hall]
    · have e : i = l.length := by omega
      subst e
      rw [List.drop_length, addF] at hall
      repeat' (first | omega | assumption | (show AL.ahead _ _ _ = true; rfl) | (first | apply brF | apply brT | apply brVF | apply brVT) <;> intro _ | (with_reducible refine And.intro ?_ ?_) | (simp -dsimp -implicitDefEqProofs only [go_sem]))
      rw [← hall]
structure St_ where
  n : Int
  client : Int
  peer : Int
  h0 : Sum
  h1 : Sum
def stateA (s : St_) : AV := .agg 67 [n64 s.n, n64 s.client, n64 s.peer, .vec 32 [sumA s.h0, sumA s.h1]]
def stP (c : Chan) (s : St_) : Prop := chanR c ∧ 0 ≤ s.n ∧ s.n ≤ 1048576 ∧ eqB (sumA s.h0) (sumA zeroS) = false ∧ eqB (sumA s.h1) (sumA zeroS) = false ∧ (addF 0 [s.client, s.peer]).2 = 0 ∧ (addF 0 [s.client, s.peer]).1 = c.cap
noncomputable def stR (c : Chan) (s : St_) : Bool := @decide (stP c s) (Classical.propDecidable _)
theorem stR_yes {c : Chan} {s : St_} (h : stP c s) : bA (stR c s) = bA true := by unfold stR; rw [@decide_eq_true _ (Classical.propDecidable _) h]
theorem stR_no {c : Chan} {s : St_} (h : ¬ stP c s) : bA (stR c s) = bA false := by unfold stR; rw [@decide_eq_false _ (Classical.propDecidable _) h]
theorem stR_spec (nx : Nat) (c : Chan) (s : St_) : FnSpec Tryz.prog 146 nx [chanA c, stateA s] [] (bA (stR c s)) [] 0 := by
  have hc := fun nc => chanR_spec nc c
  have ha := fun nc => add_spec nc [s.client, s.peer] (by simp)
  simp only [chanA, refA] at hc
  simp only [vals, List.map_cons, List.map_nil] at ha
  refine FnSpec.of_code (cx := cx) (an := {}) (rs := [.tmp 4]) mo Tryz.func146 rfl rfl (by kernel_rfl) (by kernel_rfl) (by show 2 ≤ _; decide) (.inl rfl) (by simp [allWr, keys, Res.wr]) ?_
  repeat' (first | omega | assumption | (show AL.ahead _ _ _ = true; rfl) | (first | apply brF | apply brT | apply brVF | apply brVT) <;> intro _ | (with_reducible refine And.intro ?_ ?_) | (refine callK_by (hc _) ?_) | (refine callK_by (ha _) ?_) | (simp -dsimp -implicitDefEqProofs only [go_sem, chanA, refA, stateA, ↓cmp_sum, isSumT, decide_eq_true_eq, Bool.and_self]))
  all_goals first
    | (refine (stR_no (fun h => ?_)).symm
       obtain ⟨a1, a2, a3, a4, a5, a6, a7⟩ := h
       first | omega | contradiction | (rename_i hx; exact absurd (a4.symm.trans hx) (by decide)) | (rename_i hx; exact absurd (a5.symm.trans hx) (by decide)))
    | (rename_i h1 h2 h3 h4 h5 h6
       by_cases h7 : (addF 0 [s.client, s.peer]).1 = c.cap
       · rw [decide_eq_true h7]; exact (stR_yes ⟨h1, by omega, by omega, h4, h5, h6, h7⟩).symm
       · rw [decide_eq_false h7]; exact (stR_no (fun h => h7 h.2.2.2.2.2.2)).symm)
   
noncomputable def hashS (s : Sum) : Sum := joinS 31 [s.b]
theorem lhash_spec (nx t : Nat) (a : List UInt8) (ha : a.length < 2 ^ 39) (ht : t < 2 ∨ t - 2 < nx) : FnSpec Tryz.prog 161 nx [.sl 1 (u8s a) t] [] (sumA (joinS 31 [a])) [] 0 := by
  have hj := fun nc (h : nx ≤ nc) => join1_spec nc 1 t 31 a ha (by omega) (by omega)
  refine FnSpec.of_code (cx := cx) (an := {}) (rs := [.cell 2 23]) mo Tryz.func161 rfl rfl (by kernel_rfl) (by kernel_rfl) (by show 1 ≤ _; decide) (.inl rfl) (by simp [allWr, keys, Res.wr]) ?_
  repeat' (first | omega | assumption | (show AL.ahead _ _ _ = true; rfl) | (first | apply brF | apply brT | apply brVF | apply brVT) <;> intro _ | (with_reducible refine And.intro ?_ ?_) | (refine callK_by (hj _ (by omega)) ?_) | (simp -dsimp -implicitDefEqProofs only [go_sem]))
theorem shash_spec (nx : Nat) (s : Sum) : FnSpec Tryz.prog 209 nx [sumA s] [] (sumA (hashS s)) [] 0 := by
  have hl := s.h
  refine FnSpec.of_code (cx := cx) (an := {}) (rs := [.cell 2 23]) mo Tryz.func209 rfl rfl (by kernel_rfl) (by kernel_rfl) (by show 1 ≤ _; decide) (.inl rfl) (by simp [allWr, keys, Res.wr]) ?_
  repeat' (first | omega | assumption | (show AL.ahead _ _ _ = true; rfl) | (first | apply brF | apply brT | apply brVF | apply brVT) <;> intro _ | (with_reducible refine And.intro ?_ ?_) | (refine callK_by (lhash_spec _ 1 s.b (by omega) (by omega)) ?_) | (simp -dsimp -implicitDefEqProofs only [go_sem, take32, hashS]))
end Go.Proofs.YthfoeaokfhbdaaaGreat

namespace Go.Proofs.YthfoeaokfhbdaaaGreat
open Go Go.AL Go.Proofs.YthfoeaokfhbdaaaGreat.T
attribute [local go_sem] nb_u8s u8s_length nb_sum sumA List.length_replicate u8_wrap take32 List.drop_zero zero_sum sum_h u8s_cons u8s_one u8_gc u8_gd1 u8_cs1 List.length_append u8s_app penA nb_vals vals_len u8s_nil
structure Rec_ where
 tower : Int
 channel : Int
 state : Int
 hint : Sum
 blob : Sum
def recA (r : Rec_) : AV := .agg 67 [n64 r.tower, n64 r.channel, n64 r.state, sumA r.hint, sumA r.blob]
def recL (r : Rec_) : List UInt8 := [r.tower, r.channel, r.state].flatMap numI ++ r.hint.b ++ r.blob.b
abbrev recR (r : Rec_) : Prop := 0 ≤ r.tower ∧ r.tower < 16 ∧ 0 ≤ r.channel ∧ r.channel ≤ 1048576 ∧ 0 ≤ r.state ∧ r.state ≤ 1048576
theorem recRight_spec (nx : Nat) (r : Rec_) : FnSpec Tryz.prog 214 nx [recA r] [] (bA (decide (recR r))) [] 0 := by
 refine FnSpec.of_code (cx := cx) (an := {}) (rs := [.tmp 2]) mo Tryz.func214 rfl rfl (by kernel_rfl) (by kernel_rfl) (by show 1 ≤ _; decide) (.inl rfl) (by simp [allWr, keys, Res.wr]) ?_
 repeat' (first | omega | assumption | (show AL.ahead _ _ _ = true; rfl) | (first | apply brF | apply brT | apply brVF | apply brVT) <;> intro _ | (with_reducible refine And.intro ?_ ?_) | (simp -dsimp -implicitDefEqProofs only [go_sem, recA]))
 all_goals (simp only [bA, recR]; congr 2; first | (simp; omega) | (apply decide_eq_decide.2; omega))
theorem recText_spec (nx : Nat) (r : Rec_) : FnSpec Tryz.prog 216 nx [recA r] [] (.sl 1 (u8s (recL r)) 0) [] 0 := by
 have h1 := flat_numI [r.tower, r.channel, r.state]
 have h2 := r.hint.h
 have h3 := r.blob.h
 simp only [List.length_cons, List.length_nil] at h1
 have key : FnSpec Tryz.prog 216 nx [recA r] [] (.sl 1 (u8s (recL r)) (nx + 210)) [(nx + 208, some (.tail (recL r).length))] 600 := by
  unfold recL
  refine FnSpec.of_code (cx := cx) (an := {tk := [(3, [([0], 1)])]}) (rs := [.tmp 2]) mo Tryz.func216 rfl rfl (by kernel_rfl) (by kernel_rfl) (by show 1 ≤ _; decide) (.inl rfl) (by simp [allWr, keys, Res.wr]) ?_
  repeat' (first | omega | assumption | (show AL.ahead _ _ _ = true; rfl) | (first | apply brF | apply brT | apply brVF | apply brVT) <;> intro _ | (with_reducible refine And.intro ?_ ?_) | (refine callK_by (nums_spec _ (nx + 16) (nx + 17) 1 [] [r.tower, r.channel, r.state] (by simp) (by omega) (by omega) (by omega) (by omega)) ?_) | (refine callK_by (psum_spec _ (nx + 16) (nx + 17) ([r.tower, r.channel, r.state].flatMap numI) r.hint (by omega) (by omega) (by omega) (by omega)) ?_) | (refine callK_by (psum_spec _ (nx + 16) (nx + 17) ([r.tower, r.channel, r.state].flatMap numI ++ r.hint.b) r.blob (by simp only [List.length_append]; omega) (by omega) (by omega) (by omega)) ?_) | (refine callK_by (bytes_spec _ (nx + 16) (nx + 19) ([r.tower, r.channel, r.state].flatMap numI ++ r.hint.b ++ r.blob.b) (by simp only [List.length_append]; omega) (by omega) (by omega)) ?_) | (simp -dsimp -implicitDefEqProofs only [go_sem, recA]))
 exact key.forget0 ⟨rfl, .inr ⟨.inl rfl, .inl rfl⟩⟩ (by simp [AV.nb, nb_u8s]) (by simp [keys])
structure Proof_ where
 rec_ : Rec_
 sig : List UInt8
 blob : List UInt8
 commit : Sum
def proofA (p : Proof_) : AV := .agg 101 [recA p.rec_, .sl 1 (u8s p.sig) 0, .sl 1 (u8s p.blob) 0, sumA p.commit]
end Go.Proofs.YthfoeaokfhbdaaaGreat

namespace Go.Proofs.YthfoeaokfhbdaaaGreat
open Go Go.AL Go.Proofs.YthfoeaokfhbdaaaGreat.T
structure Held_ where
 rec_ : Rec_
 sig : List UInt8
 blob : List UInt8
def heldA (h : Held_) : AV := .agg 69 [.agg 68 [recA h.rec_, .sl 1 (u8s h.sig) 0], .sl 1 (u8s h.blob) 0]
end Go.Proofs.YthfoeaokfhbdaaaGreat

namespace Go.Proofs.YthfoeaokfhbdaaaGreat
open Go Go.AL Go.Proofs.YthfoeaokfhbdaaaGreat.T
attribute [local go_sem] nb_u8s u8s_length nb_sum sumA List.length_replicate zero_sum sum_h nb_vals vals_len u8s_nil
theorem bnone_nil (nx : Nat) : FnSpec Tryz.prog 84 nx [nilP] [] (bA true) [] 0 := by
 refine FnSpec.of_code (cx := cx) (an := {}) (rs := [.tmp 2]) mo Tryz.func84 rfl rfl (by kernel_rfl) (by kernel_rfl) (by show 1 ≤ _; decide) (.inl rfl) (by simp [allWr, keys, Res.wr]) ?_
 repeat' (first | omega | assumption | (show AL.ahead _ _ _ = true; rfl) | (first | apply brF | apply brT | apply brVF | apply brVT) <;> intro _ | (with_reducible refine And.intro ?_ ?_) | (simp -dsimp -implicitDefEqProofs only [go_sem]))
theorem bchan_nil (nx : Nat) : FnSpec Tryz.prog 36 nx [nilP] [] (.tup [chanA chanZ, bA false]) [] 0 := by
 refine FnSpec.of_code (cx := cx) (an := {}) (rs := [.cell 2 66, .tmp 3]) mo Tryz.func36 rfl rfl (by kernel_rfl) (by kernel_rfl) (by show 1 ≤ _; decide) (.inr ⟨_, rfl, by simp [AV.good, chanA]⟩) (by simp [allWr, keys, Res.wr]) ?_
 repeat' (first | omega | assumption | (show AL.ahead _ _ _ = true; rfl) | (first | apply brF | apply brT | apply brVF | apply brVT) <;> intro _ | (with_reducible refine And.intro ?_ ?_) | (refine callK_by (bnone_nil _) ?_) | (simp -dsimp -implicitDefEqProofs only [go_sem, chanA, refA, chanZ]))
end Go.Proofs.YthfoeaokfhbdaaaGreat

namespace Go.Proofs.YthfoeaokfhbdaaaGreat
open Go Go.AL Go.Proofs.YthfoeaokfhbdaaaGreat.T
attribute [local go_sem] nb_u8s u8s_length nb_sum sumA List.length_replicate zero_sum sum_h nb_vals vals_len u8s_nil
abbrev inR (x : In_) : Prop := 0 ≤ x.ref.at_ ∧ x.ref.at_ < 16 ∧ 0 ≤ x.way ∧ x.way < 16 ∧ x.pre.length ≤ 64
theorem inR_spec (nx : Nat) (x : In_) (h : x.pre.length < 2 ^ 40) : FnSpec Tryz.prog 104 nx [inA x] [] (bA (decide (inR x))) [] 0 := by
 refine FnSpec.of_code (cx := cx) (an := {}) (rs := [.tmp 2]) mo Tryz.func104 rfl rfl (by kernel_rfl) (by kernel_rfl) (by show 1 ≤ _; decide) (.inl rfl) (by simp [allWr, keys, Res.wr]) ?_
 repeat' (first | omega | assumption | (show AL.ahead _ _ _ = true; rfl) | (first | apply brF | apply brT | apply brVF | apply brVT) <;> intro _ | (with_reducible refine And.intro ?_ ?_) | (simp -dsimp -implicitDefEqProofs only [go_sem, inA, refA]))
 all_goals (simp only [bA, inR]; congr 2; first | (simp; omega) | (apply decide_eq_decide.2; omega))
noncomputable def opB (o : Op_) : Bool := if o.kind = 0 then decide (o.tower = 0) && (decide (o.channel = 0) && (decide (o.amount = 0) && (eqB (.vec 1 (u8s o.root.b)) (.vec 1 (u8s zeroS.b)) && decide (o.data.length = 0)))) else
 decide (1 ≤ o.kind ∧ o.kind ≤ 7 ∧ 0 ≤ o.tower ∧ o.tower < 16 ∧ 0 ≤ o.channel ∧ o.channel ≤ 1048576 ∧ 0 ≤ o.amount ∧ o.amount ≤ 1125899906842624 ∧ o.data.length ≤ 65536)
theorem opR_spec (nx : Nat) (o : Op_) (h : o.data.length < 2 ^ 40) : FnSpec Tryz.prog 103 nx [opT o] [] (bA (opB o)) [] 0 := by
 refine FnSpec.of_code (cx := cx) (an := {}) (rs := [.tmp 2]) mo Tryz.func103 rfl rfl (by kernel_rfl) (by kernel_rfl) (by show 1 ≤ _; decide) (.inl rfl) (by simp [allWr, keys, Res.wr]) ?_
 repeat' (first | omega | assumption | (show AL.ahead _ _ _ = true; rfl) | (first | apply brF | apply brT | apply brVF | apply brVT) <;> intro _ | (with_reducible refine And.intro ?_ ?_) | (simp -dsimp -implicitDefEqProofs only [go_sem, opT, ↓cmp_sum, isSumT, decide_eq_true_eq, Bool.and_self]))
 all_goals (simp only [bA]; congr 2; unfold opB; simp [*])
 all_goals first | omega
end Go.Proofs.YthfoeaokfhbdaaaGreat

namespace Go.Proofs.YthfoeaokfhbdaaaGreat
open Go Go.AL Go.Proofs.YthfoeaokfhbdaaaGreat.T
attribute [local go_sem] nb_u8s u8s_length nb_sum sumA List.length_replicate zero_sum sum_h nb_vals vals_len u8s_nil
abbrev keyP (l : List Int) (i : Nat) : Prop := 0 ≤ l.getD i 0 ∧ l.getD i 0 ≤ 255 ∧ (0 < i → l.getD (i - 1) 0 < l.getD i 0)
abbrev wayP (w : Way_) : Prop := w.keys.length ≤ 16 ∧ 0 ≤ w.after ∧ w.after ≤ 1073741824 ∧ 0 ≤ w.wait ∧ w.wait ≤ 1073741824 ∧ ∀ i, i < w.keys.length → keyP w.keys i
theorem wayR_spec (nx : Nat) (w : Way_) (h : w.keys.length < 2 ^ 40) : FnSpec Tryz.prog 160 nx [wayA w] [] (bA (decide (wayP w))) [] 0 := by
  refine FnSpec.of_code (cx := cx) (an := {}) (rs := [.tmp 2]) mo Tryz.func160 rfl rfl (by kernel_rfl) (by kernel_rfl) (by show 1 ≤ _; decide) (.inl rfl) (by simp [allWr, keys, Res.wr]) ?_
  repeat' (first | omega | assumption | (show AL.ahead _ _ _ = true; rfl) | (first | apply brF | apply brT | apply brVF | apply brVT) <;> intro _ | (with_reducible refine And.intro ?_ ?_) | (simp -dsimp -implicitDefEqProofs only [go_sem, wayA]))
  all_goals try (simp only [bA]; congr 2; symm; apply decide_eq_false; rintro ⟨a1, a2, a3, a4, a5, a6⟩; omega)
  apply loop_keep [1, 30, 31] (fun i : { i : Nat // i ≤ w.keys.length ∧ ∀ j, j < i → keyP w.keys j } => [(32, n64 i.1)]) (fun _ => []) (fun i => w.keys.length - i.1) ⟨0, Nat.zero_le _, fun j hj => absurd hj (Nat.not_lt_zero _)⟩
  · simp -dsimp -implicitDefEqProofs only [go_sem]; rfl
  · simp -dsimp -implicitDefEqProofs only [go_sem]; try rfl
  · simp -dsimp -implicitDefEqProofs only [go_sem]; try rfl
  · intro s
    simp -dsimp -implicitDefEqProofs only [go_sem]
    try omega
  · rintro ⟨i, hi, hall⟩
    have hi : i ≤ w.keys.length := hi
    simp -dsimp -implicitDefEqProofs only [go_sem]
    refine brT (fun hc => ?_) (fun hc => ?_)
    · have hi2 : i < w.keys.length := by omega
      have q1 := vals_get (k := .i64) hi2
      have w1 : IntKind.i64.wrap ((i : Int) + 1) = ((i + 1 : Nat) : Int) := wrapE (by omega) (by omega)
      rcases Nat.eq_zero_or_pos i with rfl | hpos
      · repeat' (first | omega | assumption | (show AL.ahead _ _ _ = true; rfl) | (first | apply brF | apply brT | apply brVF | apply brVT) <;> intro _ | (with_reducible refine And.intro ?_ ?_) | (simp -dsimp -implicitDefEqProofs only [go_sem, q1, w1]))
        all_goals first
          | (refine ⟨⟨0 + 1, hi2, fun j hj => ?_⟩, by show w.keys.length - (0 + 1) < w.keys.length - 0; omega, rfl⟩
             have e : j = 0 := by omega
             subst e
             exact ⟨by omega, by omega, fun h0 => absurd h0 (by omega)⟩)
          | (simp only [bA]; congr 2; symm; apply decide_eq_false; rintro ⟨a1, a2, a3, a4, a5, a6⟩; obtain ⟨b1, b2, b3⟩ := a6 0 hi2; omega)
         
      · have hi3 : i - 1 < w.keys.length := by omega
        have q2 := vals_get (k := .i64) hi3
        have w2 : IntKind.i64.wrap ((i : Int) - 1) = ((i - 1 : Nat) : Int) := wrapE (by omega) (by omega)
        repeat' (first | omega | assumption | (show AL.ahead _ _ _ = true; rfl) | (first | apply brF | apply brT | apply brVF | apply brVT) <;> intro _ | (with_reducible refine And.intro ?_ ?_) | (simp -dsimp -implicitDefEqProofs only [go_sem, q1, w1, q2, w2]))
        all_goals first
          | (refine ⟨⟨i + 1, hi2, fun j hj => ?_⟩, by show w.keys.length - (i + 1) < w.keys.length - i; omega, rfl⟩
             by_cases hj2 : j < i
             · exact hall j hj2
             · have e : j = i := by omega
               subst e
               exact ⟨by omega, by omega, fun h0 => by omega⟩)
          | (simp only [bA]; congr 2; symm; apply decide_eq_false; rintro ⟨a1, a2, a3, a4, a5, a6⟩; obtain ⟨b1, b2, b3⟩ := a6 i hi2; have b4 := b3 hpos; omega)
         
    · have e : i = w.keys.length := by omega
      subst e
      repeat' (first | omega | assumption | (show AL.ahead _ _ _ = true; rfl) | (first | apply brF | apply brT | apply brVF | apply brVT) <;> intro _ | (with_reducible refine And.intro ?_ ?_) | (simp -dsimp -implicitDefEqProofs only [go_sem]))
      simp only [bA]; congr 2; symm; exact decide_eq_true ⟨by omega, by omega, by omega, by omega, by omega, hall⟩
end Go.Proofs.YthfoeaokfhbdaaaGreat

namespace Go.Proofs.YthfoeaokfhbdaaaGreat
open Go Go.AL Go.Proofs.YthfoeaokfhbdaaaGreat.T
attribute [local go_sem] nb_u8s u8s_length nb_sum sumA List.length_replicate zero_sum sum_h nb_vals vals_len u8s_nil
theorem wayN_spec (nx : Nat) (w : Way_) (h : w.keys.length < 2 ^ 40) : FnSpec Tryz.prog 159 nx [wayA w] [] (bA (!decide (wayP w))) [] 0 := by
 have hr := fun nc => wayR_spec nc w h
 simp only [wayA] at hr
 refine FnSpec.of_code (cx := cx) (an := {}) (rs := [.tmp 2]) mo Tryz.func159 rfl rfl (by kernel_rfl) (by kernel_rfl) (by show 1 ≤ _; decide) (.inl rfl) (by simp [allWr, keys, Res.wr]) ?_
 repeat' (first | omega | assumption | (show AL.ahead _ _ _ = true; rfl) | (first | apply brF | apply brT | apply brVF | apply brVT) <;> intro _ | (with_reducible refine And.intro ?_ ?_) | (refine callK_by (hr _) ?_) | (simp -dsimp -implicitDefEqProofs only [go_sem, wayA]))
end Go.Proofs.YthfoeaokfhbdaaaGreat

namespace Go.Proofs.YthfoeaokfhbdaaaGreat
open Go Go.AL Go.Proofs.YthfoeaokfhbdaaaGreat.T
attribute [local go_sem] nb_u8s u8s_length nb_sum sumA List.length_replicate zero_sum sum_h nb_vals vals_len u8s_nil
noncomputable def idxW (l : List Way_) : Int := if ∀ w ∈ l, wayP w then -1 else (l.findIdx (fun w => !decide (wayP w)) : Nat)
theorem idxW_spec (nx : Nat) (l : List Way_) (hl : l.length < 2 ^ 40) (hk : ∀ w ∈ l, w.keys.length < 2 ^ 40) : FnSpec Tryz.prog 189 nx [.sl 35 (waysA l) 0, .clos 159 []] [] (n64 (idxW l)) [] 0 := by
  refine FnSpec.of_code (cx := cx) (an := {}) (rs := [.tmp 4]) mo Tryz.func189 rfl rfl (by kernel_rfl) (by kernel_rfl) (by show 2 ≤ _; decide) (.inl rfl) (by simp [allWr, keys, Res.wr]) ?_
  repeat' (first | omega | assumption | (show AL.ahead _ _ _ = true; rfl) | (first | apply brF | apply brT | apply brVF | apply brVT) <;> intro _ | (with_reducible refine And.intro ?_ ?_) | (simp -dsimp -implicitDefEqProofs only [go_sem, ways_len]))
  apply loop_keep [0, 1, 7] (fun i : { i : Nat // i ≤ l.length ∧ ∀ j (hj : j < l.length), j < i → wayP l[j] } => [(8, n64 i.1)]) (fun _ => []) (fun i => l.length - i.1) ⟨0, Nat.zero_le _, fun j _ hj => absurd hj (Nat.not_lt_zero _)⟩
  · simp -dsimp -implicitDefEqProofs only [go_sem]; rfl
  · simp -dsimp -implicitDefEqProofs only [go_sem]; try rfl
  · simp -dsimp -implicitDefEqProofs only [go_sem]; try rfl
  · intro s
    simp -dsimp -implicitDefEqProofs only [go_sem, nb_ways]
    try omega
  · rintro ⟨i, hi, hall⟩
    have hi : i ≤ l.length := hi
    simp -dsimp -implicitDefEqProofs only [go_sem, ways_len]
    refine brT (fun hc => ?_) (fun hc => ?_)
    · have hi2 : i < l.length := by omega
      have q1 := ways_get hi2
      have w1 : IntKind.i64.wrap ((i : Int) + 1) = ((i + 1 : Nat) : Int) := wrapE (by omega) (by omega)
      have hr := fun nc => wayN_spec nc l[i] (hk _ (List.getElem_mem _))
      simp only [wayA] at hr q1
      repeat' (first | omega | assumption | (show AL.ahead _ _ _ = true; rfl) | (first | apply brF | apply brT | apply brVF | apply brVT) <;> intro _ | (with_reducible refine And.intro ?_ ?_) | (refine callK_by (hr _) ?_) | (simp -dsimp -implicitDefEqProofs only [go_sem, q1, w1, ways_len]))
      all_goals first
        | (rename_i hx
           have e : idxW l = i := by
             unfold idxW
             rw [if_neg (fun ha => hx (ha _ (List.getElem_mem _))), (List.findIdx_eq hi2).2 ⟨by show (!decide (wayP l[i])) = true; rw [decide_eq_false hx]; rfl, fun j hj => by show (!decide (wayP l[j])) = false; rw [decide_eq_true (hall j (by omega) hj)]; rfl⟩]
           rw [e])
        | (rename_i hx
           refine ⟨⟨i + 1, hi2, fun j hj1 hj2 => ?_⟩, by show l.length - (i + 1) < l.length - i; omega, rfl⟩
           by_cases hj3 : j < i
           · exact hall j hj1 hj3
           · have e : j = i := by omega
             subst e
             exact hx)
       
    · have e : i = l.length := by omega
      subst e
      repeat' (first | omega | assumption | (show AL.ahead _ _ _ = true; rfl) | (first | apply brF | apply brT | apply brVF | apply brVT) <;> intro _ | (with_reducible refine And.intro ?_ ?_) | (simp -dsimp -implicitDefEqProofs only [go_sem]))
      have e : idxW l = -1 := by
        unfold idxW
        rw [if_pos (fun w hw => by obtain ⟨j, hj, q⟩ := List.getElem_of_mem hw; exact q ▸ hall j hj hj)]
      rw [e]
end Go.Proofs.YthfoeaokfhbdaaaGreat

namespace Go.Proofs.YthfoeaokfhbdaaaGreat
open Go Go.AL Go.Proofs.YthfoeaokfhbdaaaGreat.T
attribute [local go_sem] nb_u8s u8s_length nb_sum sumA List.length_replicate zero_sum sum_h nb_vals vals_len u8s_nil ways_len nb_ways
noncomputable def badW (l : List Way_) : Bool := decide (0 ≤ idxW l)
theorem hasW_spec (nx : Nat) (l : List Way_) (hl : l.length < 2 ^ 40) (hk : ∀ w ∈ l, w.keys.length < 2 ^ 40) : FnSpec Tryz.prog 158 nx [.sl 35 (waysA l) 0, .clos 159 []] [] (bA (badW l)) [] 0 := by
 have hi := fun nc => idxW_spec nc l hl hk
 refine FnSpec.of_code (cx := cx) (an := {}) (rs := [.tmp 4]) mo Tryz.func158 rfl rfl (by kernel_rfl) (by kernel_rfl) (by show 2 ≤ _; decide) (.inl rfl) (by simp [allWr, keys, Res.wr]) ?_
 repeat' (first | omega | assumption | (show AL.ahead _ _ _ = true; rfl) | (first | apply brF | apply brT | apply brVF | apply brVT) <;> intro _ | (with_reducible refine And.intro ?_ ?_) | (refine callK_by (hi _) ?_) | (simp -dsimp -implicitDefEqProofs only [go_sem]))
 all_goals rfl
noncomputable def outB (o : Out_) : Bool := decide (0 ≤ o.amount ∧ o.amount ≤ 1125899906842624 ∧ 1 ≤ o.ways.length ∧ o.ways.length ≤ 16) && !badW o.ways
theorem outR_spec (nx : Nat) (o : Out_) (hl : o.ways.length < 2 ^ 40) (hk : ∀ w ∈ o.ways, w.keys.length < 2 ^ 40) : FnSpec Tryz.prog 109 nx [outA o] [] (bA (outB o)) [] 0 := by
 have hi := fun nc => hasW_spec nc o.ways hl hk
 refine FnSpec.of_code (cx := cx) (an := {}) (rs := [.tmp 2]) mo Tryz.func109 rfl rfl (by kernel_rfl) (by kernel_rfl) (by show 1 ≤ _; decide) (.inl rfl) (by simp [allWr, keys, Res.wr]) ?_
 repeat' (first | omega | assumption | (show AL.ahead _ _ _ = true; rfl) | (first | apply brF | apply brT | apply brVF | apply brVT) <;> intro _ | (with_reducible refine And.intro ?_ ?_) | (refine callK_by (hi _) ?_) | (simp -dsimp -implicitDefEqProofs only [go_sem, outA]))
 all_goals first
  | (simp only [bA]; congr 2; unfold outB; rw [decide_eq_true (by omega), Bool.true_and])
  | (simp only [bA]; congr 2; unfold outB; rw [decide_eq_false (by omega), Bool.false_and])
  
end Go.Proofs.YthfoeaokfhbdaaaGreat

namespace Go.Proofs.YthfoeaokfhbdaaaGreat
open Go Go.AL Go.Proofs.YthfoeaokfhbdaaaGreat.T
def idxB {α : Type} (p : α → Bool) (l : List α) : Int := if l.any p then (l.findIdx p : Nat) else -1
theorem idxB_hit {α : Type} {p : α → Bool} {l : List α} {i : Nat} (h : i < l.length) (hp : p l[i] = true) (hb : ∀ j (hj : j < l.length), j < i → p l[j] = false) : idxB p l = i := by
  unfold idxB
  rw [if_pos (List.any_eq_true.2 ⟨_, List.getElem_mem h, hp⟩), (List.findIdx_eq h).2 ⟨hp, fun j hj => hb j (by omega) hj⟩]
theorem idxB_miss {α : Type} {p : α → Bool} {l : List α} (hb : ∀ j (hj : j < l.length), p l[j] = false) : idxB p l = -1 := by
  unfold idxB
  rw [if_neg (fun h => by
    obtain ⟨x, hx, hp⟩ := List.any_eq_true.1 h
    obtain ⟨j, hj, rfl⟩ := List.getElem_of_mem hx
    rw [hb j hj] at hp; cases hp)]
theorem idxB_any {α : Type} {p : α → Bool} {l : List α} : decide (0 ≤ idxB p l) = l.any p := by
  unfold idxB
  cases h : l.any p <;> simp
theorem cmp_sumN {P : Program} {T : TypeId} {s : Sum} {n : Nat} (h : isSumT P T = true) : cmpOK P (n + 2) T (.vec 1 (u8s s.b)) = True := by
  unfold isSumT at h
  split at h
  · rename_i len e he
    simp only [Bool.and_eq_true, decide_eq_true_eq] at h
    obtain ⟨⟨⟨h1, h2⟩, h3⟩, h4⟩ := h
    have h5 : tint P e = some .u8 := by
      split at h4
      · assumption
      · cases h4
    simp only [eq_iff_iff, iff_true]
    rw [cmpOK]
    simp only [he, h2, h3]
    refine ⟨by rw [u8s_length, s.h, h1], trivial, fun p hp => ?_⟩
    obtain ⟨b, _, rfl⟩ := List.mem_map.1 hp
    exact ⟨rfl, rfl, by simp only [u8, cmpOK]; exact h5⟩
  · cases h
theorem cmp_sum7 {P : Program} {T : TypeId} {s : Sum} (h : isSumT P T = true) : cmpOK P 7 T (.vec 1 (u8s s.b)) = True := cmp_sumN (n := 5) h
attribute [local go_sem] nb_u8s u8s_length nb_sum sumA List.length_replicate zero_sum sum_h nb_vals vals_len u8s_nil ways_len nb_ways ins_len outs_len nb_ins nb_outs
noncomputable abbrev sameR (x y : In_) : Bool := eqB (refA y.ref) (refA x.ref)
theorem rin1_spec (nx m : Nat) (x y : In_) (hm : m < nx) : FnSpec Tryz.prog 106 nx [inA y, .ref m 0 []] [(m, some (.robj (inA x)))] (bA (sameR x y)) [] 0 := by
  have x1 := fun k => lt_nx hm k
  have x2 := fun k => nx_gt hm k
  refine FnSpec.of_code (cx := cx) (an := {}) (rs := [.tmp 3]) mo Tryz.func106 rfl rfl (by kernel_rfl) (by kernel_rfl) (by show 2 ≤ _; decide) (.inl rfl) (by simp [allWr, keys, Res.wr]) ?_
  repeat' (first | omega | assumption | (show AL.ahead _ _ _ = true; rfl) | (first | apply brF | apply brT | apply brVF | apply brVT) <;> intro _ | (with_reducible refine And.intro ?_ ?_) | (simp -dsimp -implicitDefEqProofs only [go_sem, inA, refA, x1, x2, ↓cmp_sum7, isSumT, decide_eq_true_eq, Bool.and_self]))
  all_goals rfl
theorem ins_take (l : List In_) (i : Nat) : (insA l).take i = insA (l.take i) := by simp [insA, List.map_take]
theorem idxI_spec (nx m : Nat) (x : In_) (l : List In_) (hm : m < nx) (hl : l.length < 2 ^ 40) : FnSpec Tryz.prog 156 nx [.sl 35 (insA l) 0, .clos 106 [.ref m 0 []]] [(m, some (.robj (inA x)))] (n64 (idxB (sameR x) l)) [] 0 := by
  have x1 := fun k => lt_nx hm k
  have x2 := fun k => nx_gt hm k
  refine FnSpec.of_code (cx := cx) (an := {}) (rs := [.tmp 4]) mo Tryz.func156 rfl rfl (by kernel_rfl) (by kernel_rfl) (by show 2 ≤ _; decide) (.inl rfl) (by simp [allWr, keys, Res.wr]) ?_
  repeat' (first | omega | assumption | (show AL.ahead _ _ _ = true; rfl) | (first | apply brF | apply brT | apply brVF | apply brVT) <;> intro _ | (with_reducible refine And.intro ?_ ?_) | (simp -dsimp -implicitDefEqProofs only [go_sem]))
  apply loop_keep [0, 1, 7] (fun i : { i : Nat // i ≤ l.length ∧ ∀ j (hj : j < l.length), j < i → sameR x l[j] = false } => [(8, n64 i.1)]) (fun _ => [(m, some (.robj (inA x)))]) (fun i => l.length - i.1) ⟨0, Nat.zero_le _, fun j _ hj => absurd hj (Nat.not_lt_zero _)⟩
  · simp -dsimp -implicitDefEqProofs only [go_sem]; rfl
  · simp -dsimp -implicitDefEqProofs only [go_sem]; try rfl
  · simp -dsimp -implicitDefEqProofs only [go_sem]; try rfl
  · intro s
    simp -dsimp -implicitDefEqProofs only [go_sem, inA, refA]
    try omega
  · rintro ⟨i, hi, hall⟩
    have hi : i ≤ l.length := hi
    simp -dsimp -implicitDefEqProofs only [go_sem]
    refine brT (fun hc => ?_) (fun hc => ?_)
    · have hi2 : i < l.length := by omega
      have q1 := ins_get hi2
      have w1 : IntKind.i64.wrap ((i : Int) + 1) = ((i + 1 : Nat) : Int) := wrapE (by omega) (by omega)
      have hr := fun nc (h : m < nc) => rin1_spec nc m x l[i] h
      simp only [inA] at hr q1
      repeat' (first | omega | assumption | (show AL.ahead _ _ _ = true; rfl) | (first | apply brF | apply brT | apply brVF | apply brVT) <;> intro _ | (with_reducible refine And.intro ?_ ?_) | (refine callK_by (hr _ (by omega)) ?_) | (simp -dsimp -implicitDefEqProofs only [go_sem, q1, w1, inA, x1, x2]))
      all_goals first
        | (rename_i hx
           have e : idxB (sameR x) l = i := idxB_hit hi2 hx (fun j h1 h2 => hall j h1 h2)
           rw [e])
        | (rename_i hx
           refine ⟨⟨i + 1, hi2, fun j hj1 hj2 => ?_⟩, by show l.length - (i + 1) < l.length - i; omega, rfl⟩
           by_cases hj3 : j < i
           · exact hall j hj1 hj3
           · have e : j = i := by omega
             subst e
             exact hx)
       
    · have e : i = l.length := by omega
      subst e
      repeat' (first | omega | assumption | (show AL.ahead _ _ _ = true; rfl) | (first | apply brF | apply brT | apply brVF | apply brVT) <;> intro _ | (with_reducible refine And.intro ?_ ?_) | (simp -dsimp -implicitDefEqProofs only [go_sem]))
      have e : idxB (sameR x) l = -1 := idxB_miss (fun j hj => hall j hj hj)
      rw [e]
theorem hasI_spec (nx m : Nat) (x : In_) (l : List In_) (hm : m < nx) (hl : l.length < 2 ^ 40) : FnSpec Tryz.prog 105 nx [.sl 35 (insA l) 0, .clos 106 [.ref m 0 []]] [(m, some (.robj (inA x)))] (bA (l.any (sameR x))) [] 0 := by
  have hi := fun nc (h : m < nc) => idxI_spec nc m x l h hl
  simp only [inA] at hi
  refine FnSpec.of_code (cx := cx) (an := {}) (rs := [.tmp 4]) mo Tryz.func105 rfl rfl (by kernel_rfl) (by kernel_rfl) (by show 2 ≤ _; decide) (.inl rfl) (by simp [allWr, keys, Res.wr]) ?_
  repeat' (first | omega | assumption | (show AL.ahead _ _ _ = true; rfl) | (first | apply brF | apply brT | apply brVF | apply brVT) <;> intro _ | (with_reducible refine And.intro ?_ ?_) | (refine callK_by (hi _ (by omega)) ?_) | (simp -dsimp -implicitDefEqProofs only [go_sem, inA]))
  all_goals rw [idxB_any]
theorem rout_spec (nx : Nat) (o : Out_) (hl : o.ways.length < 2 ^ 40) (hk : ∀ w ∈ o.ways, w.keys.length < 2 ^ 40) : FnSpec Tryz.prog 108 nx [outA o] [] (bA (!outB o)) [] 0 := by
  have hi := fun nc => outR_spec nc o hl hk
  simp only [outA] at hi
  refine FnSpec.of_code (cx := cx) (an := {}) (rs := [.tmp 2]) mo Tryz.func108 rfl rfl (by kernel_rfl) (by kernel_rfl) (by show 1 ≤ _; decide) (.inl rfl) (by simp [allWr, keys, Res.wr]) ?_
  repeat' (first | omega | assumption | (show AL.ahead _ _ _ = true; rfl) | (first | apply brF | apply brT | apply brVF | apply brVT) <;> intro _ | (with_reducible refine And.intro ?_ ?_) | (refine callK_by (hi _) ?_) | (simp -dsimp -implicitDefEqProofs only [go_sem, outA]))
  all_goals rfl
noncomputable abbrev badO (o : Out_) : Bool := !outB o
theorem idxO_spec (nx : Nat) (l : List Out_) (hl : l.length < 2 ^ 40) (hk : ∀ o ∈ l, o.ways.length < 2 ^ 40 ∧ ∀ w ∈ o.ways, w.keys.length < 2 ^ 40) : FnSpec Tryz.prog 157 nx [.sl 2 (outsA l) 0, .clos 108 []] [] (n64 (idxB badO l)) [] 0 := by
  refine FnSpec.of_code (cx := cx) (an := {}) (rs := [.tmp 4]) mo Tryz.func157 rfl rfl (by kernel_rfl) (by kernel_rfl) (by show 2 ≤ _; decide) (.inl rfl) (by simp [allWr, keys, Res.wr]) ?_
  repeat' (first | omega | assumption | (show AL.ahead _ _ _ = true; rfl) | (first | apply brF | apply brT | apply brVF | apply brVT) <;> intro _ | (with_reducible refine And.intro ?_ ?_) | (simp -dsimp -implicitDefEqProofs only [go_sem]))
  apply loop_keep [0, 1, 7] (fun i : { i : Nat // i ≤ l.length ∧ ∀ j (hj : j < l.length), j < i → badO l[j] = false } => [(8, n64 i.1)]) (fun _ => []) (fun i => l.length - i.1) ⟨0, Nat.zero_le _, fun j _ hj => absurd hj (Nat.not_lt_zero _)⟩
  · simp -dsimp -implicitDefEqProofs only [go_sem]; rfl
  · simp -dsimp -implicitDefEqProofs only [go_sem]; try rfl
  · simp -dsimp -implicitDefEqProofs only [go_sem]; try rfl
  · intro s
    simp -dsimp -implicitDefEqProofs only [go_sem]
    try omega
  · rintro ⟨i, hi, hall⟩
    have hi : i ≤ l.length := hi
    simp -dsimp -implicitDefEqProofs only [go_sem]
    refine brT (fun hc => ?_) (fun hc => ?_)
    · have hi2 : i < l.length := by omega
      have q1 := outs_get hi2
      have w1 : IntKind.i64.wrap ((i : Int) + 1) = ((i + 1 : Nat) : Int) := wrapE (by omega) (by omega)
      have hk1 := hk l[i] (List.getElem_mem _)
      have hr := fun nc => rout_spec nc l[i] hk1.1 hk1.2
      simp only [outA] at hr q1
      repeat' (first | omega | assumption | (show AL.ahead _ _ _ = true; rfl) | (first | apply brF | apply brT | apply brVF | apply brVT) <;> intro _ | (with_reducible refine And.intro ?_ ?_) | (refine callK_by (hr _) ?_) | (simp -dsimp -implicitDefEqProofs only [go_sem, q1, w1]))
      all_goals first
        | (rename_i hx
           have e : idxB badO l = i := idxB_hit hi2 (by simp only [badO, hx, Bool.not_false]) (fun j h1 h2 => hall j h1 h2)
           rw [e])
        | (rename_i hx
           refine ⟨⟨i + 1, hi2, fun j hj1 hj2 => ?_⟩, by show l.length - (i + 1) < l.length - i; omega, rfl⟩
           by_cases hj3 : j < i
           · exact hall j hj1 hj3
           · have e : j = i := by omega
             subst e
             simp only [badO, hx, Bool.not_true])
       
    · have e : i = l.length := by omega
      subst e
      repeat' (first | omega | assumption | (show AL.ahead _ _ _ = true; rfl) | (first | apply brF | apply brT | apply brVF | apply brVT) <;> intro _ | (with_reducible refine And.intro ?_ ?_) | (simp -dsimp -implicitDefEqProofs only [go_sem]))
      have e : idxB badO l = -1 := idxB_miss (fun j hj => hall j hj hj)
      rw [e]
theorem hasO_spec (nx : Nat) (l : List Out_) (hl : l.length < 2 ^ 40) (hk : ∀ o ∈ l, o.ways.length < 2 ^ 40 ∧ ∀ w ∈ o.ways, w.keys.length < 2 ^ 40) : FnSpec Tryz.prog 107 nx [.sl 2 (outsA l) 0, .clos 108 []] [] (bA (l.any badO)) [] 0 := by
  have hi := fun nc => idxO_spec nc l hl hk
  refine FnSpec.of_code (cx := cx) (an := {}) (rs := [.tmp 4]) mo Tryz.func107 rfl rfl (by kernel_rfl) (by kernel_rfl) (by show 2 ≤ _; decide) (.inl rfl) (by simp [allWr, keys, Res.wr]) ?_
  repeat' (first | omega | assumption | (show AL.ahead _ _ _ = true; rfl) | (first | apply brF | apply brT | apply brVF | apply brVT) <;> intro _ | (with_reducible refine And.intro ?_ ?_) | (refine callK_by (hi _) ?_) | (simp -dsimp -implicitDefEqProofs only [go_sem]))
  all_goals rw [idxB_any]
end Go.Proofs.YthfoeaokfhbdaaaGreat

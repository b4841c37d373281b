/-
  Outs to a key; transactions signed by one key.
-/
import Derived.Test.YtnmnfhicgopdnaaGreatCP12
import Derived.Test.YtnmnfhicgopdnaaGreatAL26
set_option linter.unusedSimpArgs false
set_option linter.unusedVariables false
set_option maxRecDepth 100000
set_option maxHeartbeats 1000000
namespace Go.Proofs.YtnmnfhicgopdnaaGreat
open Go Go.AL Go.Proofs.YtnmnfhicgopdnaaGreat.T
attribute [local go_sem] nb_u8s u8s_length nb_sum sumA List.length_replicate zero_sum sum_h nb_vals vals_len u8s_nil
theorem w1_64 : IntKind.i64.wrap 1 = 1 := by decide
theorem w20_64 : IntKind.i64.wrap 20 = 20 := by decide
theorem to_spec (nx : Nat) (k a : Int) : FnSpec Tryz.prog 114 nx [n64 k, n64 a] [] (outA ⟨a, [⟨[k], zeroS, 0, 0⟩]⟩) [] 0 := by
  have h : FnSpec Tryz.prog 114 nx [n64 k, n64 a] [] (.agg 2 [n64 a, .sl 35 [.agg 35 [.sl 1 [n64 k] 1, sumA zeroS, n64 0, n64 0]] 1]) [] 0 := by
    refine FnSpec.of_code (cx := cx) (an := {}) (rs := [.cell 4 99]) mo Tryz.func114 rfl rfl (by kernel_rfl) (by kernel_rfl) (by show 2 ≤ _; decide) (.inl rfl) (by simp [allWr, keys, Res.wr]) ?_
    repeat' (first | omega | assumption | (show AL.ahead _ _ _ = true; rfl) | refine brF (fun _ => ?_) (fun _ => ?_) | refine brT (fun _ => ?_) (fun _ => ?_) | refine brVF (fun _ => ?_) (fun _ => ?_) | refine brVT (fun _ => ?_) (fun _ => ?_) | (with_reducible refine And.intro ?_ ?_) | (simp -dsimp -implicitDefEqProofs only [go_sem, ↓reduceIte, Nat.reduceEqDiff, Nat.reduceAdd, Nat.reduceMul, Nat.reduceLeDiff, Nat.reduceLT, Nat.reduceBEq, Nat.reducePow, Int.reduceToNat, Int.reduceLE, Int.reduceLT, Int.reduceNeg, reduceCtorEq, Int.reduceEq, Int.reduceAdd, Int.reduceSub, Int.reduceMul, Nat.reduceSub]))
    all_goals trace_state
  exact h.outle ⟨_, rfl, _, _, rfl, AV.le_refl _, _, _, rfl, ⟨_, _, rfl, ⟨_, _, rfl, ⟨_, rfl, _, _, rfl, ⟨_, _, rfl, AV.les_refl _, .inr (.inl rfl)⟩, AV.les_refl _⟩, rfl⟩, .inr (.inl rfl)⟩, rfl⟩
end Go.Proofs.YtnmnfhicgopdnaaGreat

/-
  Keys with leaves, and towers: made.
-/
set_option linter.unusedSimpArgs false
set_option linter.unusedVariables false
set_option maxRecDepth 100000
set_option maxHeartbeats 1000000
namespace Go.Proofs.YtnmnfhicgopdnaaGreat
open Go Go.AL Go.Proofs.YtnmnfhicgopdnaaGreat.T

def sumsA (l : List Sum) : List AV := l.map sumA
theorem sums_len (l : List Sum) : (sumsA l).length = l.length := by simp [sumsA]
theorem nb_sums {m : Nat} (l : List Sum) : AV.nbs m (sumsA l) = True := by
  simp only [eq_iff_iff, iff_true]
  exact nbs_map (fun s => by rw [nb_sum]; trivial) l
theorem sums_snoc (l : List Sum) (s : Sum) : sumsA l ++ [AV.vec 1 (u8s s.b)] = sumsA (l ++ [s]) := by simp [sumsA, sumA]
theorem sums_get {l : List Sum} {i : Nat} (h : i < l.length) : (sumsA l).getD i .undef = sumA l[i] := by
  simp [sumsA, List.getD_eq_getElem?_getD, List.getElem?_map, List.getElem?_eq_getElem h]
/-- a key: seed, leaves, the next one -/
def keyA (s : Sum) (l : List Sum) (t : Nat) (next : Int) : AV := .agg 34 [sumA s, .sl 32 (sumsA l) t, n64 next]
noncomputable def leavesL (s : Sum) : Nat → List Sum
  | 0 => []
  | i + 1 => leavesL s i ++ [pubS (seedS s i)]
theorem leavesL_len (s : Sum) : ∀ i, (leavesL s i).length = i
  | 0 => rfl
  | i + 1 => by rw [leavesL, List.length_append, leavesL_len s i]; rfl
abbrev nilP : AV := .val (.pointer none)

attribute [local go_sem] nb_u8s u8s_length nb_sum sumA List.length_replicate u8_wrap take32 List.drop_zero zero_sum sum_h u8s_cons u8s_one u8_gc u8_gd1 u8_cs1 List.length_append u8s_app u8s_nil sums_len nb_sums
end Go.Proofs.YtnmnfhicgopdnaaGreat

/-
  Towers: made; what a nil tower does; the law TowerNobody.
-/
set_option linter.unusedSimpArgs false
set_option linter.unusedVariables false
set_option maxRecDepth 100000
set_option maxHeartbeats 1000000
namespace Go.Proofs.YtnmnfhicgopdnaaGreat
open Go Go.AL Go.Proofs.YtnmnfhicgopdnaaGreat.T

def towerA (n : Int) (key : Nat) (jobs sigs : AV) : AV := .agg 4 [n64 n, .ref key 0 [], jobs, sigs]
def receiptA (t c s : Int) (h b : Sum) : AV := .agg 67 [n64 t, n64 c, n64 s, sumA h, sumA b]
def signedA (r : AV) (sig : List UInt8) (t : Nat) : AV := .agg 68 [r, .sl 1 (u8s sig) t]
def opA (k t c a : Int) (r : Sum) (d : AV) : AV := .agg 37 [n64 k, n64 t, n64 c, n64 a, sumA r, d]
/-- the zero transaction -/
def txZ : AV := .agg 40 [.sl 35 [] 1, .sl 2 [] 1, opA 0 0 0 0 zeroS (.sl 1 [] 1), .sl 33 [] 1]

attribute [local go_sem] nb_u8s u8s_length nb_sum sumA List.length_replicate u8_wrap take32 List.drop_zero zero_sum sum_h u8s_cons u8s_one u8_gc u8_gd1 u8_cs1 List.length_append u8s_app u8s_nil sums_len nb_sums towerA receiptA signedA opA keyA
end Go.Proofs.YtnmnfhicgopdnaaGreat

/-
  What a nil tower does, on; the law TowerNobody.
-/
set_option linter.unusedSimpArgs false
set_option linter.unusedVariables false
set_option maxRecDepth 100000
set_option maxHeartbeats 1000000
namespace Go.Proofs.YtnmnfhicgopdnaaGreat
open Go Go.AL Go.Proofs.YtnmnfhicgopdnaaGreat.T

attribute [local go_sem] nb_u8s u8s_length nb_sum sumA List.length_replicate u8_wrap take32 List.drop_zero zero_sum sum_h u8s_cons u8s_one u8_gc u8_gd1 u8_cs1 List.length_append u8s_app u8s_nil sums_len nb_sums towerA receiptA signedA opA keyA txZ
def chanZ : Chan := ⟨0, 0, 0, ⟨zeroS, 0⟩, 0, 0, 0⟩
theorem rightChannel_zero (nx : Nat) : FnSpec Tryz.prog 105 nx [chanA chanZ] [] (bA false) [] 0 := by
  refine FnSpec.of_code (cx := cx) (an := {}) (rs := [.tmp 2]) mo Tryz.func105 rfl rfl (by kernel_rfl) (by kernel_rfl) (by show 1 ≤ _; decide) (.inl rfl) (by simp [allWr, keys, Res.wr]) ?_
  repeat' (first | omega | assumption | (show AL.ahead _ _ _ = true; rfl) | refine brF (fun _ => ?_) (fun _ => ?_) | refine brT (fun _ => ?_) (fun _ => ?_) | refine brVF (fun _ => ?_) (fun _ => ?_) | refine brVT (fun _ => ?_) (fun _ => ?_) | (with_reducible refine And.intro ?_ ?_) | (simp -dsimp -implicitDefEqProofs only [go_sem, ↓reduceIte, Nat.reduceEqDiff, Nat.reduceAdd, Nat.reduceMul, Nat.reduceLeDiff, Nat.reduceLT, Nat.reduceBEq, Nat.reducePow, Int.reduceToNat, Int.reduceLE, Int.reduceLT, Int.reduceNeg, reduceCtorEq, Int.reduceEq, Int.reduceAdd, Int.reduceSub, Int.reduceMul, Nat.reduceSub, chanA, refA, chanZ, List.append_eq, List.cons_append, List.nil_append]))
  all_goals trace_state
def isSumT (P : Program) (T : TypeId) : Bool :=
  match tarr P T with
  | some (len, e) => decide (len = 32) && decide (tsz P e = some 1) && decide (tagg P e = some false) && (match tint P e with | some .u8 => true | _ => false)
  | none => false
theorem cmp_sum {P : Program} {T : TypeId} {s : Sum} (h : isSumT P T = true) : cmpOK P 8 T (.vec 1 (u8s s.b)) = True := by
  unfold isSumT at h
  split at h
  · rename_i len e he
    simp only [Bool.and_eq_true, decide_eq_true_eq] at h
    obtain ⟨⟨⟨h1, h2⟩, h3⟩, h4⟩ := h
    have h5 : tint P e = some .u8 := by
      split at h4
      · assumption
      · cases h4
    simp only [eq_iff_iff, iff_true]
    rw [cmpOK]
    simp only [he, h2, h3]
    refine ⟨by rw [u8s_length, s.h, h1], trivial, fun p hp => ?_⟩
    obtain ⟨b, _, rfl⟩ := List.mem_map.1 hp
    exact ⟨rfl, rfl, by simp only [u8, cmpOK]; exact h5⟩
  · cases h
theorem wrap0 : IntKind.i64.wrap 0 = 0 := by decide
theorem eqB_self (a : AV) : eqB a a = true := eqB_yes rfl
end Go.Proofs.YtnmnfhicgopdnaaGreat

/-
  What sweeps, and what settles.
-/
set_option linter.unusedSimpArgs false
set_option linter.unusedVariables false
set_option maxRecDepth 100000
set_option maxHeartbeats 1000000
namespace Go.Proofs.YtnmnfhicgopdnaaGreat
open Go Go.AL Go.Proofs.YtnmnfhicgopdnaaGreat.T
attribute [local go_sem] nb_u8s u8s_length nb_sum sumA List.length_replicate zero_sum sum_h nb_vals vals_len u8s_nil
def op0 : Op_ := ⟨0, 0, 0, 0, zeroS, []⟩
def toO (k a : Int) : Out_ := ⟨a, [⟨[k], zeroS, 0, 0⟩]⟩
def sweepT (k : Int) (id : Sum) (a : Int) : Tx_ := ⟨[⟨⟨id, 0⟩, 0, []⟩], [toO k a], op0, []⟩
def settleT (ch k : Int) (tower a : Int) : Tx_ := ⟨[], [toO k a], ⟨7, tower, ch, 0, zeroS, []⟩, []⟩
noncomputable def signedT (t : Tx_) (k : Int) : Tx_ := { t with signs := [⟨k, txS t⟩] }
theorem opL_le (o : Op_) : (opL o).length ≤ 82 + o.data.length := by
  have h1 := flat_numI [o.kind, o.tower, o.channel, o.amount]
  have h2 := numI_len o.data.length
  simp only [List.length_cons, List.length_nil] at h1
  simp only [opL, List.length_append, sum_h]; omega
theorem outL_to (k a : Int) : (outL (toO k a)).length ≤ 92 := by
  have h1 := flat_numI [a, ((1 : Nat) : Int)]
  have h2 := numI_len ((1 : Nat) : Int)
  have h3 := flat_numI [k]
  have h4 := flat_numI [(0 : Int), 0]
  simp only [List.length_cons, List.length_nil] at h1 h3 h4
  simp only [outL, toO, wayL, List.flatMap_cons, List.flatMap_nil, List.append_nil, List.length_append, sum_h, List.length_cons, List.length_nil, Nat.zero_add] at *
  omega
theorem inL_le (x : In_) : (inL true x).length ≤ 62 + x.pre.length := by
  have h1 := flat_numI [x.ref.at_, x.way]
  have h2 := numI_len x.pre.length
  simp only [List.length_cons, List.length_nil] at h1
  simp only [inL, List.length_append, sum_h, if_true]; omega
theorem sweepT_len (k : Int) (id : Sum) (a : Int) : (bodyL true (sweepT k id a)).length < 2 ^ 38 := by
  have h1 := numI_len ((1 : Nat) : Int)
  have h2 := inL_le ⟨⟨id, 0⟩, 0, []⟩
  have h3 := outL_to k a
  have h4 := opL_le op0
  simp only [op0, List.length_nil] at h4 h2
  simp only [bodyL, sweepT, op0, List.flatMap_cons, List.flatMap_nil, List.append_nil, List.length_append, List.length_cons, List.length_nil, Nat.zero_add]
  omega
theorem settleT_len (ch k t a : Int) : (bodyL true (settleT ch k t a)).length < 2 ^ 38 := by
  have h1 := numI_len ((1 : Nat) : Int)
  have h2 := numI_len ((0 : Nat) : Int)
  have h3 := outL_to k a
  have h4 := opL_le ⟨7, t, ch, 0, zeroS, []⟩
  simp only [List.length_nil] at h4
  simp only [bodyL, settleT, List.flatMap_cons, List.flatMap_nil, List.append_nil, List.length_append, List.length_cons, List.length_nil, Nat.zero_add]
  omega
theorem toO_keys (k a : Int) (L : List Out_) (h : L = [toO k a]) : ∀ o ∈ L, ∀ w ∈ o.ways, w.keys.length < 2 ^ 32 := by
  subst h
  intro o ho w hw
  simp at ho; subst ho
  simp [toO] at hw; subst hw
  simp
theorem txA_sc (t : Tx_) : (txA t).cref = .cref (txA t) := rfl
end Go.Proofs.YtnmnfhicgopdnaaGreat

/-
  Receipts' texts, proofs' bytes, what proves.
-/
set_option linter.unusedSimpArgs false
set_option linter.unusedVariables false
set_option maxRecDepth 100000
set_option maxHeartbeats 1000000
namespace Go.Proofs.YtnmnfhicgopdnaaGreat
open Go Go.AL Go.Proofs.YtnmnfhicgopdnaaGreat.T
attribute [local go_sem] nb_u8s u8s_length nb_sum sumA List.length_replicate u8_wrap take32 List.drop_zero zero_sum sum_h u8s_cons u8s_one u8_gc u8_gd1 u8_cs1 List.length_append u8s_app penA nb_vals vals_len u8s_nil
structure Rec_ where
  tower : Int
  channel : Int
  state : Int
  hint : Sum
  blob : Sum
def recA (r : Rec_) : AV := .agg 67 [n64 r.tower, n64 r.channel, n64 r.state, sumA r.hint, sumA r.blob]
def recL (r : Rec_) : List UInt8 := [r.tower, r.channel, r.state].flatMap numI ++ r.hint.b ++ r.blob.b
abbrev recR (r : Rec_) : Prop := 0 ≤ r.tower ∧ r.tower < 16 ∧ 0 ≤ r.channel ∧ r.channel ≤ 1048576 ∧ 0 ≤ r.state ∧ r.state ≤ 1048576
theorem recRight_spec (nx : Nat) (r : Rec_) : FnSpec Tryz.prog 141 nx [recA r] [] (bA (decide (recR r))) [] 0 := by
  refine FnSpec.of_code (cx := cx) (an := {}) (rs := [.tmp 2]) mo Tryz.func141 rfl rfl (by kernel_rfl) (by kernel_rfl) (by show 1 ≤ _; decide) (.inl rfl) (by simp [allWr, keys, Res.wr]) ?_
  repeat' (first | omega | assumption | (show AL.ahead _ _ _ = true; rfl) | refine brF (fun _ => ?_) (fun _ => ?_) | refine brT (fun _ => ?_) (fun _ => ?_) | refine brVF (fun _ => ?_) (fun _ => ?_) | refine brVT (fun _ => ?_) (fun _ => ?_) | (with_reducible refine And.intro ?_ ?_) | (simp -dsimp -implicitDefEqProofs only [go_sem, ↓reduceIte, Nat.reduceEqDiff, Nat.reduceAdd, Nat.reduceMul, Nat.reduceLeDiff, Nat.reduceLT, Nat.reduceBEq, Nat.reducePow, Int.reduceToNat, Int.reduceLE, Int.reduceLT, Int.reduceNeg, reduceCtorEq, Int.reduceEq, Int.reduceAdd, Int.reduceSub, Int.reduceMul, Nat.reduceSub, recA]))
  all_goals (simp only [bA, recR]; congr 2; first | (simp; omega) | (apply decide_eq_decide.2; omega) | trace_state)
theorem recText_spec (nx : Nat) (r : Rec_) : FnSpec Tryz.prog 143 nx [recA r] [] (.sl 1 (u8s (recL r)) 0) [] 0 := by
  have h1 := flat_numI [r.tower, r.channel, r.state]
  have h2 := r.hint.h
  have h3 := r.blob.h
  simp only [List.length_cons, List.length_nil] at h1
  have key : FnSpec Tryz.prog 143 nx [recA r] [] (.sl 1 (u8s (recL r)) (nx + 210)) [(nx + 208, some (.tail (recL r).length))] 600 := by
    unfold recL
    refine FnSpec.of_code (cx := cx) (an := {tk := [(3, [([0], 1)])]}) (rs := [.tmp 2]) mo Tryz.func143 rfl rfl (by kernel_rfl) (by kernel_rfl) (by show 1 ≤ _; decide) (.inl rfl) (by simp [allWr, keys, Res.wr]) ?_
    repeat' (first | omega | assumption | (show AL.ahead _ _ _ = true; rfl) | refine brF (fun _ => ?_) (fun _ => ?_) | refine brT (fun _ => ?_) (fun _ => ?_) | refine brVF (fun _ => ?_) (fun _ => ?_) | refine brVT (fun _ => ?_) (fun _ => ?_) | (with_reducible refine And.intro ?_ ?_) | (refine callK_by (nums_spec _ (nx + 16) (nx + 17) 1 [] [r.tower, r.channel, r.state] (by simp) (by omega) (by omega) (by omega) (by omega)) ?_) | (refine callK_by (psum_spec _ (nx + 16) (nx + 17) ([r.tower, r.channel, r.state].flatMap numI) r.hint (by omega) (by omega) (by omega) (by omega)) ?_) | (refine callK_by (psum_spec _ (nx + 16) (nx + 17) ([r.tower, r.channel, r.state].flatMap numI ++ r.hint.b) r.blob (by simp only [List.length_append]; omega) (by omega) (by omega) (by omega)) ?_) | (refine callK_by (bytes_spec _ (nx + 16) (nx + 19) ([r.tower, r.channel, r.state].flatMap numI ++ r.hint.b ++ r.blob.b) (by simp only [List.length_append]; omega) (by omega) (by omega)) ?_) | (simp -dsimp -implicitDefEqProofs only [go_sem, ↓reduceIte, Nat.reduceEqDiff, Nat.reduceAdd, Nat.reduceMul, Nat.reduceLeDiff, Nat.reduceLT, Nat.reduceBEq, Nat.reducePow, Int.reduceToNat, Int.reduceLE, Int.reduceLT, Int.reduceNeg, reduceCtorEq, Int.reduceEq, Int.reduceAdd, Int.reduceSub, Int.reduceMul, Nat.reduceSub, recA]))
    all_goals trace_state
  exact key.forget0 ⟨rfl, .inr ⟨.inl rfl, .inl rfl⟩⟩ (by simp [AV.nb, nb_u8s]) (by simp [keys])
structure Proof_ where
  rec_ : Rec_
  sig : List UInt8
  blob : List UInt8
  commit : Sum
def proofA (p : Proof_) : AV := .agg 101 [recA p.rec_, .sl 1 (u8s p.sig) 0, .sl 1 (u8s p.blob) 0, sumA p.commit]
def textL (d : List UInt8) : List UInt8 := numI d.length ++ d
def proofL (p : Proof_) : List UInt8 := textL (recL p.rec_) ++ textL p.sig ++ textL p.blob ++ p.commit.b
abbrev proofR (p : Proof_) : Prop := recR p.rec_ ∧ p.sig.length ≤ 65536 ∧ p.blob.length ≤ 65536
theorem proof_len (p : Proof_) (h : proofR p) : (recL p.rec_).length ≤ 94 ∧ (proofL p).length = (numI (recL p.rec_).length).length + (recL p.rec_).length + ((numI p.sig.length).length + p.sig.length) + ((numI p.blob.length).length + p.blob.length) + 32 := by
  have h1 := flat_numI [p.rec_.tower, p.rec_.channel, p.rec_.state]
  simp only [List.length_cons, List.length_nil] at h1
  have h2 : (recL p.rec_).length ≤ 94 := by simp only [recL, List.length_append, sum_h]; omega
  refine ⟨h2, ?_⟩
  simp only [proofL, textL, List.length_append, sum_h]
end Go.Proofs.YtnmnfhicgopdnaaGreat

/-
  What proves.
-/
set_option linter.unusedSimpArgs false
set_option linter.unusedVariables false
set_option maxRecDepth 100000
set_option maxHeartbeats 1000000
namespace Go.Proofs.YtnmnfhicgopdnaaGreat
open Go Go.AL Go.Proofs.YtnmnfhicgopdnaaGreat.T
attribute [local go_sem] nb_u8s u8s_length nb_sum sumA List.length_replicate zero_sum sum_h nb_vals vals_len u8s_nil
structure Held_ where
  rec_ : Rec_
  sig : List UInt8
  blob : List UInt8
def heldA (h : Held_) : AV := .agg 69 [.agg 68 [recA h.rec_, .sl 1 (u8s h.sig) 0], .sl 1 (u8s h.blob) 0]
def heldP (h : Held_) (id : Sum) : Proof_ := ⟨h.rec_, h.sig, h.blob, id⟩
def proveT (ch tower : Int) (d : List UInt8) : Tx_ := ⟨[], [], ⟨6, tower, ch, 0, zeroS, d⟩, []⟩
theorem proveT_len (ch t : Int) (d : List UInt8) (hd : d.length ≤ 65536) : (bodyL true (proveT ch t d)).length < 2 ^ 38 := by
  have h2 := numI_len ((0 : Nat) : Int)
  have h4 := opL_le ⟨6, t, ch, 0, zeroS, d⟩
  simp only at h4
  simp only [bodyL, proveT, List.flatMap_nil, List.append_nil, List.length_append, List.length_nil]
  omega
end Go.Proofs.YtnmnfhicgopdnaaGreat

/-
  The example of the law ClaimOps: a book that is new, a nil one.
-/
set_option linter.unusedSimpArgs false
set_option linter.unusedVariables false
set_option maxRecDepth 100000
set_option maxHeartbeats 1000000
namespace Go.Proofs.YtnmnfhicgopdnaaGreat
open Go Go.AL Go.Proofs.YtnmnfhicgopdnaaGreat.T
attribute [local go_sem] nb_u8s u8s_length nb_sum sumA List.length_replicate zero_sum sum_h nb_vals vals_len u8s_nil
end Go.Proofs.YtnmnfhicgopdnaaGreat

/-
  Which transactions may be.
-/
set_option linter.unusedSimpArgs false
set_option linter.unusedVariables false
set_option maxRecDepth 100000
set_option maxHeartbeats 1000000
namespace Go.Proofs.YtnmnfhicgopdnaaGreat
open Go Go.AL Go.Proofs.YtnmnfhicgopdnaaGreat.T
attribute [local go_sem] nb_u8s u8s_length nb_sum sumA List.length_replicate zero_sum sum_h nb_vals vals_len u8s_nil
abbrev inR (x : In_) : Prop := 0 ≤ x.ref.at_ ∧ x.ref.at_ < 16 ∧ 0 ≤ x.way ∧ x.way < 16 ∧ x.pre.length ≤ 64
theorem inR_spec (nx : Nat) (x : In_) (h : x.pre.length < 2 ^ 40) : FnSpec Tryz.prog 36 nx [inA x] [] (bA (decide (inR x))) [] 0 := by
  refine FnSpec.of_code (cx := cx) (an := {}) (rs := [.tmp 2]) mo Tryz.func36 rfl rfl (by kernel_rfl) (by kernel_rfl) (by show 1 ≤ _; decide) (.inl rfl) (by simp [allWr, keys, Res.wr]) ?_
  repeat' (first | omega | assumption | (show AL.ahead _ _ _ = true; rfl) | refine brF (fun _ => ?_) (fun _ => ?_) | refine brT (fun _ => ?_) (fun _ => ?_) | refine brVF (fun _ => ?_) (fun _ => ?_) | refine brVT (fun _ => ?_) (fun _ => ?_) | (with_reducible refine And.intro ?_ ?_) | (simp -dsimp -implicitDefEqProofs only [go_sem, ↓reduceIte, Nat.reduceEqDiff, Nat.reduceAdd, Nat.reduceMul, Nat.reduceLeDiff, Nat.reduceLT, Nat.reduceBEq, Nat.reducePow, Int.reduceToNat, Int.reduceLE, Int.reduceLT, Int.reduceNeg, reduceCtorEq, Int.reduceEq, Int.reduceAdd, Int.reduceSub, Int.reduceMul, Nat.reduceSub, inA, refA]))
  all_goals (simp only [bA, inR]; congr 2; first | (simp; omega) | (apply decide_eq_decide.2; omega) | trace_state)
noncomputable def opB (o : Op_) : Bool := if o.kind = 0 then decide (o.tower = 0) && (decide (o.channel = 0) && (decide (o.amount = 0) && (eqB (.vec 1 (u8s o.root.b)) (.vec 1 (u8s zeroS.b)) && decide (o.data.length = 0)))) else
  decide (1 ≤ o.kind ∧ o.kind ≤ 7 ∧ 0 ≤ o.tower ∧ o.tower < 16 ∧ 0 ≤ o.channel ∧ o.channel ≤ 1048576 ∧ 0 ≤ o.amount ∧ o.amount ≤ 1125899906842624 ∧ o.data.length ≤ 65536)
theorem opR_spec (nx : Nat) (o : Op_) (h : o.data.length < 2 ^ 40) : FnSpec Tryz.prog 35 nx [opT o] [] (bA (opB o)) [] 0 := by
  refine FnSpec.of_code (cx := cx) (an := {}) (rs := [.tmp 2]) mo Tryz.func35 rfl rfl (by kernel_rfl) (by kernel_rfl) (by show 1 ≤ _; decide) (.inl rfl) (by simp [allWr, keys, Res.wr]) ?_
  repeat' (first | omega | assumption | (show AL.ahead _ _ _ = true; rfl) | refine brF (fun _ => ?_) (fun _ => ?_) | refine brT (fun _ => ?_) (fun _ => ?_) | refine brVF (fun _ => ?_) (fun _ => ?_) | refine brVT (fun _ => ?_) (fun _ => ?_) | (with_reducible refine And.intro ?_ ?_) | (simp -dsimp -implicitDefEqProofs only [go_sem, ↓reduceIte, Nat.reduceEqDiff, Nat.reduceAdd, Nat.reduceMul, Nat.reduceLeDiff, Nat.reduceLT, Nat.reduceBEq, Nat.reducePow, Int.reduceToNat, Int.reduceLE, Int.reduceLT, Int.reduceNeg, reduceCtorEq, Int.reduceEq, Int.reduceAdd, Int.reduceSub, Int.reduceMul, Nat.reduceSub, opT, ↓cmp_sum, isSumT, decide_eq_true_eq, Bool.and_self]))
  all_goals (simp only [bA]; congr 2; unfold opB; simp [*])
  all_goals first | omega | trace_state
end Go.Proofs.YtnmnfhicgopdnaaGreat

/-
  Which ways may be.
-/
set_option linter.unusedSimpArgs false
set_option linter.unusedVariables false
set_option maxRecDepth 100000
set_option maxHeartbeats 1000000
namespace Go.Proofs.YtnmnfhicgopdnaaGreat
open Go Go.AL Go.Proofs.YtnmnfhicgopdnaaGreat.T
attribute [local go_sem] nb_u8s u8s_length nb_sum sumA List.length_replicate zero_sum sum_h nb_vals vals_len u8s_nil
abbrev keyP (l : List Int) (i : Nat) : Prop := 0 ≤ l.getD i 0 ∧ l.getD i 0 ≤ 255 ∧ (0 < i → l.getD (i - 1) 0 < l.getD i 0)
abbrev wayP (w : Way_) : Prop := w.keys.length ≤ 16 ∧ 0 ≤ w.after ∧ w.after ≤ 1073741824 ∧ 0 ≤ w.wait ∧ w.wait ≤ 1073741824 ∧ ∀ i, i < w.keys.length → keyP w.keys i
theorem wayR_spec (nx : Nat) (w : Way_) (h : w.keys.length < 2 ^ 40) : FnSpec Tryz.prog 66 nx [wayA w] [] (bA (decide (wayP w))) [] 0 := by
  refine FnSpec.of_code (cx := cx) (an := {}) (rs := [.tmp 2]) mo Tryz.func66 rfl rfl (by kernel_rfl) (by kernel_rfl) (by show 1 ≤ _; decide) (.inl rfl) (by simp [allWr, keys, Res.wr]) ?_
  repeat' (first | omega | assumption | (show AL.ahead _ _ _ = true; rfl) | refine brF (fun _ => ?_) (fun _ => ?_) | refine brT (fun _ => ?_) (fun _ => ?_) | refine brVF (fun _ => ?_) (fun _ => ?_) | refine brVT (fun _ => ?_) (fun _ => ?_) | (with_reducible refine And.intro ?_ ?_) | (simp -dsimp -implicitDefEqProofs only [go_sem, ↓reduceIte, Nat.reduceEqDiff, Nat.reduceAdd, Nat.reduceMul, Nat.reduceLeDiff, Nat.reduceLT, Nat.reduceBEq, Nat.reducePow, Int.reduceToNat, Int.reduceLE, Int.reduceLT, Int.reduceNeg, reduceCtorEq, Int.reduceEq, Int.reduceAdd, Int.reduceSub, Int.reduceMul, Nat.reduceSub, wayA]))
  all_goals try (simp only [bA]; congr 2; symm; apply decide_eq_false; rintro ⟨a1, a2, a3, a4, a5, a6⟩; omega)
  apply loop_keep [1, 30, 31] (fun i : { i : Nat // i ≤ w.keys.length ∧ ∀ j, j < i → keyP w.keys j } => [(32, n64 i.1)]) (fun _ => []) (fun i => w.keys.length - i.1) ⟨0, Nat.zero_le _, fun j hj => absurd hj (Nat.not_lt_zero _)⟩
  · simp -dsimp -implicitDefEqProofs only [go_sem, ↓reduceIte, Nat.reduceEqDiff, Nat.reduceAdd, Nat.reduceMul, Nat.reduceLeDiff, Nat.reduceLT, Nat.reduceBEq, Nat.reducePow, Int.reduceToNat, Int.reduceLE, Int.reduceLT, Int.reduceNeg, reduceCtorEq, Int.reduceEq, Int.reduceAdd, Int.reduceSub, Int.reduceMul, Nat.reduceSub]; rfl
  · simp -dsimp -implicitDefEqProofs only [go_sem, ↓reduceIte, Nat.reduceEqDiff, Nat.reduceAdd, Nat.reduceMul, Nat.reduceLeDiff, Nat.reduceLT, Nat.reduceBEq, Nat.reducePow, Int.reduceToNat, Int.reduceLE, Int.reduceLT, Int.reduceNeg, reduceCtorEq, Int.reduceEq, Int.reduceAdd, Int.reduceSub, Int.reduceMul, Nat.reduceSub]; try rfl
  · simp -dsimp -implicitDefEqProofs only [go_sem, ↓reduceIte, Nat.reduceEqDiff, Nat.reduceAdd, Nat.reduceMul, Nat.reduceLeDiff, Nat.reduceLT, Nat.reduceBEq, Nat.reducePow, Int.reduceToNat, Int.reduceLE, Int.reduceLT, Int.reduceNeg, reduceCtorEq, Int.reduceEq, Int.reduceAdd, Int.reduceSub, Int.reduceMul, Nat.reduceSub]; try rfl
  · intro s
    simp -dsimp -implicitDefEqProofs only [go_sem, ↓reduceIte, Nat.reduceEqDiff, Nat.reduceAdd, Nat.reduceMul, Nat.reduceLeDiff, Nat.reduceLT, Nat.reduceBEq, Nat.reducePow, Int.reduceToNat, Int.reduceLE, Int.reduceLT, Int.reduceNeg, reduceCtorEq, Int.reduceEq, Int.reduceAdd, Int.reduceSub, Int.reduceMul, Nat.reduceSub]
    try omega
  · rintro ⟨i, hi, hall⟩
    have hi : i ≤ w.keys.length := hi
    simp -dsimp -implicitDefEqProofs only [go_sem, ↓reduceIte, Nat.reduceEqDiff, Nat.reduceAdd, Nat.reduceMul, Nat.reduceLeDiff, Nat.reduceLT, Nat.reduceBEq, Nat.reducePow, Int.reduceToNat, Int.reduceLE, Int.reduceLT, Int.reduceNeg, reduceCtorEq, Int.reduceEq, Int.reduceAdd, Int.reduceSub, Int.reduceMul, Nat.reduceSub]
    refine brT (fun hc => ?_) (fun hc => ?_)
    · have hi2 : i < w.keys.length := by omega
      have q1 := vals_get (k := .i64) hi2
      have w1 : IntKind.i64.wrap ((i : Int) + 1) = ((i + 1 : Nat) : Int) := wrapE (by omega) (by omega)
      rcases Nat.eq_zero_or_pos i with rfl | hpos
      · repeat' (first | omega | assumption | (show AL.ahead _ _ _ = true; rfl) | refine brF (fun _ => ?_) (fun _ => ?_) | refine brT (fun _ => ?_) (fun _ => ?_) | refine brVF (fun _ => ?_) (fun _ => ?_) | refine brVT (fun _ => ?_) (fun _ => ?_) | (with_reducible refine And.intro ?_ ?_) | (simp -dsimp -implicitDefEqProofs only [go_sem, ↓reduceIte, Nat.reduceEqDiff, Nat.reduceAdd, Nat.reduceMul, Nat.reduceLeDiff, Nat.reduceLT, Nat.reduceBEq, Nat.reducePow, Int.reduceToNat, Int.reduceLE, Int.reduceLT, Int.reduceNeg, reduceCtorEq, Int.reduceEq, Int.reduceAdd, Int.reduceSub, Int.reduceMul, Nat.reduceSub, q1, w1]))
        all_goals first
          | (refine ⟨⟨0 + 1, hi2, fun j hj => ?_⟩, by show w.keys.length - (0 + 1) < w.keys.length - 0; omega, rfl⟩
             have e : j = 0 := by omega
             subst e
             exact ⟨by omega, by omega, fun h0 => absurd h0 (by omega)⟩)
          | (simp only [bA]; congr 2; symm; apply decide_eq_false; rintro ⟨a1, a2, a3, a4, a5, a6⟩; obtain ⟨b1, b2, b3⟩ := a6 0 hi2; omega)
          | trace_state
      · have hi3 : i - 1 < w.keys.length := by omega
        have q2 := vals_get (k := .i64) hi3
        have w2 : IntKind.i64.wrap ((i : Int) - 1) = ((i - 1 : Nat) : Int) := wrapE (by omega) (by omega)
        repeat' (first | omega | assumption | (show AL.ahead _ _ _ = true; rfl) | refine brF (fun _ => ?_) (fun _ => ?_) | refine brT (fun _ => ?_) (fun _ => ?_) | refine brVF (fun _ => ?_) (fun _ => ?_) | refine brVT (fun _ => ?_) (fun _ => ?_) | (with_reducible refine And.intro ?_ ?_) | (simp -dsimp -implicitDefEqProofs only [go_sem, ↓reduceIte, Nat.reduceEqDiff, Nat.reduceAdd, Nat.reduceMul, Nat.reduceLeDiff, Nat.reduceLT, Nat.reduceBEq, Nat.reducePow, Int.reduceToNat, Int.reduceLE, Int.reduceLT, Int.reduceNeg, reduceCtorEq, Int.reduceEq, Int.reduceAdd, Int.reduceSub, Int.reduceMul, Nat.reduceSub, q1, w1, q2, w2]))
        all_goals first
          | (refine ⟨⟨i + 1, hi2, fun j hj => ?_⟩, by show w.keys.length - (i + 1) < w.keys.length - i; omega, rfl⟩
             by_cases hj2 : j < i
             · exact hall j hj2
             · have e : j = i := by omega
               subst e
               exact ⟨by omega, by omega, fun h0 => by omega⟩)
          | (simp only [bA]; congr 2; symm; apply decide_eq_false; rintro ⟨a1, a2, a3, a4, a5, a6⟩; obtain ⟨b1, b2, b3⟩ := a6 i hi2; have b4 := b3 hpos; omega)
          | trace_state
    · have e : i = w.keys.length := by omega
      subst e
      repeat' (first | omega | assumption | (show AL.ahead _ _ _ = true; rfl) | refine brF (fun _ => ?_) (fun _ => ?_) | refine brT (fun _ => ?_) (fun _ => ?_) | refine brVF (fun _ => ?_) (fun _ => ?_) | refine brVT (fun _ => ?_) (fun _ => ?_) | (with_reducible refine And.intro ?_ ?_) | (simp -dsimp -implicitDefEqProofs only [go_sem, ↓reduceIte, Nat.reduceEqDiff, Nat.reduceAdd, Nat.reduceMul, Nat.reduceLeDiff, Nat.reduceLT, Nat.reduceBEq, Nat.reducePow, Int.reduceToNat, Int.reduceLE, Int.reduceLT, Int.reduceNeg, reduceCtorEq, Int.reduceEq, Int.reduceAdd, Int.reduceSub, Int.reduceMul, Nat.reduceSub]))
      simp only [bA]; congr 2; symm; exact decide_eq_true ⟨by omega, by omega, by omega, by omega, by omega, hall⟩
end Go.Proofs.YtnmnfhicgopdnaaGreat

/-
  Which outs may be.
-/
set_option linter.unusedSimpArgs false
set_option linter.unusedVariables false
set_option maxRecDepth 100000
set_option maxHeartbeats 1000000
namespace Go.Proofs.YtnmnfhicgopdnaaGreat
open Go Go.AL Go.Proofs.YtnmnfhicgopdnaaGreat.T
attribute [local go_sem] nb_u8s u8s_length nb_sum sumA List.length_replicate zero_sum sum_h nb_vals vals_len u8s_nil
theorem wayN_spec (nx : Nat) (w : Way_) (h : w.keys.length < 2 ^ 40) : FnSpec Tryz.prog 65 nx [wayA w] [] (bA (!decide (wayP w))) [] 0 := by
  have hr := fun nc => wayR_spec nc w h
  simp only [wayA] at hr
  refine FnSpec.of_code (cx := cx) (an := {}) (rs := [.tmp 2]) mo Tryz.func65 rfl rfl (by kernel_rfl) (by kernel_rfl) (by show 1 ≤ _; decide) (.inl rfl) (by simp [allWr, keys, Res.wr]) ?_
  repeat' (first | omega | assumption | (show AL.ahead _ _ _ = true; rfl) | refine brF (fun _ => ?_) (fun _ => ?_) | refine brT (fun _ => ?_) (fun _ => ?_) | refine brVF (fun _ => ?_) (fun _ => ?_) | refine brVT (fun _ => ?_) (fun _ => ?_) | (with_reducible refine And.intro ?_ ?_) | (refine callK_by (hr _) ?_) | (simp -dsimp -implicitDefEqProofs only [go_sem, ↓reduceIte, Nat.reduceEqDiff, Nat.reduceAdd, Nat.reduceMul, Nat.reduceLeDiff, Nat.reduceLT, Nat.reduceBEq, Nat.reducePow, Int.reduceToNat, Int.reduceLE, Int.reduceLT, Int.reduceNeg, reduceCtorEq, Int.reduceEq, Int.reduceAdd, Int.reduceSub, Int.reduceMul, Nat.reduceSub, wayA]))
  all_goals trace_state
end Go.Proofs.YtnmnfhicgopdnaaGreat

/-
  Which outs may be.
-/
set_option linter.unusedSimpArgs false
set_option linter.unusedVariables false
set_option maxRecDepth 100000
set_option maxHeartbeats 1000000
namespace Go.Proofs.YtnmnfhicgopdnaaGreat
open Go Go.AL Go.Proofs.YtnmnfhicgopdnaaGreat.T
attribute [local go_sem] nb_u8s u8s_length nb_sum sumA List.length_replicate zero_sum sum_h nb_vals vals_len u8s_nil
noncomputable def idxW (l : List Way_) : Int := if ∀ w ∈ l, wayP w then -1 else (l.findIdx (fun w => !decide (wayP w)) : Nat)
theorem idxW_spec (nx : Nat) (l : List Way_) (hl : l.length < 2 ^ 40) (hk : ∀ w ∈ l, w.keys.length < 2 ^ 40) : FnSpec Tryz.prog 97 nx [.sl 35 (waysA l) 0, .clos 65 []] [] (n64 (idxW l)) [] 0 := by
  refine FnSpec.of_code (cx := cx) (an := {}) (rs := [.tmp 4]) mo Tryz.func97 rfl rfl (by kernel_rfl) (by kernel_rfl) (by show 2 ≤ _; decide) (.inl rfl) (by simp [allWr, keys, Res.wr]) ?_
  repeat' (first | omega | assumption | (show AL.ahead _ _ _ = true; rfl) | refine brF (fun _ => ?_) (fun _ => ?_) | refine brT (fun _ => ?_) (fun _ => ?_) | refine brVF (fun _ => ?_) (fun _ => ?_) | refine brVT (fun _ => ?_) (fun _ => ?_) | (with_reducible refine And.intro ?_ ?_) | (simp -dsimp -implicitDefEqProofs only [go_sem, ↓reduceIte, Nat.reduceEqDiff, Nat.reduceAdd, Nat.reduceMul, Nat.reduceLeDiff, Nat.reduceLT, Nat.reduceBEq, Nat.reducePow, Int.reduceToNat, Int.reduceLE, Int.reduceLT, Int.reduceNeg, reduceCtorEq, Int.reduceEq, Int.reduceAdd, Int.reduceSub, Int.reduceMul, Nat.reduceSub, ways_len]))
  apply loop_keep [0, 1, 7] (fun i : { i : Nat // i ≤ l.length ∧ ∀ j (hj : j < l.length), j < i → wayP l[j] } => [(8, n64 i.1)]) (fun _ => []) (fun i => l.length - i.1) ⟨0, Nat.zero_le _, fun j _ hj => absurd hj (Nat.not_lt_zero _)⟩
  · simp -dsimp -implicitDefEqProofs only [go_sem, ↓reduceIte, Nat.reduceEqDiff, Nat.reduceAdd, Nat.reduceMul, Nat.reduceLeDiff, Nat.reduceLT, Nat.reduceBEq, Nat.reducePow, Int.reduceToNat, Int.reduceLE, Int.reduceLT, Int.reduceNeg, reduceCtorEq, Int.reduceEq, Int.reduceAdd, Int.reduceSub, Int.reduceMul, Nat.reduceSub]; rfl
  · simp -dsimp -implicitDefEqProofs only [go_sem, ↓reduceIte, Nat.reduceEqDiff, Nat.reduceAdd, Nat.reduceMul, Nat.reduceLeDiff, Nat.reduceLT, Nat.reduceBEq, Nat.reducePow, Int.reduceToNat, Int.reduceLE, Int.reduceLT, Int.reduceNeg, reduceCtorEq, Int.reduceEq, Int.reduceAdd, Int.reduceSub, Int.reduceMul, Nat.reduceSub]; try rfl
  · simp -dsimp -implicitDefEqProofs only [go_sem, ↓reduceIte, Nat.reduceEqDiff, Nat.reduceAdd, Nat.reduceMul, Nat.reduceLeDiff, Nat.reduceLT, Nat.reduceBEq, Nat.reducePow, Int.reduceToNat, Int.reduceLE, Int.reduceLT, Int.reduceNeg, reduceCtorEq, Int.reduceEq, Int.reduceAdd, Int.reduceSub, Int.reduceMul, Nat.reduceSub]; try rfl
  · intro s
    simp -dsimp -implicitDefEqProofs only [go_sem, ↓reduceIte, Nat.reduceEqDiff, Nat.reduceAdd, Nat.reduceMul, Nat.reduceLeDiff, Nat.reduceLT, Nat.reduceBEq, Nat.reducePow, Int.reduceToNat, Int.reduceLE, Int.reduceLT, Int.reduceNeg, reduceCtorEq, Int.reduceEq, Int.reduceAdd, Int.reduceSub, Int.reduceMul, Nat.reduceSub, nb_ways]
    try omega
  · rintro ⟨i, hi, hall⟩
    have hi : i ≤ l.length := hi
    simp -dsimp -implicitDefEqProofs only [go_sem, ↓reduceIte, Nat.reduceEqDiff, Nat.reduceAdd, Nat.reduceMul, Nat.reduceLeDiff, Nat.reduceLT, Nat.reduceBEq, Nat.reducePow, Int.reduceToNat, Int.reduceLE, Int.reduceLT, Int.reduceNeg, reduceCtorEq, Int.reduceEq, Int.reduceAdd, Int.reduceSub, Int.reduceMul, Nat.reduceSub, ways_len]
    refine brT (fun hc => ?_) (fun hc => ?_)
    · have hi2 : i < l.length := by omega
      have q1 := ways_get hi2
      have w1 : IntKind.i64.wrap ((i : Int) + 1) = ((i + 1 : Nat) : Int) := wrapE (by omega) (by omega)
      have hr := fun nc => wayN_spec nc l[i] (hk _ (List.getElem_mem _))
      simp only [wayA] at hr q1
      repeat' (first | omega | assumption | (show AL.ahead _ _ _ = true; rfl) | refine brF (fun _ => ?_) (fun _ => ?_) | refine brT (fun _ => ?_) (fun _ => ?_) | refine brVF (fun _ => ?_) (fun _ => ?_) | refine brVT (fun _ => ?_) (fun _ => ?_) | (with_reducible refine And.intro ?_ ?_) | (refine callK_by (hr _) ?_) | (simp -dsimp -implicitDefEqProofs only [go_sem, ↓reduceIte, Nat.reduceEqDiff, Nat.reduceAdd, Nat.reduceMul, Nat.reduceLeDiff, Nat.reduceLT, Nat.reduceBEq, Nat.reducePow, Int.reduceToNat, Int.reduceLE, Int.reduceLT, Int.reduceNeg, reduceCtorEq, Int.reduceEq, Int.reduceAdd, Int.reduceSub, Int.reduceMul, Nat.reduceSub, q1, w1, ways_len]))
      all_goals first
        | (rename_i hx
           have e : idxW l = i := by
             unfold idxW
             rw [if_neg (fun ha => hx (ha _ (List.getElem_mem _))), (List.findIdx_eq hi2).2 ⟨by show (!decide (wayP l[i])) = true; rw [decide_eq_false hx]; rfl, fun j hj => by show (!decide (wayP l[j])) = false; rw [decide_eq_true (hall j (by omega) hj)]; rfl⟩]
           rw [e])
        | (rename_i hx
           refine ⟨⟨i + 1, hi2, fun j hj1 hj2 => ?_⟩, by show l.length - (i + 1) < l.length - i; omega, rfl⟩
           by_cases hj3 : j < i
           · exact hall j hj1 hj3
           · have e : j = i := by omega
             subst e
             exact hx)
        | trace_state
    · have e : i = l.length := by omega
      subst e
      repeat' (first | omega | assumption | (show AL.ahead _ _ _ = true; rfl) | refine brF (fun _ => ?_) (fun _ => ?_) | refine brT (fun _ => ?_) (fun _ => ?_) | refine brVF (fun _ => ?_) (fun _ => ?_) | refine brVT (fun _ => ?_) (fun _ => ?_) | (with_reducible refine And.intro ?_ ?_) | (simp -dsimp -implicitDefEqProofs only [go_sem, ↓reduceIte, Nat.reduceEqDiff, Nat.reduceAdd, Nat.reduceMul, Nat.reduceLeDiff, Nat.reduceLT, Nat.reduceBEq, Nat.reducePow, Int.reduceToNat, Int.reduceLE, Int.reduceLT, Int.reduceNeg, reduceCtorEq, Int.reduceEq, Int.reduceAdd, Int.reduceSub, Int.reduceMul, Nat.reduceSub]))
      have e : idxW l = -1 := by
        unfold idxW
        rw [if_pos (fun w hw => by obtain ⟨j, hj, q⟩ := List.getElem_of_mem hw; exact q ▸ hall j hj hj)]
      rw [e]
end Go.Proofs.YtnmnfhicgopdnaaGreat

/-
  Which outs may be.
-/
set_option linter.unusedSimpArgs false
set_option linter.unusedVariables false
set_option maxRecDepth 100000
set_option maxHeartbeats 1000000
namespace Go.Proofs.YtnmnfhicgopdnaaGreat
open Go Go.AL Go.Proofs.YtnmnfhicgopdnaaGreat.T
attribute [local go_sem] nb_u8s u8s_length nb_sum sumA List.length_replicate zero_sum sum_h nb_vals vals_len u8s_nil ways_len nb_ways
noncomputable def badW (l : List Way_) : Bool := decide (0 ≤ idxW l)
theorem hasW_spec (nx : Nat) (l : List Way_) (hl : l.length < 2 ^ 40) (hk : ∀ w ∈ l, w.keys.length < 2 ^ 40) : FnSpec Tryz.prog 64 nx [.sl 35 (waysA l) 0, .clos 65 []] [] (bA (badW l)) [] 0 := by
  have hi := fun nc => idxW_spec nc l hl hk
  refine FnSpec.of_code (cx := cx) (an := {}) (rs := [.tmp 4]) mo Tryz.func64 rfl rfl (by kernel_rfl) (by kernel_rfl) (by show 2 ≤ _; decide) (.inl rfl) (by simp [allWr, keys, Res.wr]) ?_
  repeat' (first | omega | assumption | (show AL.ahead _ _ _ = true; rfl) | refine brF (fun _ => ?_) (fun _ => ?_) | refine brT (fun _ => ?_) (fun _ => ?_) | refine brVF (fun _ => ?_) (fun _ => ?_) | refine brVT (fun _ => ?_) (fun _ => ?_) | (with_reducible refine And.intro ?_ ?_) | (refine callK_by (hi _) ?_) | (simp -dsimp -implicitDefEqProofs only [go_sem, ↓reduceIte, Nat.reduceEqDiff, Nat.reduceAdd, Nat.reduceMul, Nat.reduceLeDiff, Nat.reduceLT, Nat.reduceBEq, Nat.reducePow, Int.reduceToNat, Int.reduceLE, Int.reduceLT, Int.reduceNeg, reduceCtorEq, Int.reduceEq, Int.reduceAdd, Int.reduceSub, Int.reduceMul, Nat.reduceSub]))
  all_goals rfl
noncomputable def outB (o : Out_) : Bool := decide (0 ≤ o.amount ∧ o.amount ≤ 1125899906842624 ∧ 1 ≤ o.ways.length ∧ o.ways.length ≤ 16) && !badW o.ways
theorem outR_spec (nx : Nat) (o : Out_) (hl : o.ways.length < 2 ^ 40) (hk : ∀ w ∈ o.ways, w.keys.length < 2 ^ 40) : FnSpec Tryz.prog 40 nx [outA o] [] (bA (outB o)) [] 0 := by
  have hi := fun nc => hasW_spec nc o.ways hl hk
  refine FnSpec.of_code (cx := cx) (an := {}) (rs := [.tmp 2]) mo Tryz.func40 rfl rfl (by kernel_rfl) (by kernel_rfl) (by show 1 ≤ _; decide) (.inl rfl) (by simp [allWr, keys, Res.wr]) ?_
  repeat' (first | omega | assumption | (show AL.ahead _ _ _ = true; rfl) | refine brF (fun _ => ?_) (fun _ => ?_) | refine brT (fun _ => ?_) (fun _ => ?_) | refine brVF (fun _ => ?_) (fun _ => ?_) | refine brVT (fun _ => ?_) (fun _ => ?_) | (with_reducible refine And.intro ?_ ?_) | (refine callK_by (hi _) ?_) | (simp -dsimp -implicitDefEqProofs only [go_sem, ↓reduceIte, Nat.reduceEqDiff, Nat.reduceAdd, Nat.reduceMul, Nat.reduceLeDiff, Nat.reduceLT, Nat.reduceBEq, Nat.reducePow, Int.reduceToNat, Int.reduceLE, Int.reduceLT, Int.reduceNeg, reduceCtorEq, Int.reduceEq, Int.reduceAdd, Int.reduceSub, Int.reduceMul, Nat.reduceSub, outA]))
  all_goals first
    | (simp only [bA]; congr 2; unfold outB; rw [decide_eq_true (by omega), Bool.true_and])
    | (simp only [bA]; congr 2; unfold outB; rw [decide_eq_false (by omega), Bool.false_and])
    | trace_state
end Go.Proofs.YtnmnfhicgopdnaaGreat

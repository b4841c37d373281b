/-
 Ways, outs, ins, transactions: what is written of them, and a transaction's sum.
-/
import Derived.Test.YtaghcjbpjnpkbaaGreatEP6
set_option linter.unusedSimpArgs false
set_option linter.unusedVariables false
set_option maxRecDepth 100000
set_option maxHeartbeats 8000000
namespace Go.Proofs.YtaghcjbpjnpkbaaGreat
open Go Go.AL Go.Proofs.YtaghcjbpjnpkbaaGreat.T

structure Way_ where
 keys : List Int
 hash : Sum
 after : Int
 wait : Int
structure Out_ where
 amount : Int
 ways : List Way_
structure In_ where
 ref : Ref_
 way : Int
 pre : List UInt8
structure Sign_ where
 key : Int
 of_ : Sum
structure Op_ where
 kind : Int
 tower : Int
 channel : Int
 amount : Int
 root : Sum
 data : List UInt8
structure Tx_ where
 ins : List In_
 outs : List Out_
 op : Op_
 signs : List Sign_
def wayA (w : Way_) : AV := .agg 35 [.sl 1 (vals .i64 w.keys) 0, sumA w.hash, n64 w.after, n64 w.wait]
def waysA (l : List Way_) : List AV := l.map wayA
def outA (o : Out_) : AV := .agg 2 [n64 o.amount, .sl 35 (waysA o.ways) 0]
def outsA (l : List Out_) : List AV := l.map outA
def inA (x : In_) : AV := .agg 35 [refA x.ref, n64 x.way, .sl 1 (u8s x.pre) 0]
def insA (l : List In_) : List AV := l.map inA
def signA (s : Sign_) : AV := .agg 33 [n64 s.key, sumA s.of_]
def signsA (l : List Sign_) : List AV := l.map signA
def opT (o : Op_) : AV := .agg 37 [n64 o.kind, n64 o.tower, n64 o.channel, n64 o.amount, sumA o.root, .sl 1 (u8s o.data) 0]
def txA (t : Tx_) : AV := .agg 40 [.sl 35 (insA t.ins) 0, .sl 2 (outsA t.outs) 0, opT t.op, .sl 33 (signsA t.signs) 0]

theorem ways_len (l : List Way_) : (waysA l).length = l.length := by simp [waysA]
theorem outs_len (l : List Out_) : (outsA l).length = l.length := by simp [outsA]
theorem ins_len (l : List In_) : (insA l).length = l.length := by simp [insA]
theorem signs_len (l : List Sign_) : (signsA l).length = l.length := by simp [signsA]
theorem ways_get {l : List Way_} {i : Nat} (h : i < l.length) : (waysA l).getD i .undef = wayA l[i] := by simp [waysA, List.getD_eq_getElem?_getD, List.getElem?_map, List.getElem?_eq_getElem h]
theorem outs_get {l : List Out_} {i : Nat} (h : i < l.length) : (outsA l).getD i .undef = outA l[i] := by simp [outsA, List.getD_eq_getElem?_getD, List.getElem?_map, List.getElem?_eq_getElem h]
theorem ins_get {l : List In_} {i : Nat} (h : i < l.length) : (insA l).getD i .undef = inA l[i] := by simp [insA, List.getD_eq_getElem?_getD, List.getElem?_map, List.getElem?_eq_getElem h]
theorem signs_get {l : List Sign_} {i : Nat} (h : i < l.length) : (signsA l).getD i .undef = signA l[i] := by simp [signsA, List.getD_eq_getElem?_getD, List.getElem?_map, List.getElem?_eq_getElem h]
theorem nb_ways {m : Nat} (l : List Way_) : AV.nbs m (waysA l) = True := by
 simp only [eq_iff_iff, iff_true]
 exact nbs_map (fun w => by simp [wayA, AV.nb, AV.nbs, nb_sum, nb_vals]) l
theorem nb_outs {m : Nat} (l : List Out_) : AV.nbs m (outsA l) = True := by
 simp only [eq_iff_iff, iff_true]
 exact nbs_map (fun w => by simp [outA, AV.nb, AV.nbs, nb_ways]) l
theorem nb_ins {m : Nat} (l : List In_) : AV.nbs m (insA l) = True := by
 simp only [eq_iff_iff, iff_true]
 exact nbs_map (fun w => by simp [inA, refA, AV.nb, AV.nbs, nb_sum, nb_u8s]) l
theorem nb_signs {m : Nat} (l : List Sign_) : AV.nbs m (signsA l) = True := by
 simp only [eq_iff_iff, iff_true]
 exact nbs_map (fun w => by simp [signA, AV.nb, AV.nbs, nb_sum]) l

/-! ### what is written -/
def wayL (w : Way_) : List UInt8 := numI w.keys.length ++ w.keys.flatMap numI ++ w.hash.b ++ [w.after, w.wait].flatMap numI
def outL (o : Out_) : List UInt8 := [o.amount, (o.ways.length : Int)].flatMap numI ++ o.ways.flatMap wayL
def inL (shown : Bool) (x : In_) : List UInt8 := x.ref.tx.b ++ [x.ref.at_, x.way].flatMap numI ++ (if shown then numI x.pre.length ++ x.pre else [])
def opL (o : Op_) : List UInt8 := [o.kind, o.tower, o.channel, o.amount].flatMap numI ++ o.root.b ++ (numI o.data.length ++ o.data)
def bodyL (shown : Bool) (t : Tx_) : List UInt8 := numI t.ins.length ++ t.ins.flatMap (inL shown) ++ numI t.outs.length ++ t.outs.flatMap outL ++ opL t.op

attribute [local go_sem] nb_u8s u8s_length nb_sum sumA List.length_replicate u8_wrap take32 List.drop_zero zero_sum sum_h u8s_cons u8s_one u8_gc u8_gd1 u8_cs1 u8s_app penA nb_vals vals_len u8s_nil ways_len outs_len ins_len signs_len nb_ways nb_outs nb_ins nb_signs
theorem flat_take_snoc {α : Type} (f : α → List UInt8) {l : List α} {i : Nat} (h : i < l.length) : (l.take (i + 1)).flatMap f = (l.take i).flatMap f ++ f l[i] := by
 rw [← List.take_append_getElem h, List.flatMap_append]; simp
theorem flat_le {α : Type} (f : α → List UInt8) (l : List α) (i : Nat) : ((l.take i).flatMap f).length ≤ (l.flatMap f).length := by
 conv => rhs; rw [← List.take_append_drop i l]
 rw [List.flatMap_append, List.length_append]; omega

theorem flat_ge {α : Type} (f : α → List UInt8) (hf : ∀ x, 1 ≤ (f x).length) : ∀ l : List α, l.length ≤ (l.flatMap f).length
 | [] => by simp
 | a :: l => by have := flat_ge f hf l; have := hf a; simp only [List.flatMap_cons, List.length_append, List.length_cons]; omega
theorem wayL_pos (w : Way_) : 1 ≤ (wayL w).length := by simp only [wayL, List.length_append, sum_h]; omega
theorem outL_pos (o : Out_) : 1 ≤ (outL o).length := by
 have h : 1 ≤ (numI o.amount).length := by unfold numI numN; split <;> simp
 simp only [outL, List.flatMap_cons, List.length_append]; omega
theorem inL_pos (b : Bool) (x : In_) : 1 ≤ (inL b x).length := by simp only [inL, List.length_append, sum_h]; omega
theorem put_spec (nx m q : Nat) (bs : List UInt8) (o : Out_) (hb : bs.length + (outL o).length < 2 ^ 39) (hk : ∀ w ∈ o.ways, w.keys.length < 2 ^ 32) (hm : m < nx) (hq : q < nx) (hne : m ≠ q) :
  FnSpec Tryz.prog 125 nx [.ref m 0 [], outA o] (penH m q bs) (.tup []) (penH m q (bs ++ outL o)) 0 := by
 have z1 : (m = q) = False := by simp [hne]
 have z2 : (q = m) = False := by simp [Ne.symm hne]
 have x1 := fun k => lt_nx hm k
 have x2 := fun k => nx_gt hm k
 have y1 := fun k => lt_nx hq k
 have y2 := fun k => nx_gt hq k
 have h2 := flat_numI [o.amount, (o.ways.length : Int)]
 simp only [List.length_cons, List.length_nil] at h2
 have hb' := hb
 simp only [outL, List.length_append] at hb'
 refine FnSpec.of_code (cx := cx) (an := {}) (rs := []) mo Tryz.func125 rfl rfl (by kernel_rfl) (by kernel_rfl) (by show 2 ≤ _; decide) (.inr ⟨_, rfl, by simp [AV.good]⟩) (by simp [allWr, keys, Res.wr]) ?_
 repeat' (first | omega | assumption | (show AL.ahead _ _ _ = true; rfl) | (first | apply brF | apply brT | apply brVF | apply brVT) <;> intro _ | (with_reducible refine And.intro ?_ ?_) | (refine callK_by (nums_spec _ m q 1 bs [o.amount, (o.ways.length : Int)] (by simp only [List.length_cons, List.length_nil]; omega) (by omega) (by omega) hne (by omega)) ?_) | (simp -dsimp -implicitDefEqProofs only [go_sem, outA, z1, z2]))
 have hwl := flat_ge wayL wayL_pos o.ways
 obtain ⟨A, hA⟩ : ∃ A, A = bs ++ [o.amount, (o.ways.length : Int)].flatMap numI := ⟨_, rfl⟩
 have hAl : A.length = bs.length + ([o.amount, (o.ways.length : Int)].flatMap numI).length := by rw [hA, List.length_append]
 rw [← hA]
 apply loop_keep [0, 15, 16] (fun i : { i : Nat // i ≤ o.ways.length } => [(17, n64 i.1)]) (fun i => penH m q (A ++ (o.ways.take i.1).flatMap wayL)) (fun i => o.ways.length - i.1) ⟨0, Nat.zero_le _⟩
 ·simp -dsimp -implicitDefEqProofs only [go_sem]; rfl
 ·simp -dsimp -implicitDefEqProofs only [go_sem]; try rfl
 ·simp -dsimp -implicitDefEqProofs only [go_sem, z1, z2, List.take_zero, List.flatMap_nil, List.append_nil, hAl]; try rfl
 ·intro s
  simp -dsimp -implicitDefEqProofs only [go_sem]
  try omega
 ·rintro ⟨i, hi⟩
  have hi : i ≤ o.ways.length := hi
  have hle := flat_le wayL o.ways i
  simp -dsimp -implicitDefEqProofs only [go_sem]
  refine brT (fun h => ?_) (fun h => ?_)
  ·have hi2 : i < o.ways.length := by omega
   have w1 : IntKind.i64.wrap ((i : Int) + 1) = ((i + 1 : Nat) : Int) := wrapE (by omega) (by omega)
   have hg := ways_get hi2
   have hsn := flat_take_snoc wayL hi2
   have hle2 := flat_le wayL o.ways (i + 1)
   have hkk := hk o.ways[i] (List.getElem_mem _)
   rw [hsn, List.length_append] at hle2
   generalize o.ways[i] = w at *
   simp only [wayL, List.length_append] at hle2
   have n1 := numI_len w.keys.length
   have n2 := flat_numI [w.after, w.wait]
   simp only [List.length_cons, List.length_nil] at n2
   obtain ⟨B, hB⟩ : ∃ B, B = A ++ (o.ways.take i).flatMap wayL := ⟨_, rfl⟩
   have hBl := congrArg List.length hB
   rw [List.length_append] at hBl
   rw [← hB]
   repeat' (first | omega | assumption | (show AL.ahead _ _ _ = true; rfl) | (first | apply brF | apply brT | apply brVF | apply brVT) <;> intro _ | (with_reducible refine And.intro ?_ ?_) | (refine callK_by (num_spec _ m q B w.keys.length (by omega) (by omega) (by omega) hne) ?_) | (refine callK_by (nums_spec _ m q 0 (B ++ numI w.keys.length) w.keys (by rw [List.length_append]; omega) (by omega) (by omega) hne (by omega)) ?_) | (refine callK_by (psum_spec _ m q (B ++ numI w.keys.length ++ w.keys.flatMap numI) w.hash (by simp only [List.length_append]; omega) (by omega) (by omega) hne) ?_) | (refine callK_by (nums_spec _ m q 1 (B ++ numI w.keys.length ++ w.keys.flatMap numI ++ w.hash.b) [w.after, w.wait] (by simp only [List.length_append, List.length_cons, List.length_nil, sum_h]; omega) (by omega) (by omega) hne (by omega)) ?_) | (simp -dsimp -implicitDefEqProofs only [go_sem, hg, wayA, z1, z2, x1, x2, y1, y2, w1]))
   refine ⟨⟨i + 1, hi2⟩, by show o.ways.length - (i + 1) < o.ways.length - i; omega, rfl, ?_, ?_⟩
   ·simp only [hsn, wayL, hB, List.append_assoc]
   ·simp only [hsn, wayL, hB, List.length_append, sum_h]
    congr 2; omega
  ·have e : i = o.ways.length := by omega
   subst e
   have hfin : bs ++ outL o = A ++ o.ways.flatMap wayL := by rw [hA, outL, List.append_assoc]
   rw [hfin]
   repeat' (first | omega | assumption | (show AL.ahead _ _ _ = true; rfl) | (first | apply brF | apply brT | apply brVF | apply brVT) <;> intro _ | (with_reducible refine And.intro ?_ ?_) | (simp -dsimp -implicitDefEqProofs only [go_sem, z1, z2, List.take_length, List.length_append]))
end Go.Proofs.YtaghcjbpjnpkbaaGreat

namespace Go.Proofs.YtaghcjbpjnpkbaaGreat
open Go Go.AL Go.Proofs.YtaghcjbpjnpkbaaGreat.T

attribute [local go_sem] nb_u8s u8s_length nb_sum sumA List.length_replicate u8_wrap take32 List.drop_zero zero_sum sum_h u8s_cons u8s_one u8_gc u8_gd1 u8_cs1 u8s_app penA nb_vals vals_len u8s_nil ways_len outs_len ins_len signs_len nb_ways nb_outs nb_ins nb_signs
theorem body_spec (nx m q : Nat) (bs : List UInt8) (t : Tx_) (sh : Bool) (hb : bs.length + (bodyL true t).length < 2 ^ 38) (hk : ∀ o ∈ t.outs, ∀ w ∈ o.ways, w.keys.length < 2 ^ 32) (hm : m < nx) (hq : q < nx) (hne : m ≠ q) :
  FnSpec Tryz.prog 79 nx [.ref m 0 [], txA t, bA sh] (penH m q bs) (.tup []) (penH m q (bs ++ bodyL sh t)) 0 := by
 have z1 : (m = q) = False := by simp [hne]
 have z2 : (q = m) = False := by simp [Ne.symm hne]
 have x1 := fun k => lt_nx hm k
 have x2 := fun k => nx_gt hm k
 have y1 := fun k => lt_nx hq k
 have y2 := fun k => nx_gt hq k
 have hsh : ∀ x : In_, (inL sh x).length ≤ (inL true x).length := fun x => by cases sh <;> simp [inL]
 have hpre : ∀ x ∈ t.ins, x.pre.length ≤ (bodyL true t).length := fun x hx => by
  obtain ⟨i, hi, e⟩ := List.getElem_of_mem hx
  have h1 := flat_le (inL true) t.ins (i + 1)
  rw [flat_take_snoc _ hi, e, List.length_append] at h1
  have h2 : x.pre.length ≤ (inL true x).length := by simp only [inL, if_true, List.length_append]; omega
  simp only [bodyL, List.length_append]; omega
 have hfl : (t.ins.flatMap (inL sh)).length ≤ (t.ins.flatMap (inL true)).length := by
  generalize t.ins = l
  induction l with
  | nil => simp
  | cons a l ih => simp only [List.flatMap_cons, List.length_append]; have := hsh a; omega
 have hb' := hb
 simp only [bodyL, opL, List.length_append] at hb'
 have n1 := numI_len t.ins.length
 have n2 := numI_len t.outs.length
 have n3 := flat_numI [t.op.kind, t.op.tower, t.op.channel, t.op.amount]
 simp only [List.length_cons, List.length_nil] at n3
 have n4 := numI_len t.op.data.length
 have hil := flat_ge (inL sh) (inL_pos sh) t.ins
 have hol := flat_ge outL outL_pos t.outs
 refine FnSpec.of_code (cx := cx) (an := {}) (rs := []) mo Tryz.func79 rfl rfl (by kernel_rfl) (by kernel_rfl) (by show 3 ≤ _; decide) (.inr ⟨_, rfl, by simp [AV.good]⟩) (by simp [allWr, keys, Res.wr]) ?_
 repeat' (first | omega | assumption | (show AL.ahead _ _ _ = true; rfl) | (first | apply brF | apply brT | apply brVF | apply brVT) <;> intro _ | (with_reducible refine And.intro ?_ ?_) | (refine callK_by (num_spec _ m q bs t.ins.length (by omega) (by omega) (by omega) hne) ?_) | (simp -dsimp -implicitDefEqProofs only [go_sem, txA, z1, z2]))
 obtain ⟨A, hA⟩ : ∃ A, A = bs ++ numI t.ins.length := ⟨_, rfl⟩
 have hAl := congrArg List.length hA
 rw [List.length_append] at hAl
 rw [← hA]
 apply loop_keep [0, 2, 4, 17, 18] (fun i : { i : Nat // i ≤ t.ins.length } => [(19, n64 i.1)]) (fun i => penH m q (A ++ (t.ins.take i.1).flatMap (inL sh))) (fun i => t.ins.length - i.1) ⟨0, Nat.zero_le _⟩
 ·simp -dsimp -implicitDefEqProofs only [go_sem]; rfl
 ·simp -dsimp -implicitDefEqProofs only [go_sem]; try rfl
 ·simp -dsimp -implicitDefEqProofs only [go_sem, z1, z2, List.take_zero, List.flatMap_nil, List.append_nil, hAl]; try rfl
 ·intro s
  simp -dsimp -implicitDefEqProofs only [go_sem, opT]
  try omega
 ·rintro ⟨i, hi⟩
  have hi : i ≤ t.ins.length := hi
  have hle := flat_le (inL sh) t.ins i
  simp -dsimp -implicitDefEqProofs only [go_sem]
  refine brT (fun h => ?_) (fun h => ?_)
  ·have hi2 : i < t.ins.length := by omega
   have w1 : IntKind.i64.wrap ((i : Int) + 1) = ((i + 1 : Nat) : Int) := wrapE (by omega) (by omega)
   have hg := ins_get hi2
   have hsn := flat_take_snoc (inL sh) hi2
   have hle2 := flat_le (inL sh) t.ins (i + 1)
   have hpp := hpre t.ins[i] (List.getElem_mem _)
   rw [hsn, List.length_append] at hle2
   generalize t.ins[i] = x at *
   have n5 := flat_numI [x.ref.at_, x.way]
   simp only [List.length_cons, List.length_nil] at n5
   have n6 := numI_len x.pre.length
   obtain ⟨B, hB⟩ : ∃ B, B = A ++ (t.ins.take i).flatMap (inL sh) := ⟨_, rfl⟩
   have hBl := congrArg List.length hB
   rw [List.length_append] at hBl
   rw [← hB]
   cases sh with
   | false =>
    simp only [inL, List.length_append, Bool.false_eq_true, if_false, List.length_nil, List.append_nil] at hle2
    repeat' (first | omega | assumption | (show AL.ahead _ _ _ = true; rfl) | (first | apply brF | apply brT | apply brVF | apply brVT) <;> intro _ | (with_reducible refine And.intro ?_ ?_) | (refine callK_by (psum_spec _ m q B x.ref.tx (by omega) (by omega) (by omega) hne) ?_) | (refine callK_by (nums_spec _ m q 1 (B ++ x.ref.tx.b) [x.ref.at_, x.way] (by simp only [List.length_append, List.length_cons, List.length_nil, sum_h]; omega) (by omega) (by omega) hne (by omega)) ?_) | (simp -dsimp -implicitDefEqProofs only [go_sem, hg, inA, refA, z1, z2, x1, x2, y1, y2, w1]))
    refine ⟨⟨i + 1, hi2⟩, by show t.ins.length - (i + 1) < t.ins.length - i; omega, rfl, ?_, ?_⟩
    ·simp only [hsn, inL, hB, List.append_assoc, Bool.false_eq_true, if_false, if_true, List.append_nil]
    ·simp only [hsn, inL, hB, List.length_append, sum_h, Bool.false_eq_true, if_false, if_true, List.length_nil]
     congr 2; omega
   | true =>
    simp only [inL, List.length_append, if_true] at hle2
    repeat' (first | omega | assumption | (show AL.ahead _ _ _ = true; rfl) | (first | apply brF | apply brT | apply brVF | apply brVT) <;> intro _ | (with_reducible refine And.intro ?_ ?_) | (refine callK_by (psum_spec _ m q B x.ref.tx (by omega) (by omega) (by omega) hne) ?_) | (refine callK_by (nums_spec _ m q 1 (B ++ x.ref.tx.b) [x.ref.at_, x.way] (by simp only [List.length_append, List.length_cons, List.length_nil, sum_h]; omega) (by omega) (by omega) hne (by omega)) ?_) | (refine callK_by (text_spec _ m q 0 (B ++ x.ref.tx.b ++ [x.ref.at_, x.way].flatMap numI) x.pre (by simp only [List.length_append, sum_h]; omega) (by omega) (by omega) hne (by omega)) ?_) | (simp -dsimp -implicitDefEqProofs only [go_sem, hg, inA, refA, z1, z2, x1, x2, y1, y2, w1]))
    refine ⟨⟨i + 1, hi2⟩, by show t.ins.length - (i + 1) < t.ins.length - i; omega, rfl, ?_, ?_⟩
    ·simp only [hsn, inL, hB, List.append_assoc, Bool.false_eq_true, if_false, if_true, List.append_nil]
    ·simp only [hsn, inL, hB, List.length_append, sum_h, Bool.false_eq_true, if_false, if_true, List.length_nil]
     congr 2; omega
  ·have e : i = t.ins.length := by omega
   subst e
   obtain ⟨C, hC⟩ : ∃ C, C = A ++ t.ins.flatMap (inL sh) := ⟨_, rfl⟩
   have hCl := congrArg List.length hC
   rw [List.length_append] at hCl
   obtain ⟨D, hD⟩ : ∃ D, D = C ++ numI t.outs.length := ⟨_, rfl⟩
   have hDl := congrArg List.length hD
   rw [List.length_append] at hDl
   repeat' (first | omega | assumption | (show AL.ahead _ _ _ = true; rfl) | (first | apply brF | apply brT | apply brVF | apply brVT) <;> intro _ | (with_reducible refine And.intro ?_ ?_) | (refine callK_by (num_spec _ m q C t.outs.length (by omega) (by omega) (by omega) hne) ?_) | (simp -dsimp -implicitDefEqProofs only [go_sem, z1, z2, List.take_length, ← hC]))
   rw [← hD]
   apply loop_keep [0, 4, 47, 48] (fun i : { i : Nat // i ≤ t.outs.length } => [(49, n64 i.1)]) (fun i => penH m q (D ++ (t.outs.take i.1).flatMap outL)) (fun i => t.outs.length - i.1) ⟨0, Nat.zero_le _⟩
   ·simp -dsimp -implicitDefEqProofs only [go_sem]; try rfl
   ·simp -dsimp -implicitDefEqProofs only [go_sem]; try rfl
   ·simp -dsimp -implicitDefEqProofs only [go_sem, z1, z2, List.take_zero, List.flatMap_nil, List.append_nil, hDl]; try rfl
   ·intro s
    simp -dsimp -implicitDefEqProofs only [go_sem, opT]
    try omega
   ·rintro ⟨i, hi⟩
    have hi : i ≤ t.outs.length := hi
    have hle := flat_le outL t.outs i
    simp -dsimp -implicitDefEqProofs only [go_sem]
    refine brT (fun h => ?_) (fun h => ?_)
    ·have hi2 : i < t.outs.length := by omega
     have w1 : IntKind.i64.wrap ((i : Int) + 1) = ((i + 1 : Nat) : Int) := wrapE (by omega) (by omega)
     have hg := outs_get hi2
     have hsn := flat_take_snoc outL hi2
     have hle2 := flat_le outL t.outs (i + 1)
     have hkk := hk t.outs[i] (List.getElem_mem _)
     rw [hsn, List.length_append] at hle2
     generalize t.outs[i] = o at *
     have hps := fun mm (h1 : m < mm) (h2 : q < mm) => put_spec mm m q (D ++ (t.outs.take i).flatMap outL) o (by rw [List.length_append]; omega) hkk h1 h2 hne
     unfold outA at hps
     repeat' (first | omega | assumption | (show AL.ahead _ _ _ = true; rfl) | (first | apply brF | apply brT | apply brVF | apply brVT) <;> intro _ | (with_reducible refine And.intro ?_ ?_) | (refine callK_by (hps _ (by omega) (by omega)) ?_) | (simp -dsimp -implicitDefEqProofs only [go_sem, hg, outA, z1, z2, x1, x2, y1, y2, w1]))
     refine ⟨⟨i + 1, hi2⟩, by show t.outs.length - (i + 1) < t.outs.length - i; omega, rfl, ?_, ?_⟩
     ·simp only [hsn, List.append_assoc]
     ·simp only [hsn, List.length_append]
    ·have e : i = t.outs.length := by omega
     subst e
     obtain ⟨F, hF⟩ : ∃ F, F = D ++ t.outs.flatMap outL := ⟨_, rfl⟩
     have hFl := congrArg List.length hF
     rw [List.length_append] at hFl
     have hfin : bs ++ bodyL sh t = F ++ [t.op.kind, t.op.tower, t.op.channel, t.op.amount].flatMap numI ++ t.op.root.b ++ numI t.op.data.length ++ t.op.data := by
      rw [hF, hD, hC, hA, bodyL, opL]; simp only [List.append_assoc]
     rw [hfin]
     repeat' (first | omega | assumption | (show AL.ahead _ _ _ = true; rfl) | (first | apply brF | apply brT | apply brVF | apply brVT) <;> intro _ | (with_reducible refine And.intro ?_ ?_) | (refine callK_by (nums_spec _ m q 1 F [t.op.kind, t.op.tower, t.op.channel, t.op.amount] (by simp only [List.length_cons, List.length_nil]; omega) (by omega) (by omega) hne (by omega)) ?_) | (refine callK_by (psum_spec _ m q (F ++ [t.op.kind, t.op.tower, t.op.channel, t.op.amount].flatMap numI) t.op.root (by rw [List.length_append]; omega) (by omega) (by omega) hne) ?_) | (refine callK_by (text_spec _ m q 0 (F ++ [t.op.kind, t.op.tower, t.op.channel, t.op.amount].flatMap numI ++ t.op.root.b) t.op.data (by simp only [List.length_append, sum_h]; omega) (by omega) (by omega) hne (by omega)) ?_) | (simp -dsimp -implicitDefEqProofs only [go_sem, z1, z2, x1, x2, y1, y2, List.take_length, ← hF, opT, List.length_append]))
noncomputable def txS (t : Tx_) : Sum := joinS 41 [bodyL false t]
theorem body_le (t : Tx_) : (bodyL false t).length ≤ (bodyL true t).length := by
 have hsh : ∀ x : In_, (inL false x).length ≤ (inL true x).length := fun x => by simp [inL]
 have hfl : (t.ins.flatMap (inL false)).length ≤ (t.ins.flatMap (inL true)).length := by
  generalize t.ins = l
  induction l with
  | nil => simp
  | cons a l ih => simp only [List.flatMap_cons, List.length_append]; have := hsh a; omega
 simp only [bodyL, List.length_append]; omega
theorem txA_good (t : Tx_) : (txA t).good = true := rfl
theorem txA_csz (t : Tx_) : (txA t).csize = 40 := rfl
theorem txA_agg (t : Tx_) : (txA t).isAgg = true := rfl
theorem nb_tx {m : Nat} (t : Tx_) : AV.nb m (txA t) = True := by
 simp [txA, AV.nb, AV.nbs, nb_ins, nb_outs, nb_signs, opT, nb_sum, nb_u8s]
theorem txSum_spec (nx : Nat) (t : Tx_) (hb : (bodyL true t).length < 2 ^ 38) (hk : ∀ o ∈ t.outs, ∀ w ∈ o.ways, w.keys.length < 2 ^ 32) :
  FnSpec Tryz.prog 35 nx [txA t] [] (sumA (txS t)) [] 0 := by
 have hl := body_le t
 have hbs := fun mm (h1 : nx + 16 < mm) (h2 : nx + 17 < mm) => body_spec mm (nx + 16) (nx + 17) [] t false (by simpa using hb) hk h1 h2 (by omega)
 simp only [List.nil_append] at hbs
 unfold txS
 refine FnSpec.of_code (cx := cx) (an := {tk := [(3, [([0], 1)])]}) (rs := [.cell 2 26]) mo Tryz.func35 rfl rfl (by kernel_rfl) (by kernel_rfl) (by show 1 ≤ _; decide) (.inl rfl) (by simp [allWr, keys, Res.wr]) ?_
 repeat' (first | omega | assumption | (show AL.ahead _ _ _ = true; rfl) | (first | apply brF | apply brT | apply brVF | apply brVT) <;> intro _ | (with_reducible refine And.intro ?_ ?_) | (refine callK_by (hbs _ (by omega) (by omega)) ?_) | (refine callK_by (bytes_spec _ (nx + 16) (nx + 19) (bodyL false t) (by omega) (by omega) (by omega)) ?_) | (refine callK_by (join1_spec _ 1 (nx + 130) 41 (bodyL false t) (by omega) (by omega) (by omega)) ?_) | (simp -dsimp -implicitDefEqProofs only [go_sem, txA_good, txA_csz, txA_agg, nb_tx]))
end Go.Proofs.YtaghcjbpjnpkbaaGreat

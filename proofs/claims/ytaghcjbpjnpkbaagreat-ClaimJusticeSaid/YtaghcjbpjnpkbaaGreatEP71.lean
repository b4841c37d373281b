/-
 Whose commitment a transaction is.
-/
import Derived.Test.YtaghcjbpjnpkbaaGreatEP94
import Derived.Test.YtaghcjbpjnpkbaaGreatEP20
set_option linter.unusedSimpArgs false
set_option linter.unusedVariables false
set_option maxRecDepth 100000
set_option maxHeartbeats 8000000
namespace Go.Proofs.YtaghcjbpjnpkbaaGreat
open Go Go.AL Go.Proofs.YtaghcjbpjnpkbaaGreat.T
def ownP (c : Chan) (own take : Way_) (o1 : Out_) (me : Int) : Prop :=
 own.keys = [me] ∧ own.wait = c.wait ∧ own.after = 0 ∧ own.hash = zeroS ∧ take.keys = [w64 (w64 (c.client + c.peer) - me)] ∧ take.wait = 0 ∧ take.after = 0 ∧ take.hash ≠ zeroS ∧ soleP o1 (w64 (w64 (c.client + c.peer) - me))
noncomputable def ownB (c : Chan) (own take : Way_) (o1 : Out_) (me : Int) : Bool := @decide (ownP c own take o1 me) (Classical.propDecidable _)
noncomputable def own2 (c : Chan) (own take : Way_) (o1 : Out_) : Int := if ownB c own take o1 c.client = true then 0 else if ownB c own take o1 c.peer = true then 1 else -1
noncomputable def ownF (c : Chan) (t : Tx_) : Int :=
 match t.ins, t.outs with
 | [x], [o0, o1] => match o0.ways with
  | [own, take] => @ite _ (x.ref = c.fund ∧ t.op.kind = 0) (Classical.propDecidable _) (own2 c own take o1) (-1)
  | _ => -1
 | _, _ => -1
theorem ownB_t {c : Chan} {own take : Way_} {o1 : Out_} {me : Int} (h : ownP c own take o1 me) : ownB c own take o1 me = true := @decide_eq_true _ (Classical.propDecidable _) h
theorem ownB_f {c : Chan} {own take : Way_} {o1 : Out_} {me : Int} (h : ¬ ownP c own take o1 me) : ownB c own take o1 me = false := @decide_eq_false _ (Classical.propDecidable _) h
attribute [local go_sem] nb_u8s u8s_length nb_sum List.length_replicate zero_sum sum_h u8s_nil nb_vals vals_len ways_len nb_ways sumA outA_good outA_agg outA_csz nb_out1 txA_good txA_csz txA_agg nb_tx
theorem soleP_of {o : Out_} {k : Int} (h : soleB o k = true) : soleP o k := @of_decide_eq_true _ (Classical.propDecidable _) h
theorem nbw {m : Nat} (l : List Way_) : AV.nbs m (List.map wayA l) = True := nb_ways l
theorem vals_one {l : List Int} (h : l.length = 1) : ∃ a, l = [a] := by
 match l, h with
 | [a], _ => exact ⟨a, rfl⟩
theorem owner2_spec (nx : Nat) (c : Chan) (x : In_) (am : Int) (own take : Way_) (o1 : Out_) (op : Op_) (sg : List Sign_) (hr : x.ref = c.fund) (h0 : op.kind = 0)
  (hk1 : own.keys.length < 2 ^ 40) (hk2 : take.keys.length < 2 ^ 40) (hl : o1.ways.length < 2 ^ 40) (hk : ∀ w ∈ o1.ways, w.keys.length < 2 ^ 40) :
  FnSpec Tryz.prog 26 nx [chanA c, txA ⟨[x], [⟨am, [own, take]⟩, o1], op, sg⟩] [] (n64 (own2 c own take o1)) [] 0 := by
 obtain ⟨ok, oh, oa, ow⟩ := own
 obtain ⟨tk, th, ta, tw⟩ := take
 simp only at hk1 hk2
 have er : eqB (.agg 33 [.vec 1 (u8s x.ref.tx.b), n64 x.ref.at_]) (.agg 33 [.vec 1 (u8s c.fund.tx.b), n64 c.fund.at_]) = true := by rw [hr]; exact eqB_yes rfl
 have hso := fun nc k => sole_spec nc o1 k hl hk
 obtain ⟨R, hR⟩ : ∃ R, R = own2 c ⟨ok, oh, oa, ow⟩ ⟨tk, th, ta, tw⟩ o1 := ⟨_, rfl⟩
 rw [← hR]
 obtain ⟨me, hme⟩ : ∃ me : Nat → Int, me = fun i => if i = 0 then c.client else c.peer := ⟨_, rfl⟩
 have m0 : me 0 = c.client := by rw [hme]; rfl
 have m1 : me 1 = c.peer := by rw [hme]; rfl
 have hRi : ∀ i, i < 2 → (∀ j, j < i → ownB c ⟨ok, oh, oa, ow⟩ ⟨tk, th, ta, tw⟩ o1 (me j) = false) → ownB c ⟨ok, oh, oa, ow⟩ ⟨tk, th, ta, tw⟩ o1 (me i) = true → R = (i : Int) := by
  intro i hi hall ht
  rw [hR]
  unfold own2
  match i, hi with
  | 0, _ => rw [← m0, if_pos ht]; rfl
  | 1, _ => rw [← m0, if_neg (by rw [hall 0 (by decide)]; decide), ← m1, if_pos ht]; rfl
 have hRe : (∀ j, j < 2 → ownB c ⟨ok, oh, oa, ow⟩ ⟨tk, th, ta, tw⟩ o1 (me j) = false) → R = -1 := by
  intro hall
  rw [hR]
  unfold own2
  rw [← m0, if_neg (by rw [hall 0 (by decide)]; decide), ← m1, if_neg (by rw [hall 1 (by decide)]; decide)]
 have hgt : ∀ i, i < 2 → [n64 c.client, n64 c.peer].getD i .undef = n64 (me i) := by
  intro i hi
  match i, hi with
  | 0, _ => rw [m0]; rfl
  | 1, _ => rw [m1]; rfl
 clear hR hme
 refine FnSpec.of_code (cx := cx) (an := {}) (rs := [.tmp 4]) mo Tryz.func26 rfl rfl (by kernel_rfl) (by kernel_rfl) (by show 2 ≤ _; decide) (.inl rfl) (by simp [allWr, keys, Res.wr]) ?_
 repeat' (first | omega | assumption | (show AL.ahead _ _ _ = true; rfl) | (first | apply brF | apply brT | apply brVF | apply brVT) <;> intro _ | (with_reducible refine And.intro ?_ ?_) | (simp -dsimp -implicitDefEqProofs only [go_sem, chanA, refA, txA, insA, inA, outsA, outA, waysA, wayA, opT, List.map_cons, List.map_nil, List.length_cons, List.length_nil, List.getD_cons_zero, List.getD_cons_succ, er, h0, rep2, List.set_cons_zero, List.set_cons_succ, ↓cmp_sum7, ↓cmp_sum, isSumT]))
 apply loop_keep [2, 3, 5, 6, 63] (fun p : { i : Nat // i ≤ 2 ∧ ∀ j, j < i → ownB c ⟨ok, oh, oa, ow⟩ ⟨tk, th, ta, tw⟩ o1 (me j) = false } => [(64, n64 p.1)])
  (fun _ => [(nx + 416, some (.obj (.agg 35 [.sl 1 (vals .i64 ok) 0, .vec 1 (u8s oh.b), n64 oa, n64 ow]))), (nx + 424, some (.obj (.agg 35 [.sl 1 (vals .i64 tk) 0, .vec 1 (u8s th.b), n64 ta, n64 tw])))])
  (fun p => 2 - p.1) ⟨0, Nat.zero_le _, fun j h => absurd h (Nat.not_lt_zero _)⟩
 ·simp -dsimp -implicitDefEqProofs only [go_sem]; try rfl
 ·simp -dsimp -implicitDefEqProofs only [go_sem]; try rfl
 ·simp -dsimp -implicitDefEqProofs only [go_sem]; try rfl
 ·intro s
  simp -dsimp -implicitDefEqProofs only [go_sem, nbw, nb_signs]
  try omega
 ·rintro ⟨i, hi, hall⟩
  have hi : i ≤ 2 := hi
  simp -dsimp -implicitDefEqProofs only [go_sem]
  refine brT (fun hc => ?_) (fun hc => ?_)
  ·have hi2 : i < 2 := by omega
   have q1 := hgt i hi2
   have hRi := hRi i hi2 hall
   have w1 : IntKind.i64.wrap ((i : Int) + 1) = ((i + 1 : Nat) : Int) := wrapE (by omega) (by omega)
   generalize hmi : me i = mi at *
   have fin : ownB c ⟨ok, oh, oa, ow⟩ ⟨tk, th, ta, tw⟩ o1 mi = false → ∀ j, j < i + 1 → ownB c ⟨ok, oh, oa, ow⟩ ⟨tk, th, ta, tw⟩ o1 (me j) = false := by
    intro hf j hj
    by_cases e : j = i
    ·rw [e, hmi]; exact hf
    ·exact hall j (by omega)
   by_cases h1 : ok.length = 1
   ·obtain ⟨a, rfl⟩ := vals_one h1
    by_cases h2 : a = mi
    ·by_cases h3 : ow = c.wait
     ·by_cases h4 : oa = 0
      ·by_cases h5 : oh = zeroS
       ·have e5 : eqB (AV.vec 1 (u8s oh.b)) (AV.vec 1 (u8s zeroS.b)) = true := by rw [h5]; exact eqB_yes rfl
        by_cases h6 : tk.length = 1
        ·obtain ⟨b, rfl⟩ := vals_one h6
         by_cases h7 : b = w64 (w64 (c.client + c.peer) - mi)
         ·by_cases h8 : tw = 0
          ·by_cases h9 : ta = 0
           ·by_cases h10 : th = zeroS
            ·have e10 : eqB (AV.vec 1 (u8s th.b)) (AV.vec 1 (u8s zeroS.b)) = true := by rw [h10]; exact eqB_yes rfl
             have hf := ownB_f (c := c) (own := ⟨[a], oh, oa, ow⟩) (take := ⟨[b], th, ta, tw⟩) (o1 := o1) (me := mi) (fun q => q.2.2.2.2.2.2.2.1 h10)
             repeat' (first | omega | assumption | (show AL.ahead _ _ _ = true; rfl) | (first | apply brF | apply brT | apply brVF | apply brVT) <;> intro _ | (with_reducible refine And.intro ?_ ?_) | (refine callK_by (hso _ _) ?_) | (simp -dsimp -implicitDefEqProofs only [go_sem, q1, w1, chanA, refA, List.length_cons, List.length_nil, List.length_map, vals, List.map_cons, List.map_nil, List.getD_cons_zero, List.append_eq, List.cons_append, List.nil_append, h2, h3, h4, e5, h7, h8, h9, e10, ↓cmp_sum, isSumT]))
             all_goals first | exact ⟨⟨i + 1, by omega, fin hf⟩, by show 2 - (i + 1) < 2 - i; omega, rfl⟩ | omega
            ·have e10 : eqB (AV.vec 1 (u8s th.b)) (AV.vec 1 (u8s zeroS.b)) = false := eqB_no (fun q => h10 (sumA_inj _ _ q))
             by_cases h11 : soleB o1 (w64 (w64 (c.client + c.peer) - mi)) = true
             ·have ht := ownB_t (c := c) (own := ⟨[a], oh, oa, ow⟩) (take := ⟨[b], th, ta, tw⟩) (o1 := o1) (me := mi) ⟨by rw [h2], h3, h4, h5, by rw [h7], h8, h9, h10, soleP_of h11⟩
              have hRi := hRi ht
              repeat' (first | omega | assumption | (show AL.ahead _ _ _ = true; rfl) | (first | apply brF | apply brT | apply brVF | apply brVT) <;> intro _ | (with_reducible refine And.intro ?_ ?_) | (refine callK_by (hso _ _) ?_) | (simp -dsimp -implicitDefEqProofs only [go_sem, q1, w1, chanA, refA, List.length_cons, List.length_nil, List.length_map, vals, List.map_cons, List.map_nil, List.getD_cons_zero, List.append_eq, List.cons_append, List.nil_append, h2, h3, h4, e5, h7, h8, h9, e10, h11, ↓cmp_sum, isSumT]))
              all_goals first | (rw [hRi]) | rfl | omega
             ·have hf := ownB_f (c := c) (own := ⟨[a], oh, oa, ow⟩) (take := ⟨[b], th, ta, tw⟩) (o1 := o1) (me := mi) (fun q => h11 (soleB_t q.2.2.2.2.2.2.2.2))
              repeat' (first | omega | assumption | (show AL.ahead _ _ _ = true; rfl) | (first | apply brF | apply brT | apply brVF | apply brVT) <;> intro _ | (with_reducible refine And.intro ?_ ?_) | (refine callK_by (hso _ _) ?_) | (simp -dsimp -implicitDefEqProofs only [go_sem, q1, w1, chanA, refA, List.length_cons, List.length_nil, List.length_map, vals, List.map_cons, List.map_nil, List.getD_cons_zero, List.append_eq, List.cons_append, List.nil_append, h2, h3, h4, e5, h7, h8, h9, e10, h11, ↓cmp_sum, isSumT]))
              all_goals first | exact ⟨⟨i + 1, by omega, fin hf⟩, by show 2 - (i + 1) < 2 - i; omega, rfl⟩ | omega
           ·have hf := ownB_f (c := c) (own := ⟨[a], oh, oa, ow⟩) (take := ⟨[b], th, ta, tw⟩) (o1 := o1) (me := mi) (fun q => h9 q.2.2.2.2.2.2.1)
            repeat' (first | omega | assumption | (show AL.ahead _ _ _ = true; rfl) | (first | apply brF | apply brT | apply brVF | apply brVT) <;> intro _ | (with_reducible refine And.intro ?_ ?_) | (refine callK_by (hso _ _) ?_) | (simp -dsimp -implicitDefEqProofs only [go_sem, q1, w1, chanA, refA, List.length_cons, List.length_nil, List.length_map, vals, List.map_cons, List.map_nil, List.getD_cons_zero, List.append_eq, List.cons_append, List.nil_append, h2, h3, h4, e5, h7, h8, h9, ↓cmp_sum, isSumT]))
            all_goals first | exact ⟨⟨i + 1, by omega, fin hf⟩, by show 2 - (i + 1) < 2 - i; omega, rfl⟩ | omega
          ·have hf := ownB_f (c := c) (own := ⟨[a], oh, oa, ow⟩) (take := ⟨[b], th, ta, tw⟩) (o1 := o1) (me := mi) (fun q => h8 q.2.2.2.2.2.1)
           repeat' (first | omega | assumption | (show AL.ahead _ _ _ = true; rfl) | (first | apply brF | apply brT | apply brVF | apply brVT) <;> intro _ | (with_reducible refine And.intro ?_ ?_) | (refine callK_by (hso _ _) ?_) | (simp -dsimp -implicitDefEqProofs only [go_sem, q1, w1, chanA, refA, List.length_cons, List.length_nil, List.length_map, vals, List.map_cons, List.map_nil, List.getD_cons_zero, List.append_eq, List.cons_append, List.nil_append, h2, h3, h4, e5, h7, h8, ↓cmp_sum, isSumT]))
           all_goals first | exact ⟨⟨i + 1, by omega, fin hf⟩, by show 2 - (i + 1) < 2 - i; omega, rfl⟩ | omega
         ·have hf := ownB_f (c := c) (own := ⟨[a], oh, oa, ow⟩) (take := ⟨[b], th, ta, tw⟩) (o1 := o1) (me := mi) (fun q => h7 (by have := q.2.2.2.2.1; simp at this; exact this))
          repeat' (first | omega | assumption | (show AL.ahead _ _ _ = true; rfl) | (first | apply brF | apply brT | apply brVF | apply brVT) <;> intro _ | (with_reducible refine And.intro ?_ ?_) | (refine callK_by (hso _ _) ?_) | (simp -dsimp -implicitDefEqProofs only [go_sem, q1, w1, chanA, refA, List.length_cons, List.length_nil, List.length_map, vals, List.map_cons, List.map_nil, List.getD_cons_zero, List.append_eq, List.cons_append, List.nil_append, h2, h3, h4, e5, h7, ↓cmp_sum, isSumT]))
          all_goals first | exact ⟨⟨i + 1, by omega, fin hf⟩, by show 2 - (i + 1) < 2 - i; omega, rfl⟩ | omega
        ·have n5 : ¬ (((tk).length : Int) = 1) := by omega
         have hf := ownB_f (c := c) (own := ⟨[a], oh, oa, ow⟩) (take := ⟨tk, th, ta, tw⟩) (o1 := o1) (me := mi) (fun q => h6 (by have := q.2.2.2.2.1; simp only at this; rw [this]; rfl))
         repeat' (first | omega | assumption | (show AL.ahead _ _ _ = true; rfl) | (first | apply brF | apply brT | apply brVF | apply brVT) <;> intro _ | (with_reducible refine And.intro ?_ ?_) | (refine callK_by (hso _ _) ?_) | (simp -dsimp -implicitDefEqProofs only [go_sem, q1, w1, chanA, refA, List.length_cons, List.length_nil, List.length_map, vals, List.map_cons, List.map_nil, List.getD_cons_zero, List.append_eq, List.cons_append, List.nil_append, h2, h3, h4, e5, n5, ↓cmp_sum, isSumT]))
         all_goals first | exact ⟨⟨i + 1, by omega, fin hf⟩, by show 2 - (i + 1) < 2 - i; omega, rfl⟩ | omega
       ·have e5 : eqB (AV.vec 1 (u8s oh.b)) (AV.vec 1 (u8s zeroS.b)) = false := eqB_no (fun q => h5 (sumA_inj _ _ q))
        have hf := ownB_f (c := c) (own := ⟨[a], oh, oa, ow⟩) (take := ⟨tk, th, ta, tw⟩) (o1 := o1) (me := mi) (fun q => h5 q.2.2.2.1)
        repeat' (first | omega | assumption | (show AL.ahead _ _ _ = true; rfl) | (first | apply brF | apply brT | apply brVF | apply brVT) <;> intro _ | (with_reducible refine And.intro ?_ ?_) | (refine callK_by (hso _ _) ?_) | (simp -dsimp -implicitDefEqProofs only [go_sem, q1, w1, chanA, refA, List.length_cons, List.length_nil, List.length_map, vals, List.map_cons, List.map_nil, List.getD_cons_zero, List.append_eq, List.cons_append, List.nil_append, h2, h3, h4, e5, ↓cmp_sum, isSumT]))
        all_goals first | exact ⟨⟨i + 1, by omega, fin hf⟩, by show 2 - (i + 1) < 2 - i; omega, rfl⟩ | omega
      ·have hf := ownB_f (c := c) (own := ⟨[a], oh, oa, ow⟩) (take := ⟨tk, th, ta, tw⟩) (o1 := o1) (me := mi) (fun q => h4 q.2.2.1)
       repeat' (first | omega | assumption | (show AL.ahead _ _ _ = true; rfl) | (first | apply brF | apply brT | apply brVF | apply brVT) <;> intro _ | (with_reducible refine And.intro ?_ ?_) | (refine callK_by (hso _ _) ?_) | (simp -dsimp -implicitDefEqProofs only [go_sem, q1, w1, chanA, refA, List.length_cons, List.length_nil, List.length_map, vals, List.map_cons, List.map_nil, List.getD_cons_zero, List.append_eq, List.cons_append, List.nil_append, h2, h3, h4, ↓cmp_sum, isSumT]))
       all_goals first | exact ⟨⟨i + 1, by omega, fin hf⟩, by show 2 - (i + 1) < 2 - i; omega, rfl⟩ | omega
     ·have hf := ownB_f (c := c) (own := ⟨[a], oh, oa, ow⟩) (take := ⟨tk, th, ta, tw⟩) (o1 := o1) (me := mi) (fun q => h3 q.2.1)
      repeat' (first | omega | assumption | (show AL.ahead _ _ _ = true; rfl) | (first | apply brF | apply brT | apply brVF | apply brVT) <;> intro _ | (with_reducible refine And.intro ?_ ?_) | (refine callK_by (hso _ _) ?_) | (simp -dsimp -implicitDefEqProofs only [go_sem, q1, w1, chanA, refA, List.length_cons, List.length_nil, List.length_map, vals, List.map_cons, List.map_nil, List.getD_cons_zero, List.append_eq, List.cons_append, List.nil_append, h2, h3, ↓cmp_sum, isSumT]))
      all_goals first | exact ⟨⟨i + 1, by omega, fin hf⟩, by show 2 - (i + 1) < 2 - i; omega, rfl⟩ | omega
    ·have hf := ownB_f (c := c) (own := ⟨[a], oh, oa, ow⟩) (take := ⟨tk, th, ta, tw⟩) (o1 := o1) (me := mi) (fun q => h2 (by have := q.1; simp at this; exact this))
     repeat' (first | omega | assumption | (show AL.ahead _ _ _ = true; rfl) | (first | apply brF | apply brT | apply brVF | apply brVT) <;> intro _ | (with_reducible refine And.intro ?_ ?_) | (refine callK_by (hso _ _) ?_) | (simp -dsimp -implicitDefEqProofs only [go_sem, q1, w1, chanA, refA, List.length_cons, List.length_nil, List.length_map, vals, List.map_cons, List.map_nil, List.getD_cons_zero, List.append_eq, List.cons_append, List.nil_append, h2, ↓cmp_sum, isSumT]))
     all_goals first | exact ⟨⟨i + 1, by omega, fin hf⟩, by show 2 - (i + 1) < 2 - i; omega, rfl⟩ | omega
   ·have n0 : ¬ (((ok).length : Int) = 1) := by omega
    have hf := ownB_f (c := c) (own := ⟨ok, oh, oa, ow⟩) (take := ⟨tk, th, ta, tw⟩) (o1 := o1) (me := mi) (fun q => h1 (by have := q.1; simp only at this; rw [this]; rfl))
    repeat' (first | omega | assumption | (show AL.ahead _ _ _ = true; rfl) | (first | apply brF | apply brT | apply brVF | apply brVT) <;> intro _ | (with_reducible refine And.intro ?_ ?_) | (refine callK_by (hso _ _) ?_) | (simp -dsimp -implicitDefEqProofs only [go_sem, q1, w1, chanA, refA, List.length_cons, List.length_nil, List.length_map, vals, List.map_cons, List.map_nil, List.getD_cons_zero, List.append_eq, List.cons_append, List.nil_append, n0, ↓cmp_sum, isSumT]))
    all_goals first | exact ⟨⟨i + 1, by omega, fin hf⟩, by show 2 - (i + 1) < 2 - i; omega, rfl⟩ | omega
  ·have e : i = 2 := by omega
   subst e
   have hRe := hRe hall
   repeat' (first | omega | assumption | (show AL.ahead _ _ _ = true; rfl) | (first | apply brF | apply brT | apply brVF | apply brVT) <;> intro _ | (with_reducible refine And.intro ?_ ?_) | (simp -dsimp -implicitDefEqProofs only [go_sem]))
   all_goals first | (rw [hRe]) | rfl
end Go.Proofs.YtaghcjbpjnpkbaaGreat

namespace Go.Proofs.YtaghcjbpjnpkbaaGreat
open Go Go.AL Go.Proofs.YtaghcjbpjnpkbaaGreat.T
attribute [local go_sem] nb_u8s u8s_length nb_sum List.length_replicate zero_sum sum_h u8s_nil nb_vals vals_len ways_len nb_ways sumA outA_good outA_agg outA_csz nb_out1 txA_good txA_csz txA_agg nb_tx ins_len outs_len nb_ins nb_outs nb_signs
theorem two_list {α : Type} {l : List α} (h : l.length = 2) : ∃ a b, l = [a, b] := by
 match l, h with
 | [a, b], _ => exact ⟨a, b, rfl⟩
theorem one_list {α : Type} {l : List α} (h : l.length = 1) : ∃ a, l = [a] := by
 match l, h with
 | [a], _ => exact ⟨a, rfl⟩
theorem owner_spec (nx : Nat) (c : Chan) (t : Tx_) (hi : t.ins.length < 2 ^ 40) (ho : t.outs.length < 2 ^ 40) (hL : ∀ o ∈ t.outs, o.ways.length < 2 ^ 40 ∧ ∀ w ∈ o.ways, w.keys.length < 2 ^ 40) :
  FnSpec Tryz.prog 26 nx [chanA c, txA t] [] (n64 (ownF c t)) [] 0 := by
 obtain ⟨ins, outs, op, sg⟩ := t
 simp only at hi ho hL
 by_cases h1 : ins.length = 1
 ·obtain ⟨x, rfl⟩ := one_list h1
  by_cases h2 : x.ref = c.fund
  ·have er : eqB (.agg 33 [.vec 1 (u8s x.ref.tx.b), n64 x.ref.at_]) (.agg 33 [.vec 1 (u8s c.fund.tx.b), n64 c.fund.at_]) = true := by rw [h2]; exact eqB_yes rfl
   by_cases h3 : outs.length = 2
   ·obtain ⟨o0, o1, rfl⟩ := two_list h3
    obtain ⟨a1, a2⟩ := hL o0 (by simp)
    obtain ⟨b1, b2⟩ := hL o1 (by simp)
    obtain ⟨am, ws⟩ := o0
    simp only at a1 a2
    by_cases h4 : ws.length = 2
    ·obtain ⟨own, take, rfl⟩ := two_list h4
     by_cases h5 : op.kind = 0
     ·have e : ownF c ⟨[x], [⟨am, [own, take]⟩, o1], op, sg⟩ = own2 c own take o1 := by
       simp only [ownF]; rw [if_pos ⟨h2, h5⟩]
      rw [e]
      exact owner2_spec nx c x am own take o1 op sg h2 h5 (a2 own (by simp)) (a2 take (by simp)) b1 b2
     ·have e : ownF c ⟨[x], [⟨am, [own, take]⟩, o1], op, sg⟩ = -1 := by
       simp only [ownF]; rw [if_neg (fun q => h5 q.2)]
      rw [e]
      refine FnSpec.of_code (cx := cx) (an := {}) (rs := [.tmp 4]) mo Tryz.func26 rfl rfl (by kernel_rfl) (by kernel_rfl) (by show 2 ≤ _; decide) (.inl rfl) (by simp [allWr, keys, Res.wr]) ?_
      repeat' (first | omega | assumption | (show AL.ahead _ _ _ = true; rfl) | (first | apply brF | apply brT | apply brVF | apply brVT) <;> intro _ | (with_reducible refine And.intro ?_ ?_) | (simp -dsimp -implicitDefEqProofs only [go_sem, chanA, refA, txA, insA, inA, outsA, outA, waysA, wayA, opT, List.map_cons, List.map_nil, List.length_cons, List.length_nil, List.getD_cons_zero, List.getD_cons_succ, er, h5, nbw, ↓cmp_sum7, ↓cmp_sum, isSumT]))
      all_goals rfl
    ·have e : ownF c ⟨[x], [⟨am, ws⟩, o1], op, sg⟩ = -1 := by
      match ws, h4 with
      | [], _ => rfl
      | [_], _ => rfl
      | _ :: _ :: _ :: _, _ => rfl
     rw [e]
     have n4 : ¬ ((ws.length : Int) = 2) := by omega
     refine FnSpec.of_code (cx := cx) (an := {}) (rs := [.tmp 4]) mo Tryz.func26 rfl rfl (by kernel_rfl) (by kernel_rfl) (by show 2 ≤ _; decide) (.inl rfl) (by simp [allWr, keys, Res.wr]) ?_
     repeat' (first | omega | assumption | (show AL.ahead _ _ _ = true; rfl) | (first | apply brF | apply brT | apply brVF | apply brVT) <;> intro _ | (with_reducible refine And.intro ?_ ?_) | (simp -dsimp -implicitDefEqProofs only [go_sem, chanA, refA, txA, insA, inA, outsA, outA, opT, List.map_cons, List.map_nil, List.length_cons, List.length_nil, List.getD_cons_zero, List.getD_cons_succ, er, n4, ↓cmp_sum7, ↓cmp_sum, isSumT]))
     all_goals rfl
   ·have e : ownF c ⟨[x], outs, op, sg⟩ = -1 := by
     match outs, h3 with
     | [], _ => rfl
     | [_], _ => rfl
     | _ :: _ :: _ :: _, _ => rfl
    rw [e]
    have n3 : ¬ ((outs.length : Int) = 2) := by omega
    refine FnSpec.of_code (cx := cx) (an := {}) (rs := [.tmp 4]) mo Tryz.func26 rfl rfl (by kernel_rfl) (by kernel_rfl) (by show 2 ≤ _; decide) (.inl rfl) (by simp [allWr, keys, Res.wr]) ?_
    repeat' (first | omega | assumption | (show AL.ahead _ _ _ = true; rfl) | (first | apply brF | apply brT | apply brVF | apply brVT) <;> intro _ | (with_reducible refine And.intro ?_ ?_) | (simp -dsimp -implicitDefEqProofs only [go_sem, chanA, refA, txA, insA, inA, opT, List.map_cons, List.map_nil, List.length_cons, List.length_nil, List.getD_cons_zero, List.getD_cons_succ, er, n3, ↓cmp_sum7, ↓cmp_sum, isSumT]))
    all_goals rfl
  ·have e : ownF c ⟨[x], outs, op, sg⟩ = -1 := by
    simp only [ownF]
    split
    ·split
     ·exact if_neg (fun q => h2 (by have := q.1; simp_all))
     ·rfl
    ·rfl
   rw [e]
   have er : eqB (.agg 33 [.vec 1 (u8s x.ref.tx.b), n64 x.ref.at_]) (.agg 33 [.vec 1 (u8s c.fund.tx.b), n64 c.fund.at_]) = false := eqB_no (fun q => h2 (refA_inj _ _ q))
   refine FnSpec.of_code (cx := cx) (an := {}) (rs := [.tmp 4]) mo Tryz.func26 rfl rfl (by kernel_rfl) (by kernel_rfl) (by show 2 ≤ _; decide) (.inl rfl) (by simp [allWr, keys, Res.wr]) ?_
   repeat' (first | omega | assumption | (show AL.ahead _ _ _ = true; rfl) | (first | apply brF | apply brT | apply brVF | apply brVT) <;> intro _ | (with_reducible refine And.intro ?_ ?_) | (simp -dsimp -implicitDefEqProofs only [go_sem, chanA, refA, txA, insA, inA, opT, List.map_cons, List.map_nil, List.length_cons, List.length_nil, List.getD_cons_zero, List.getD_cons_succ, er, ↓cmp_sum7, ↓cmp_sum, isSumT]))
   all_goals rfl
 ·have e : ownF c ⟨ins, outs, op, sg⟩ = -1 := by
   match ins, h1 with
   | [], _ => rfl
   | _ :: _ :: _, _ => rfl
  rw [e]
  have n1 : ¬ ((ins.length : Int) = 1) := by omega
  refine FnSpec.of_code (cx := cx) (an := {}) (rs := [.tmp 4]) mo Tryz.func26 rfl rfl (by kernel_rfl) (by kernel_rfl) (by show 2 ≤ _; decide) (.inl rfl) (by simp [allWr, keys, Res.wr]) ?_
  repeat' (first | omega | assumption | (show AL.ahead _ _ _ = true; rfl) | (first | apply brF | apply brT | apply brVF | apply brVT) <;> intro _ | (with_reducible refine And.intro ?_ ?_) | (simp -dsimp -implicitDefEqProofs only [go_sem, chanA, refA, txA, opT, n1]))
  all_goals rfl
end Go.Proofs.YtaghcjbpjnpkbaaGreat

namespace Go.Proofs.YtaghcjbpjnpkbaaGreat
open Go Go.AL Go.Proofs.YtaghcjbpjnpkbaaGreat.T
attribute [local go_sem] nb_u8s u8s_length nb_sum sumA List.length_replicate u8_wrap take32 List.drop_zero zero_sum sum_h nb_eye u8s_nil sums_len nb_sums
def sumOf (l : List UInt8) : Sum := if h : l.length = 32 then ⟨l, h⟩ else zeroS
def esumS (s : ES) : Sum × ES := (sumOf (rawS s 32).1, (rawS s 32).2)
theorem rawS_32 (s : ES) : (rawS s 32).1.length = 32 ∨ (rawS s 32).1 = [] := by
 unfold rawS
 split
 ·split
  ·exact .inr rfl
  ·rename_i h; left; rw [List.length_take]; omega
 ·exact .inr rfl
theorem range_full (l : List UInt8) (h : l.length = 32) : setRange (u8s zeroS.b) 0 (u8s l) = u8s (sumOf l).b := by
 unfold sumOf
 rw [dif_pos h]
 unfold setRange
 rw [List.take_zero, List.nil_append, List.drop_eq_nil_of_le (by rw [u8s_length, u8s_length, zeroS.h]; omega), List.append_nil]
theorem range_none : setRange (u8s zeroS.b) 0 (u8s []) = u8s (sumOf []).b := by
 unfold sumOf
 rw [dif_neg (by simp)]
 unfold setRange
 rw [u8s_nil, List.take_zero, List.nil_append, List.length_nil, Nat.zero_add, List.drop_zero, List.nil_append]
theorem rawS_set (s : ES) : setRange (u8s zeroS.b) 0 (u8s (rawS s 32).1) = u8s (esumS s).1.b := by
 unfold esumS
 rcases rawS_32 s with h | h
 ·exact range_full _ h
 ·simp only [h]; exact range_none
theorem rawS_le (s : ES) : (rawS s 32).1.length ≤ 32 := by
 rcases rawS_32 s with h | h
 ·omega
 ·rw [h]; simp
theorem esum_spec (nx m : Nat) (s : ES) (hm : m < nx) (hb : s.b.length < 2 ^ 40) : FnSpec Tryz.prog 136 nx [.ref m 0 []] [(m, some (.obj (eyeA s)))] (sumA (esumS s).1) [(m, some (.obj (eyeA (esumS s).2)))] 0 := by
 have x1 := fun k => lt_nx hm k
 have x2 := fun k => nx_gt hm k
 have hr := rawS_set s
 have hl := rawS_le s
 have e2 : (esumS s).2 = (rawS s 32).2 := rfl
 rw [e2]
 refine FnSpec.of_code (cx := cx) (an := {}) (rs := [.cell 2 26]) mo Tryz.func136 rfl rfl (by kernel_rfl) (by kernel_rfl) (by show 1 ≤ _; decide) (.inl rfl) (by simp [allWr, keys, Res.wr]) ?_
 repeat' (first | omega | assumption | (show AL.ahead _ _ _ = true; rfl) | (first | apply brF | apply brT | apply brVF | apply brVT) <;> intro _ | (with_reducible refine And.intro ?_ ?_) | (refine callK_by (raw_spec _ m s 32 (by omega) (by omega)) ?_) | (simp -dsimp -implicitDefEqProofs only [go_sem, x1, x2, lt_nx0 hm, nx_gt0 hm, hr]))
theorem esumS_len (s : ES) : (esumS s).2.b.length ≤ s.b.length := rawS_len s 32
def pathS (s : ES) : Nat → List Sum × ES
 | 0 => ([], s)
 | i + 1 => ((pathS s i).1 ++ [(esumS (pathS s i).2).1], (esumS (pathS s i).2).2)
theorem pathS_len (s : ES) : ∀ i, (pathS s i).1.length = i ∧ (pathS s i).2.b.length ≤ s.b.length
 | 0 => ⟨rfl, Nat.le_refl _⟩
 | i + 1 => by
  obtain ⟨h1, h2⟩ := pathS_len s i
  refine ⟨by simp [pathS, h1], Nat.le_trans (esumS_len _) h2⟩
structure Sig_ where
 at_ : Int
 leaves : Int
 path : List Sum
 one : List UInt8
 e : Int
def readS (b : List UInt8) : Sig_ :=
 let u := uptoS ⟨b, 0⟩ 64
 let v := uptoS u.2 64
 let k := uptoS v.2 8
 let p := pathS k.2 k.1.toNat
 let t := textS p.2 4096
 ⟨u.1, v.1, p.1, t.1, doneS t.2⟩
theorem uptoS_rng (s : ES) (most : Int) (hm : 0 ≤ most) : 0 ≤ (uptoS s most).1 ∧ (uptoS s most).1 ≤ most := by
 simp only [uptoS]
 by_cases h : most < ((numS s).1 : Int)
 ·have hne : ¬ (failS (numS s).2 5).e = 0 := by
   unfold failS
   split
   ·simp
   ·assumption
  simp only [h, if_true, hne, if_false]
  exact ⟨Int.le_refl _, hm⟩
 ·simp only [h, if_false]
  split
  ·simp only; omega
  ·simp only; omega
theorem read_spec (nx : Nat) (b : List UInt8) (hb : b.length < 2 ^ 40) :
  FnSpec Tryz.prog 175 nx [.sl 1 (u8s b) 0] [] (if (readS b).e = 0 then .tup [n64 (readS b).at_, n64 (readS b).leaves, .sl 32 (sumsA (readS b).path) 0, .sl 1 (u8s (readS b).one) 0, n64 0] else .tup [n64 0, n64 0, .sl 32 [] 0, .sl 0 [] 1, n64 (readS b).e]) [] 0 := by
 obtain ⟨u, hu⟩ : ∃ u, u = uptoS ⟨b, 0⟩ 64 := ⟨_, rfl⟩
 obtain ⟨v, hv⟩ : ∃ v, v = uptoS u.2 64 := ⟨_, rfl⟩
 obtain ⟨k, hk⟩ : ∃ k, k = uptoS v.2 8 := ⟨_, rfl⟩
 obtain ⟨q, hq⟩ : ∃ q, q = pathS k.2 k.1.toNat := ⟨_, rfl⟩
 obtain ⟨t, ht⟩ : ∃ t, t = textS q.2 4096 := ⟨_, rfl⟩
 have hr : readS b = ⟨u.1, v.1, q.1, t.1, doneS t.2⟩ := by rw [ht, hq, hk, hv, hu]; rfl
 have l1 := uptoS_len ⟨b, 0⟩ 64
 have l2 := uptoS_len u.2 64
 have l3 := uptoS_len v.2 8
 have l4 := pathS_len k.2 k.1.toNat
 have k8 := uptoS_rng v.2 8 (by decide)
 rw [← hu] at l1
 rw [← hv] at l2
 rw [← hk] at l3 k8
 rw [← hq] at l4
 simp only at l1
 rw [hr]
 simp only
 obtain ⟨kn, hkn⟩ : ∃ kn : Nat, k.1 = (kn : Int) := ⟨k.1.toNat, by omega⟩
 rw [hkn] at hq l4
 simp only [Int.toNat_natCast] at hq l4
 by_cases hd : doneS t.2 = 0
 ·rw [if_pos hd]
  have key : FnSpec Tryz.prog 175 nx [.sl 1 (u8s b) 0] [] (.tup [n64 u.1, n64 v.1, .sl 32 (sumsA q.1) (nx + 19), .sl 1 (u8s t.1) 0, n64 0]) [(nx + 88, some (.obj (eyeA (if t.2.e = 0 ∧ 0 < t.2.b.length then ⟨t.2.b, 3⟩ else t.2)))), (nx + 17, some (.tail q.1.length))] 4000 := by
   refine FnSpec.of_code (cx := cx) (an := {tk := [(4, [([], 32)])]}) (rs := [.tmp 2, .tmp 3, .tmp 4, .tmp 5, .tmp 6]) mo Tryz.func175 rfl rfl (by kernel_rfl) (by kernel_rfl) (by show 1 ≤ _; decide) (.inr ⟨_, rfl, by simp [AV.good]⟩) (by simp [allWr, keys, Res.wr]) ?_
   repeat' (first | omega | assumption | (show AL.ahead _ _ _ = true; rfl) | (first | apply brF | apply brT | apply brVF | apply brVT) <;> intro _ | (with_reducible refine And.intro ?_ ?_) | (refine callK_by (look_spec _ b) ?_) | (simp -dsimp -implicitDefEqProofs only [go_sem]))
   refine callK_by (upto_spec _ (nx + 88) ⟨b, 0⟩ 64 (by omega) (by simpa using hb)) ?_
   rw [← hu]
   repeat' (first | omega | assumption | (show AL.ahead _ _ _ = true; rfl) | (first | apply brF | apply brT | apply brVF | apply brVT) <;> intro _ | (with_reducible refine And.intro ?_ ?_) | (simp -dsimp -implicitDefEqProofs only [go_sem]))
   refine callK_by (upto_spec _ (nx + 88) u.2 64 (by omega) (by omega)) ?_
   rw [← hv]
   repeat' (first | omega | assumption | (show AL.ahead _ _ _ = true; rfl) | (first | apply brF | apply brT | apply brVF | apply brVT) <;> intro _ | (with_reducible refine And.intro ?_ ?_) | (simp -dsimp -implicitDefEqProofs only [go_sem]))
   refine callK_by (upto_spec _ (nx + 88) v.2 8 (by omega) (by omega)) ?_
   rw [← hk]
   repeat' (first | omega | assumption | (show AL.ahead _ _ _ = true; rfl) | (first | apply brF | apply brT | apply brVF | apply brVT) <;> intro _ | (with_reducible refine And.intro ?_ ?_) | (simp -dsimp -implicitDefEqProofs only [go_sem]))
   apply loop_keep [2, 3, 7, 15] (fun i : { i : Nat // i ≤ kn } => [(4, .sl 32 (sumsA (pathS k.2 i.1).1) (nx + 19)), (16, n64 i.1)]) (fun i => [(nx + 88, some (.obj (eyeA (pathS k.2 i.1).2))), (nx + 17, some (.tail i.1))]) (fun i => kn - i.1) ⟨0, Nat.zero_le _⟩
   ·simp -dsimp -implicitDefEqProofs only [go_sem]; try rfl
   ·simp -dsimp -implicitDefEqProofs only [go_sem, pathS, sumsA, List.map_nil]; try rfl
   ·simp -dsimp -implicitDefEqProofs only [go_sem, pathS]; try rfl
   ·intro s
    simp -dsimp -implicitDefEqProofs only [go_sem]
    try omega
   ·rintro ⟨i, hi⟩
    have hi : i ≤ kn := hi
    have hpl := pathS_len k.2 i
    simp -dsimp -implicitDefEqProofs only [go_sem, hkn]
    refine brT (fun h => ?_) (fun h => ?_)
    ·have hi2 : i < kn := by omega
     have w1 : IntKind.i64.wrap ((i : Int) + 1) = ((i + 1 : Nat) : Int) := wrapE (by omega) (by omega)
     have e1 : pathS k.2 (i + 1) = ((pathS k.2 i).1 ++ [(esumS (pathS k.2 i).2).1], (esumS (pathS k.2 i).2).2) := rfl
     repeat' (first | omega | assumption | (show AL.ahead _ _ _ = true; rfl) | (first | apply brF | apply brT | apply brVF | apply brVT) <;> intro _ | (with_reducible refine And.intro ?_ ?_) | (refine callK_by (esum_spec _ (nx + 88) (pathS k.2 i).2 (by omega) (by omega)) ?_) | (simp -dsimp -implicitDefEqProofs only [go_sem, w1, sums_snoc, hpl.1]))
     exact ⟨⟨i + 1, hi2⟩, by show kn - (i + 1) < kn - i; omega, ⟨by rw [e1], rfl, by rw [hkn]⟩, rfl, rfl⟩
    ·have e : i = kn := by omega
     subst e
     repeat' (first | omega | assumption | (show AL.ahead _ _ _ = true; rfl) | (first | apply brF | apply brT | apply brVF | apply brVT) <;> intro _ | (with_reducible refine And.intro ?_ ?_) | (refine callK_by (etext_spec _ (nx + 88) q.2 4096 (by omega) (by omega)) ?_) | (refine callK_by (done_spec _ (nx + 88) t.2 (by omega)) ?_) | (simp -dsimp -implicitDefEqProofs only [go_sem, ← hq, ← ht]))
     all_goals rw [l4.1]

  exact (key.outle (av' := .tup [n64 u.1, n64 v.1, .sl 32 (sumsA q.1) 0, .sl 1 (u8s t.1) 0, n64 0]) ⟨_, _, rfl, AV.le_refl _, _, _, rfl, AV.le_refl _, _, _, rfl, ⟨_, _, rfl, AV.les_refl _, .inr (.inl rfl)⟩, AV.les_refl _⟩).forget0 ⟨rfl, fun i x y h1 h2 => .inl (by rw [h1] at h2; exact Option.some.inj h2)⟩ (by simp [AV.nb, AV.nbs, nb_u8s, nb_sums]) (by simp [keys])
 ·rw [if_neg hd]
  have key : FnSpec Tryz.prog 175 nx [.sl 1 (u8s b) 0] [] (.tup [n64 0, n64 0, .sl 32 [] (nx + 260), .sl 0 [] 1, n64 (doneS t.2)]) [(nx + 88, some (.obj (eyeA (if t.2.e = 0 ∧ 0 < t.2.b.length then ⟨t.2.b, 3⟩ else t.2)))), (nx + 17, some (.tail q.1.length)), (nx + 258, some (.tail 0))] 4000 := by
   refine FnSpec.of_code (cx := cx) (an := {tk := [(4, [([], 32)])]}) (rs := [.tmp 2, .tmp 3, .tmp 4, .tmp 5, .tmp 6]) mo Tryz.func175 rfl rfl (by kernel_rfl) (by kernel_rfl) (by show 1 ≤ _; decide) (.inr ⟨_, rfl, by simp [AV.good]⟩) (by simp [allWr, keys, Res.wr]) ?_
   repeat' (first | omega | assumption | (show AL.ahead _ _ _ = true; rfl) | (first | apply brF | apply brT | apply brVF | apply brVT) <;> intro _ | (with_reducible refine And.intro ?_ ?_) | (refine callK_by (look_spec _ b) ?_) | (simp -dsimp -implicitDefEqProofs only [go_sem]))
   refine callK_by (upto_spec _ (nx + 88) ⟨b, 0⟩ 64 (by omega) (by simpa using hb)) ?_
   rw [← hu]
   repeat' (first | omega | assumption | (show AL.ahead _ _ _ = true; rfl) | (first | apply brF | apply brT | apply brVF | apply brVT) <;> intro _ | (with_reducible refine And.intro ?_ ?_) | (simp -dsimp -implicitDefEqProofs only [go_sem]))
   refine callK_by (upto_spec _ (nx + 88) u.2 64 (by omega) (by omega)) ?_
   rw [← hv]
   repeat' (first | omega | assumption | (show AL.ahead _ _ _ = true; rfl) | (first | apply brF | apply brT | apply brVF | apply brVT) <;> intro _ | (with_reducible refine And.intro ?_ ?_) | (simp -dsimp -implicitDefEqProofs only [go_sem]))
   refine callK_by (upto_spec _ (nx + 88) v.2 8 (by omega) (by omega)) ?_
   rw [← hk]
   repeat' (first | omega | assumption | (show AL.ahead _ _ _ = true; rfl) | (first | apply brF | apply brT | apply brVF | apply brVT) <;> intro _ | (with_reducible refine And.intro ?_ ?_) | (simp -dsimp -implicitDefEqProofs only [go_sem]))
   apply loop_keep [2, 3, 7, 15] (fun i : { i : Nat // i ≤ kn } => [(4, .sl 32 (sumsA (pathS k.2 i.1).1) (nx + 19)), (16, n64 i.1)]) (fun i => [(nx + 88, some (.obj (eyeA (pathS k.2 i.1).2))), (nx + 17, some (.tail i.1))]) (fun i => kn - i.1) ⟨0, Nat.zero_le _⟩
   ·simp -dsimp -implicitDefEqProofs only [go_sem]; try rfl
   ·simp -dsimp -implicitDefEqProofs only [go_sem, pathS, sumsA, List.map_nil]; try rfl
   ·simp -dsimp -implicitDefEqProofs only [go_sem, pathS]; try rfl
   ·intro s
    simp -dsimp -implicitDefEqProofs only [go_sem]
    try omega
   ·rintro ⟨i, hi⟩
    have hi : i ≤ kn := hi
    have hpl := pathS_len k.2 i
    simp -dsimp -implicitDefEqProofs only [go_sem, hkn]
    refine brT (fun h => ?_) (fun h => ?_)
    ·have hi2 : i < kn := by omega
     have w1 : IntKind.i64.wrap ((i : Int) + 1) = ((i + 1 : Nat) : Int) := wrapE (by omega) (by omega)
     have e1 : pathS k.2 (i + 1) = ((pathS k.2 i).1 ++ [(esumS (pathS k.2 i).2).1], (esumS (pathS k.2 i).2).2) := rfl
     repeat' (first | omega | assumption | (show AL.ahead _ _ _ = true; rfl) | (first | apply brF | apply brT | apply brVF | apply brVT) <;> intro _ | (with_reducible refine And.intro ?_ ?_) | (refine callK_by (esum_spec _ (nx + 88) (pathS k.2 i).2 (by omega) (by omega)) ?_) | (simp -dsimp -implicitDefEqProofs only [go_sem, w1, sums_snoc, hpl.1]))
     exact ⟨⟨i + 1, hi2⟩, by show kn - (i + 1) < kn - i; omega, ⟨by rw [e1], rfl, by rw [hkn]⟩, rfl, rfl⟩
    ·have e : i = kn := by omega
     subst e
     repeat' (first | omega | assumption | (show AL.ahead _ _ _ = true; rfl) | (first | apply brF | apply brT | apply brVF | apply brVT) <;> intro _ | (with_reducible refine And.intro ?_ ?_) | (refine callK_by (etext_spec _ (nx + 88) q.2 4096 (by omega) (by omega)) ?_) | (refine callK_by (done_spec _ (nx + 88) t.2 (by omega)) ?_) | (simp -dsimp -implicitDefEqProofs only [go_sem, ← hq, ← ht]))
     all_goals rw [l4.1]

  exact (key.outle (av' := .tup [n64 0, n64 0, .sl 32 [] 0, .sl 0 [] 1, n64 (doneS t.2)]) ⟨_, _, rfl, AV.le_refl _, _, _, rfl, AV.le_refl _, _, _, rfl, ⟨_, _, rfl, AV.les_refl _, .inr (.inl rfl)⟩, AV.les_refl _⟩).forget0 ⟨rfl, fun i x y h1 h2 => .inl (by rw [h1] at h2; exact Option.some.inj h2)⟩ (by simp [AV.nb, AV.nbs, nb_u8s]) (by simp [keys])
end Go.Proofs.YtaghcjbpjnpkbaaGreat

namespace Go.Proofs.YtaghcjbpjnpkbaaGreat
open Go Go.AL
/-! ### one number -/
def readC (b : List UInt8) : Chan × Int :=
 let a := uptoS ⟨b, 0⟩ 1048576
 let c := uptoS a.2 255
 let p := uptoS c.2 255
 let t := esumS p.2
 let i := uptoS t.2 16
 let k := uptoS i.2 1125899906842624
 let w := uptoS k.2 1073741824
 let v := uptoS w.2 1073741824
 (⟨a.1, c.1, p.1, ⟨t.1, i.1⟩, k.1, w.1, v.1⟩, doneS v.2)
def chanZ0 : Chan := ⟨0, 0, 0, ⟨zeroS, 0⟩, 0, 0, 0⟩
noncomputable def rdC (b : List UInt8) : Chan × Int := if (readC b).2 = 0 then (@ite _ (chanR (readC b).1) (Classical.propDecidable _) ((readC b).1, 0) (chanZ0, 4)) else (chanZ0, (readC b).2)
end Go.Proofs.YtaghcjbpjnpkbaaGreat

/-
 Transactions are read.
-/
import Derived.Test.YtaghcjbpjnpkbaaGreatEP112
set_option linter.unusedSimpArgs false
set_option linter.unusedVariables false
set_option maxRecDepth 100000
set_option maxHeartbeats 8000000
namespace Go.Proofs.YtaghcjbpjnpkbaaGreat
open Go Go.AL Go.Proofs.YtaghcjbpjnpkbaaGreat.T
noncomputable def manyRd {α : Type} (f : ES → α × ES) (s : ES) : Nat → List α × ES
 | 0 => ([], s)
 | i + 1 => ((manyRd f s i).1 ++ [(f (manyRd f s i).2).1], (f (manyRd f s i).2).2)
theorem manyRd_len {α : Type} {f : ES → α × ES} {p : α → Prop} (hf : ∀ s, p (f s).1 ∧ (f s).2.b.length ≤ s.b.length) (s : ES) : ∀ i, (manyRd f s i).1.length = i ∧ (manyRd f s i).2.b.length ≤ s.b.length ∧ ∀ x ∈ (manyRd f s i).1, p x
 | 0 => ⟨rfl, Nat.le_refl _, fun x hx => by simp [manyRd] at hx⟩
 | i + 1 => by
  obtain ⟨h1, h2, h3⟩ := manyRd_len hf s i
  have h4 := hf (manyRd f s i).2
  refine ⟨by simp [manyRd, h1], Nat.le_trans h4.2 h2, fun x hx => ?_⟩
  rcases List.mem_append.1 hx with q | q
  ·exact h3 x q
  ·rw [List.mem_singleton.1 q]; exact h4.1
theorem manyRd_s {α : Type} (f : ES → α × ES) (s : ES) (i : Nat) : manyRd f s (i + 1) = ((manyRd f s i).1 ++ [(f (manyRd f s i).2).1], (f (manyRd f s i).2).2) := rfl
theorem textS_64 (s : ES) : (textS s 64).1.length ≤ 64 := by
 have h := uptoS_rng s 64 (by decide)
 simp only [textS, rawS]
 split
 ·split
  ·simp
  ·simp only [List.length_take]; omega
 ·simp
def inRd (s : ES) : In_ × ES :=
 let h := esumS s
 let a := uptoS h.2 16
 let w := uptoS a.2 16
 let p := textS w.2 64
 (⟨⟨h.1, a.1⟩, w.1, p.1⟩, p.2)
theorem inRd_len (s : ES) : (inRd s).1.pre.length ≤ 64 ∧ (inRd s).2.b.length ≤ s.b.length := by
 have l1 := esumS_len s
 have l2 := uptoS_len (esumS s).2 16
 have l3 := uptoS_len (uptoS (esumS s).2 16).2 16
 have l4 := textS_len (uptoS (uptoS (esumS s).2 16).2 16).2 64
 exact ⟨textS_64 _, by show (textS (uptoS (uptoS (esumS s).2 16).2 16).2 64).2.b.length ≤ _; omega⟩
def opRd (s : ES) : Op_ × ES :=
 let k := uptoS s 7
 let t := uptoS k.2 16
 let c := uptoS t.2 1048576
 let a := uptoS c.2 1125899906842624
 let h := esumS a.2
 let d := textS h.2 65536
 (⟨k.1, t.1, c.1, a.1, h.1, d.1⟩, d.2)
theorem opRd_len (s : ES) : (opRd s).1.data.length ≤ s.b.length ∧ (opRd s).2.b.length ≤ s.b.length := by
 have l1 := uptoS_len s 7
 have l2 := uptoS_len (uptoS s 7).2 16
 have l3 := uptoS_len (uptoS (uptoS s 7).2 16).2 1048576
 have l4 := uptoS_len (uptoS (uptoS (uptoS s 7).2 16).2 1048576).2 1125899906842624
 have l5 := esumS_len (uptoS (uptoS (uptoS (uptoS s 7).2 16).2 1048576).2 1125899906842624).2
 have l6 := textS_len (esumS (uptoS (uptoS (uptoS (uptoS s 7).2 16).2 1048576).2 1125899906842624).2).2 65536
 have l7 := textS_fst (esumS (uptoS (uptoS (uptoS (uptoS s 7).2 16).2 1048576).2 1125899906842624).2).2 65536 (by decide)
 exact ⟨by show (textS (esumS (uptoS (uptoS (uptoS (uptoS s 7).2 16).2 1048576).2 1125899906842624).2).2 65536).1.length ≤ _; omega, by show (textS (esumS (uptoS (uptoS (uptoS (uptoS s 7).2 16).2 1048576).2 1125899906842624).2).2 65536).2.b.length ≤ _; omega⟩
def signRd (s : ES) : Sign_ × ES :=
 let k := uptoS s 255
 let h := esumS k.2
 (⟨k.1, h.1⟩, h.2)
theorem signRd_len (s : ES) : True ∧ (signRd s).2.b.length ≤ s.b.length := by
 have l1 := uptoS_len s 255
 have l2 := esumS_len (uptoS s 255).2
 exact ⟨trivial, by show (esumS (uptoS s 255).2).2.b.length ≤ _; omega⟩
theorem outRd_len2 (s : ES) : ((outRd s).1.ways.length ≤ 16 ∧ ∀ w ∈ (outRd s).1.ways, w.keys.length ≤ 16) ∧ (outRd s).2.b.length ≤ s.b.length := by
 obtain ⟨h1, h2, h3⟩ := outRd_len s
 exact ⟨⟨h1, h3⟩, h2⟩
noncomputable def txRd (b : List UInt8) : Tx_ × Int :=
 let ni := uptoS ⟨b, 0⟩ 16
 let is := manyRd inRd ni.2 ni.1.toNat
 let no := uptoS is.2 16
 let os := manyRd outRd no.2 no.1.toNat
 let o := opRd os.2
 let ns := uptoS o.2 16
 let ss := manyRd signRd ns.2 ns.1.toNat
 if doneS ss.2 = 0 then (if txB ⟨is.1, os.1, o.1, ss.1⟩ = true then (⟨is.1, os.1, o.1, ss.1⟩, 0) else (⟨is.1, os.1, o.1, ss.1⟩, 4)) else (⟨is.1, os.1, o.1, ss.1⟩, doneS ss.2)
theorem ins_snoc (l : List In_) (w : In_) : insA l ++ [inA w] = insA (l ++ [w]) := by simp [insA]
theorem outs_snoc (l : List Out_) (w : Out_) : outsA l ++ [outA w] = outsA (l ++ [w]) := by simp [outsA]
theorem signs_snoc (l : List Sign_) (w : Sign_) : signsA l ++ [signA w] = signsA (l ++ [w]) := by simp [signsA]
attribute [local go_sem] nb_u8s nb_vals vals_len u8s_length nb_sum sumA List.length_replicate u8_wrap take32 List.drop_zero zero_sum sum_h nb_eye u8s_nil ways_len nb_ways ins_len outs_len signs_len nb_ins nb_outs nb_signs outA_good outA_agg outA_csz nb_out1
theorem tread_spec (nx : Nat) (b : List UInt8) (hb : b.length < 2 ^ 36) : FnSpec Tryz.prog 180 nx [.sl 1 (u8s b) 0] [] (.tup [unA (txRd b), n64 (txRd b).2]) [] 0 := by
 have l1 := uptoS_len ⟨b, 0⟩ 16
 have r1 := uptoS_rng ⟨b, 0⟩ 16 (by decide)
 have u1 := fun nc m (q : m < nc) => upto_spec nc m ⟨b, 0⟩ 16 q (by simp only; omega)
 simp only at l1
 obtain ⟨ni, hni⟩ : ∃ x, x = uptoS ⟨b, 0⟩ 16 := ⟨_, rfl⟩
 rw [← hni] at l1 r1 u1
 obtain ⟨kn, hkn⟩ : ∃ kn : Nat, ni.1 = (kn : Int) := ⟨ni.1.toNat, by omega⟩
 obtain ⟨is, his⟩ : ∃ x, x = manyRd inRd ni.2 kn := ⟨_, rfl⟩
 have l2 := manyRd_len (f := inRd) (p := fun x => x.pre.length ≤ 64) inRd_len ni.2 kn
 rw [← his] at l2
 have l3 := uptoS_len is.2 16
 have r3 := uptoS_rng is.2 16 (by decide)
 have u3 := fun nc m (q : m < nc) => upto_spec nc m is.2 16 q (by omega)
 obtain ⟨no, hno⟩ : ∃ x, x = uptoS is.2 16 := ⟨_, rfl⟩
 rw [← hno] at l3 r3 u3
 obtain ⟨kq, hkq⟩ : ∃ kn : Nat, no.1 = (kn : Int) := ⟨no.1.toNat, by omega⟩
 obtain ⟨os, hos⟩ : ∃ x, x = manyRd outRd no.2 kq := ⟨_, rfl⟩
 have l4 := manyRd_len (f := outRd) (p := fun o => o.ways.length ≤ 16 ∧ ∀ w ∈ o.ways, w.keys.length ≤ 16) outRd_len2 no.2 kq
 rw [← hos] at l4
 obtain ⟨ok, hok⟩ : ∃ x, x = uptoS os.2 7 := ⟨_, rfl⟩
 obtain ⟨ot, hot⟩ : ∃ x, x = uptoS ok.2 16 := ⟨_, rfl⟩
 obtain ⟨oc, hoc⟩ : ∃ x, x = uptoS ot.2 1048576 := ⟨_, rfl⟩
 obtain ⟨oa, hoa⟩ : ∃ x, x = uptoS oc.2 1125899906842624 := ⟨_, rfl⟩
 obtain ⟨oh, hoh⟩ : ∃ x, x = esumS oa.2 := ⟨_, rfl⟩
 obtain ⟨od, hod⟩ : ∃ x, x = textS oh.2 65536 := ⟨_, rfl⟩
 have o1 := uptoS_len os.2 7
 have o2 := uptoS_len ok.2 16
 have o3 := uptoS_len ot.2 1048576
 have o4 := uptoS_len oc.2 1125899906842624
 have o5 := esumS_len oa.2
 have o6 := textS_len oh.2 65536
 have o7 := textS_fst oh.2 65536 (by decide)
 have v1 := fun nc m (q : m < nc) => upto_spec nc m os.2 7 q (by omega)
 rw [← hok] at o1 v1
 have v2 := fun nc m (q : m < nc) => upto_spec nc m ok.2 16 q (by omega)
 rw [← hot] at o2 v2
 have v3 := fun nc m (q : m < nc) => upto_spec nc m ot.2 1048576 q (by omega)
 rw [← hoc] at o3 v3
 have v4 := fun nc m (q : m < nc) => upto_spec nc m oc.2 1125899906842624 q (by omega)
 rw [← hoa] at o4 v4
 have v5 := fun nc m (q : m < nc) => esum_spec nc m oa.2 q (by omega)
 rw [← hoh] at o5 v5
 have v6 := fun nc m (q : m < nc) => etext_spec nc m oh.2 65536 q (by omega)
 rw [← hod] at o6 o7 v6
 have hop : opRd os.2 = (⟨ok.1, ot.1, oc.1, oa.1, oh.1, od.1⟩, od.2) := by rw [hod, hoh, hoa, hoc, hot, hok]; rfl
 have l5 := uptoS_len od.2 16
 have r5 := uptoS_rng od.2 16 (by decide)
 have u5 := fun nc m (q : m < nc) => upto_spec nc m od.2 16 q (by omega)
 obtain ⟨ns, hns⟩ : ∃ x, x = uptoS od.2 16 := ⟨_, rfl⟩
 rw [← hns] at l5 r5 u5
 obtain ⟨ks, hks⟩ : ∃ kn : Nat, ns.1 = (kn : Int) := ⟨ns.1.toNat, by omega⟩
 obtain ⟨ss, hss⟩ : ∃ x, x = manyRd signRd ns.2 ks := ⟨_, rfl⟩
 have l6 := manyRd_len (f := signRd) (p := fun _ => True) signRd_len ns.2 ks
 rw [← hss] at l6
 have hdn := fun nc m (q : m < nc) => done_spec nc m ss.2 q
 obtain ⟨t, ht⟩ : ∃ t : Tx_, t = ⟨is.1, os.1, ⟨ok.1, ot.1, oc.1, oa.1, oh.1, od.1⟩, ss.1⟩ := ⟨_, rfl⟩
 have htL : txL t := by
  rw [ht]
  refine ⟨fun x hx => ?_, by simp only; omega, by simp only; omega, by simp only; omega, by simp only; omega, fun o ho => ?_⟩
  ·have := l2.2.2 x hx; omega
  ·obtain ⟨q1, q2⟩ := l4.2.2 o ho
   exact ⟨by omega, fun w hw => by have := q2 w hw; omega⟩
 have htr := fun nc => txR_spec nc t htL
 have eR : txRd b = if doneS ss.2 = 0 then (if txB t = true then (t, 0) else (t, 4)) else (t, doneS ss.2) := by
  have e1 : ni.1.toNat = kn := by omega
  have e2 : no.1.toNat = kq := by omega
  have e3 : ns.1.toNat = ks := by omega
  unfold txRd
  simp only
  rw [← hni, e1, ← his, ← hno, e2, ← hos, hop]
  simp only
  rw [← hns, e3, ← hss, ← ht]
 obtain ⟨R, hR⟩ : ∃ R, R = txRd b := ⟨_, rfl⟩
 rw [← hR] at eR ⊢
 clear hR
 rw [hkn] at u1 r1
 rw [hkq] at u3 r3
 rw [hks] at u5 r5
 refine FnSpec.of_code (cx := cx) (an := {tk := [(5, [([0], 35), ([1], 2), ([3], 33)])], fg := [84, 88]}) (rs := [.cell 2 40, .tmp 3]) mo Tryz.func180 rfl rfl (by kernel_rfl) (by kernel_rfl) (by show 1 ≤ _; decide) (.inr ⟨_, rfl, by unfold unA; split <;> simp [AV.good, txA, txZA]⟩) (by simp [allWr, keys, Res.wr]) ?_
 repeat' (first | omega | assumption | (show AL.ahead _ _ _ = true; rfl) | (first | apply brF | apply brT | apply brVF | apply brVT) <;> intro _ | (with_reducible refine And.intro ?_ ?_) | (refine callK_by (look_spec _ b) ?_) | (simp -dsimp -implicitDefEqProofs only [go_sem]))
 refine callK_by (u1 _ (nx + 64) (by omega)) ?_
 repeat' (first | omega | assumption | (show AL.ahead _ _ _ = true; rfl) | (first | apply brF | apply brT | apply brVF | apply brVT) <;> intro _ | (with_reducible refine And.intro ?_ ?_) | (simp -dsimp -implicitDefEqProofs only [go_sem]))
 apply loop_keep [2, 4, 5, 12] (fun i : { i : Nat // i ≤ kn } => [(13, n64 i.1)]) (fun i => [(nx + 64, some (.obj (eyeA (manyRd inRd ni.2 i.1).2))), (nx + 65, some (.obj (.agg 40 [.sl 35 (insA (manyRd inRd ni.2 i.1).1) (nx + 68), .sl 2 (outsA []) (nx + 69), .agg 37 [n64 0, n64 0, n64 0, n64 0, .vec 1 (u8s zeroS.b), .sl 1 [] 1], .sl 33 (signsA []) (nx + 70)]))), (nx + 68, some (.tail 0)), (nx + 67, some (.tail 0)), (nx + 66, some (.tail i.1)), (nx, some (.obj (.agg 40 [.sl 35 [] 1, .sl 2 [] 1, .agg 37 [n64 0, n64 0, n64 0, n64 0, .vec 1 (u8s zeroS.b), .sl 1 [] 1], .sl 33 [] 1])))]) (fun i => kn - i.1) ⟨0, Nat.zero_le _⟩
 ·simp -dsimp -implicitDefEqProofs only [go_sem]; try rfl
 ·simp -dsimp -implicitDefEqProofs only [go_sem]; try rfl
 ·simp -dsimp -implicitDefEqProofs only [go_sem, manyRd, insA, outsA, signsA, List.map_nil]; try rfl
 ·intro s
  simp -dsimp -implicitDefEqProofs only [go_sem]
  try omega
 ·rintro ⟨i, hi⟩
  have hi : i ≤ kn := hi
  simp -dsimp -implicitDefEqProofs only [go_sem]
  refine brT (fun h => ?_) (fun h => ?_)
  ·have hi2 : i < kn := by omega
   have w1 : IntKind.i64.wrap ((i : Int) + 1) = ((i + 1 : Nat) : Int) := wrapE (by omega) (by omega)
   have hml := manyRd_len (f := inRd) (p := fun x => x.pre.length ≤ 64) inRd_len ni.2 i
   have e1 := manyRd_s inRd ni.2 i
   obtain ⟨W, hW⟩ : ∃ W, W = manyRd inRd ni.2 i := ⟨_, rfl⟩
   rw [← hW] at e1 hml ⊢
   obtain ⟨a1, ha1⟩ : ∃ x, x = esumS W.2 := ⟨_, rfl⟩
   obtain ⟨a2, ha2⟩ : ∃ x, x = uptoS a1.2 16 := ⟨_, rfl⟩
   obtain ⟨a3, ha3⟩ : ∃ x, x = uptoS a2.2 16 := ⟨_, rfl⟩
   obtain ⟨a4, ha4⟩ : ∃ x, x = textS a3.2 64 := ⟨_, rfl⟩
   have q1 := esumS_len W.2
   have q2 := uptoS_len a1.2 16
   have q3 := uptoS_len a2.2 16
   have p1 := fun nc m (q : m < nc) => esum_spec nc m W.2 q (by omega)
   rw [← ha1] at q1 p1
   have p2 := fun nc m (q : m < nc) => upto_spec nc m a1.2 16 q (by omega)
   rw [← ha2] at q2 p2
   have p3 := fun nc m (q : m < nc) => upto_spec nc m a2.2 16 q (by omega)
   rw [← ha3] at q3 p3
   have p4 := fun nc m (q : m < nc) => etext_spec nc m a3.2 64 q (by omega)
   rw [← ha4] at p4
   have eW : inRd W.2 = (⟨⟨a1.1, a2.1⟩, a3.1, a4.1⟩, a4.2) := by rw [ha4, ha3, ha2, ha1]; rfl
   rw [eW] at e1
   repeat' (first | omega | assumption | (show AL.ahead _ _ _ = true; rfl) | (first | apply brF | apply brT | apply brVF | apply brVT) <;> intro _ | (with_reducible refine And.intro ?_ ?_) | (refine callK_by (p1 _ (nx + 64) (by omega)) ?_) | (simp -dsimp -implicitDefEqProofs only [go_sem, w1, hml.1]))
   refine callK_by (p2 _ (nx + 64) (by omega)) ?_
   repeat' (first | omega | assumption | (show AL.ahead _ _ _ = true; rfl) | (first | apply brF | apply brT | apply brVF | apply brVT) <;> intro _ | (with_reducible refine And.intro ?_ ?_) | (simp -dsimp -implicitDefEqProofs only [go_sem, w1, hml.1]))
   refine callK_by (p3 _ (nx + 64) (by omega)) ?_
   repeat' (first | omega | assumption | (show AL.ahead _ _ _ = true; rfl) | (first | apply brF | apply brT | apply brVF | apply brVT) <;> intro _ | (with_reducible refine And.intro ?_ ?_) | (simp -dsimp -implicitDefEqProofs only [go_sem, w1, hml.1]))
   refine callK_by (p4 _ (nx + 64) (by omega)) ?_
   repeat' (first | omega | assumption | (show AL.ahead _ _ _ = true; rfl) | (first | apply brF | apply brT | apply brVF | apply brVT) <;> intro _ | (with_reducible refine And.intro ?_ ?_) | (simp -dsimp -implicitDefEqProofs only [go_sem, w1, hml.1]))
   exact ⟨⟨i + 1, hi2⟩, by show kn - (i + 1) < kn - i; omega, rfl, by rw [e1], by rw [e1]; simp only; rw [← ins_snoc]; rfl, rfl⟩
  ·have e : kn = i := by omega
   subst e
   rw [← his]
   repeat' (first | omega | assumption | (show AL.ahead _ _ _ = true; rfl) | (first | apply brF | apply brT | apply brVF | apply brVT) <;> intro _ | (with_reducible refine And.intro ?_ ?_) | (simp -dsimp -implicitDefEqProofs only [go_sem]))
   refine callK_by (u3 _ (nx + 64) (by omega)) ?_
   repeat' (first | omega | assumption | (show AL.ahead _ _ _ = true; rfl) | (first | apply brF | apply brT | apply brVF | apply brVT) <;> intro _ | (with_reducible refine And.intro ?_ ?_) | (simp -dsimp -implicitDefEqProofs only [go_sem]))
   apply loop_keep [2, 4, 5, 35] (fun i : { i : Nat // i ≤ kq } => [(36, n64 i.1)]) (fun i => [(nx + 64, some (.obj (eyeA (manyRd outRd no.2 i.1).2))), (nx + 65, some (.obj (.agg 40 [.sl 35 (insA is.1) (nx + 68), .sl 2 (outsA (manyRd outRd no.2 i.1).1) (nx + 69), .agg 37 [n64 0, n64 0, n64 0, n64 0, .vec 1 (u8s zeroS.b), .sl 1 [] 1], .sl 33 (signsA []) (nx + 70)]))), (nx + 68, some (.tail 0)), (nx + 67, some (.tail i.1)), (nx + 66, some (.tail kn)), (nx, some (.obj (.agg 40 [.sl 35 [] 1, .sl 2 [] 1, .agg 37 [n64 0, n64 0, n64 0, n64 0, .vec 1 (u8s zeroS.b), .sl 1 [] 1], .sl 33 [] 1])))]) (fun i => kq - i.1) ⟨0, Nat.zero_le _⟩
   ·simp -dsimp -implicitDefEqProofs only [go_sem]; try rfl
   ·simp -dsimp -implicitDefEqProofs only [go_sem]; try rfl
   ·simp -dsimp -implicitDefEqProofs only [go_sem, manyRd, insA, outsA, signsA, List.map_nil]; try rfl
   ·intro s
    simp -dsimp -implicitDefEqProofs only [go_sem]
    try omega
   ·rintro ⟨i, hi⟩
    have hi : i ≤ kq := hi
    simp -dsimp -implicitDefEqProofs only [go_sem]
    refine brT (fun h => ?_) (fun h => ?_)
    ·have hi2 : i < kq := by omega
     have w1 : IntKind.i64.wrap ((i : Int) + 1) = ((i + 1 : Nat) : Int) := wrapE (by omega) (by omega)
     have hml := manyRd_len (f := outRd) (p := fun o => o.ways.length ≤ 16 ∧ ∀ w ∈ o.ways, w.keys.length ≤ 16) outRd_len2 no.2 i
     have e1 := manyRd_s outRd no.2 i
     obtain ⟨W, hW⟩ : ∃ W, W = manyRd outRd no.2 i := ⟨_, rfl⟩
     rw [← hW] at e1 hml ⊢
     have p1 := fun nc m (q : m < nc) => lget_spec nc m W.2 q (by omega)
     obtain ⟨V, hV⟩ : ∃ V, V = outRd W.2 := ⟨_, rfl⟩
     rw [← hV] at e1 p1
     clear hV
     repeat' (first | omega | assumption | (show AL.ahead _ _ _ = true; rfl) | (first | apply brF | apply brT | apply brVF | apply brVT) <;> intro _ | (with_reducible refine And.intro ?_ ?_) | (refine callK_by (p1 _ (nx + 64) (by omega)) ?_) | (simp -dsimp -implicitDefEqProofs only [go_sem, w1, hml.1]))
     exact ⟨⟨i + 1, hi2⟩, by show kq - (i + 1) < kq - i; omega, rfl, by rw [e1], by rw [e1]; simp only; rw [← outs_snoc], rfl⟩
    ·have e : kq = i := by omega
     subst e
     rw [← hos]
     repeat' (first | omega | assumption | (show AL.ahead _ _ _ = true; rfl) | (first | apply brF | apply brT | apply brVF | apply brVT) <;> intro _ | (with_reducible refine And.intro ?_ ?_) | (simp -dsimp -implicitDefEqProofs only [go_sem]))
     refine callK_by (v1 _ (nx + 64) (by omega)) ?_
     repeat' (first | omega | assumption | (show AL.ahead _ _ _ = true; rfl) | (first | apply brF | apply brT | apply brVF | apply brVT) <;> intro _ | (with_reducible refine And.intro ?_ ?_) | (simp -dsimp -implicitDefEqProofs only [go_sem]))
     refine callK_by (v2 _ (nx + 64) (by omega)) ?_
     repeat' (first | omega | assumption | (show AL.ahead _ _ _ = true; rfl) | (first | apply brF | apply brT | apply brVF | apply brVT) <;> intro _ | (with_reducible refine And.intro ?_ ?_) | (simp -dsimp -implicitDefEqProofs only [go_sem]))
     refine callK_by (v3 _ (nx + 64) (by omega)) ?_
     repeat' (first | omega | assumption | (show AL.ahead _ _ _ = true; rfl) | (first | apply brF | apply brT | apply brVF | apply brVT) <;> intro _ | (with_reducible refine And.intro ?_ ?_) | (simp -dsimp -implicitDefEqProofs only [go_sem]))
     refine callK_by (v4 _ (nx + 64) (by omega)) ?_
     repeat' (first | omega | assumption | (show AL.ahead _ _ _ = true; rfl) | (first | apply brF | apply brT | apply brVF | apply brVT) <;> intro _ | (with_reducible refine And.intro ?_ ?_) | (simp -dsimp -implicitDefEqProofs only [go_sem]))
     refine callK_by (v5 _ (nx + 64) (by omega)) ?_
     repeat' (first | omega | assumption | (show AL.ahead _ _ _ = true; rfl) | (first | apply brF | apply brT | apply brVF | apply brVT) <;> intro _ | (with_reducible refine And.intro ?_ ?_) | (simp -dsimp -implicitDefEqProofs only [go_sem]))
     refine callK_by (v6 _ (nx + 64) (by omega)) ?_
     repeat' (first | omega | assumption | (show AL.ahead _ _ _ = true; rfl) | (first | apply brF | apply brT | apply brVF | apply brVT) <;> intro _ | (with_reducible refine And.intro ?_ ?_) | (simp -dsimp -implicitDefEqProofs only [go_sem]))
     refine callK_by (u5 _ (nx + 64) (by omega)) ?_
     repeat' (first | omega | assumption | (show AL.ahead _ _ _ = true; rfl) | (first | apply brF | apply brT | apply brVF | apply brVT) <;> intro _ | (with_reducible refine And.intro ?_ ?_) | (simp -dsimp -implicitDefEqProofs only [go_sem]))
     apply loop_keep [2, 4, 5, 64] (fun i : { i : Nat // i ≤ ks } => [(65, n64 i.1)]) (fun i => [(nx + 64, some (.obj (eyeA (manyRd signRd ns.2 i.1).2))), (nx + 65, some (.obj (.agg 40 [.sl 35 (insA is.1) (nx + 68), .sl 2 (outsA os.1) (nx + 69), .agg 37 [n64 ok.1, n64 ot.1, n64 oc.1, n64 oa.1, .vec 1 (u8s oh.1.b), .sl 1 (u8s od.1) 0], .sl 33 (signsA (manyRd signRd ns.2 i.1).1) (nx + 70)]))), (nx + 68, some (.tail i.1)), (nx + 67, some (.tail kq)), (nx + 66, some (.tail kn)), (nx, some (.obj (.agg 40 [.sl 35 [] 1, .sl 2 [] 1, .agg 37 [n64 0, n64 0, n64 0, n64 0, .vec 1 (u8s zeroS.b), .sl 1 [] 1], .sl 33 [] 1])))]) (fun i => ks - i.1) ⟨0, Nat.zero_le _⟩
     ·simp -dsimp -implicitDefEqProofs only [go_sem]; try rfl
     ·simp -dsimp -implicitDefEqProofs only [go_sem]; try rfl
     ·simp -dsimp -implicitDefEqProofs only [go_sem, manyRd, insA, outsA, signsA, List.map_nil]; try rfl
     ·intro s
      simp -dsimp -implicitDefEqProofs only [go_sem]
      try omega
     ·rintro ⟨i, hi⟩
      have hi : i ≤ ks := hi
      simp -dsimp -implicitDefEqProofs only [go_sem]
      refine brT (fun h => ?_) (fun h => ?_)
      ·have hi2 : i < ks := by omega
       have w1 : IntKind.i64.wrap ((i : Int) + 1) = ((i + 1 : Nat) : Int) := wrapE (by omega) (by omega)
       have hml := manyRd_len (f := signRd) (p := fun _ => True) signRd_len ns.2 i
       have e1 := manyRd_s signRd ns.2 i
       obtain ⟨W, hW⟩ : ∃ W, W = manyRd signRd ns.2 i := ⟨_, rfl⟩
       rw [← hW] at e1 hml ⊢
       obtain ⟨a1, ha1⟩ : ∃ x, x = uptoS W.2 255 := ⟨_, rfl⟩
       obtain ⟨a2, ha2⟩ : ∃ x, x = esumS a1.2 := ⟨_, rfl⟩
       have q1 := uptoS_len W.2 255
       have p1 := fun nc m (q : m < nc) => upto_spec nc m W.2 255 q (by omega)
       rw [← ha1] at q1 p1
       have p2 := fun nc m (q : m < nc) => esum_spec nc m a1.2 q (by omega)
       rw [← ha2] at p2
       have eW : signRd W.2 = (⟨a1.1, a2.1⟩, a2.2) := by rw [ha2, ha1]; rfl
       rw [eW] at e1
       repeat' (first | omega | assumption | (show AL.ahead _ _ _ = true; rfl) | (first | apply brF | apply brT | apply brVF | apply brVT) <;> intro _ | (with_reducible refine And.intro ?_ ?_) | (refine callK_by (p1 _ (nx + 64) (by omega)) ?_) | (simp -dsimp -implicitDefEqProofs only [go_sem, w1, hml.1]))
       refine callK_by (p2 _ (nx + 64) (by omega)) ?_
       repeat' (first | omega | assumption | (show AL.ahead _ _ _ = true; rfl) | (first | apply brF | apply brT | apply brVF | apply brVT) <;> intro _ | (with_reducible refine And.intro ?_ ?_) | (simp -dsimp -implicitDefEqProofs only [go_sem, w1, hml.1]))
       exact ⟨⟨i + 1, hi2⟩, by show ks - (i + 1) < ks - i; omega, rfl, by rw [e1], by rw [e1]; simp only; rw [← signs_snoc]; rfl, rfl⟩
      ·have e : ks = i := by omega
       subst e
       rw [← hss]
       simp only [ht, txA, opT] at htr
       by_cases hd : doneS ss.2 = 0
       ·rw [if_pos hd] at eR
        rw [hd] at hdn
        by_cases hB : txB t = true
        ·rw [if_pos hB] at eR
         simp only [ht] at hB
         rw [hB] at htr
         subst eR
         have eA : unA (t, 0) = txA t := if_pos rfl
         rw [eA, ht]
         repeat' (first | omega | assumption | (show AL.ahead _ _ _ = true; rfl) | (first | apply brF | apply brT | apply brVF | apply brVT) <;> intro _ | (with_reducible refine And.intro ?_ ?_) | (simp -dsimp -implicitDefEqProofs only [go_sem]))
         refine callK_by (hdn _ (nx + 64) (by omega)) ?_
         repeat' (first | omega | assumption | (show AL.ahead _ _ _ = true; rfl) | (first | apply brF | apply brT | apply brVF | apply brVT) <;> intro _ | (with_reducible refine And.intro ?_ ?_) | (refine callK_by (htr _) ?_) | (simp -dsimp -implicitDefEqProofs only [go_sem]))
         all_goals first | rfl | (simp only [nb_tx]; done) | (simp [txZA, AV.nb, AV.nbs, nb_sum]; done)
        ·rw [if_neg hB] at eR
         simp only [Bool.not_eq_true, ht] at hB
         rw [hB] at htr
         subst eR
         have eA : unA (t, 4) = txZA := if_neg (show ¬ (4 : Int) = 0 by decide)
         rw [eA]
         repeat' (first | omega | assumption | (show AL.ahead _ _ _ = true; rfl) | (first | apply brF | apply brT | apply brVF | apply brVT) <;> intro _ | (with_reducible refine And.intro ?_ ?_) | (simp -dsimp -implicitDefEqProofs only [go_sem]))
         refine callK_by (hdn _ (nx + 64) (by omega)) ?_
         repeat' (first | omega | assumption | (show AL.ahead _ _ _ = true; rfl) | (first | apply brF | apply brT | apply brVF | apply brVT) <;> intro _ | (with_reducible refine And.intro ?_ ?_) | (refine callK_by (htr _) ?_) | (simp -dsimp -implicitDefEqProofs only [go_sem]))
         all_goals first | rfl | (simp only [nb_tx]; done) | (simp [txZA, AV.nb, AV.nbs, nb_sum]; done)
       ·rw [if_neg hd] at eR
        subst eR
        have eA : unA (t, doneS ss.2) = txZA := if_neg hd
        rw [eA]
        repeat' (first | omega | assumption | (show AL.ahead _ _ _ = true; rfl) | (first | apply brF | apply brT | apply brVF | apply brVT) <;> intro _ | (with_reducible refine And.intro ?_ ?_) | (simp -dsimp -implicitDefEqProofs only [go_sem]))
        refine callK_by (hdn _ (nx + 64) (by omega)) ?_
        repeat' (first | omega | assumption | (show AL.ahead _ _ _ = true; rfl) | (first | apply brF | apply brT | apply brVF | apply brVT) <;> intro _ | (with_reducible refine And.intro ?_ ?_) | (simp -dsimp -implicitDefEqProofs only [go_sem, hd]))
        all_goals first | rfl | (simp only [nb_tx]; done) | (simp [txZA, AV.nb, AV.nbs, nb_sum]; done)
end Go.Proofs.YtaghcjbpjnpkbaaGreat

namespace Go.Proofs.YtaghcjbpjnpkbaaGreat
open Go Go.AL Go.Proofs.YtaghcjbpjnpkbaaGreat.T
theorem flat_bd {α : Type} (f : α → List UInt8) (B : Nat) : ∀ l : List α, (∀ x ∈ l, (f x).length ≤ B) → (l.flatMap f).length ≤ l.length * B
 | [], _ => by simp
 | a :: l, h => by
  have h1 := flat_bd f B l (fun x hx => h x (List.mem_cons_of_mem _ hx))
  have h2 := h a (List.mem_cons_self ..)
  simp only [List.flatMap_cons, List.length_append, List.length_cons, Nat.add_mul, Nat.one_mul]; omega
theorem txRd_ok (b : List UInt8) (hb : b.length < 2 ^ 36) : TxOk (txRd b).1 := by
 have l1 := uptoS_len ⟨b, 0⟩ 16
 have r1 := uptoS_rng ⟨b, 0⟩ 16 (by decide)
 simp only at l1
 obtain ⟨ni, hni⟩ : ∃ x, x = uptoS ⟨b, 0⟩ 16 := ⟨_, rfl⟩
 rw [← hni] at l1 r1
 obtain ⟨is, his⟩ : ∃ x, x = manyRd inRd ni.2 ni.1.toNat := ⟨_, rfl⟩
 have l2 := manyRd_len (f := inRd) (p := fun x => x.pre.length ≤ 64) inRd_len ni.2 ni.1.toNat
 rw [← his] at l2
 have l3 := uptoS_len is.2 16
 have r3 := uptoS_rng is.2 16 (by decide)
 obtain ⟨no, hno⟩ : ∃ x, x = uptoS is.2 16 := ⟨_, rfl⟩
 rw [← hno] at l3 r3
 obtain ⟨os, hos⟩ : ∃ x, x = manyRd outRd no.2 no.1.toNat := ⟨_, rfl⟩
 have l4 := manyRd_len (f := outRd) (p := fun o => o.ways.length ≤ 16 ∧ ∀ w ∈ o.ways, w.keys.length ≤ 16) outRd_len2 no.2 no.1.toNat
 rw [← hos] at l4
 obtain ⟨o, ho⟩ : ∃ x, x = opRd os.2 := ⟨_, rfl⟩
 have l5 := opRd_len os.2
 rw [← ho] at l5
 have l6 := uptoS_len o.2 16
 have r6 := uptoS_rng o.2 16 (by decide)
 obtain ⟨ns, hns⟩ : ∃ x, x = uptoS o.2 16 := ⟨_, rfl⟩
 rw [← hns] at l6 r6
 obtain ⟨ss, hss⟩ : ∃ x, x = manyRd signRd ns.2 ns.1.toNat := ⟨_, rfl⟩
 have l7 := manyRd_len (f := signRd) (p := fun _ => True) signRd_len ns.2 ns.1.toNat
 rw [← hss] at l7
 have e : (txRd b).1 = ⟨is.1, os.1, o.1, ss.1⟩ := by
  unfold txRd
  simp only
  rw [← hni, ← his, ← hno, ← hos, ← ho, ← hns, ← hss]
  split
  ·split <;> rfl
  ·rfl
 rw [e]
 have f2 := numI_len
 refine ⟨⟨fun x hx => ?_, by simp only; omega, by simp only; omega, by simp only; omega, by simp only; omega, fun o ho => ?_⟩, ?_, fun o ho w hw => ?_, fun y hy => ?_⟩
 ·have := l2.2.2 x hx; omega
 ·obtain ⟨q1, q2⟩ := l4.2.2 o ho
  exact ⟨by omega, fun w hw => by have := q2 w hw; omega⟩
 ·have b1 := flat_bd (inL true) 200 is.1 (fun x hx => by
   have h1 := l2.2.2 x hx
   have h2 := flat_numI [x.ref.at_, x.way]
   have h3 := f2 x.pre.length
   have h4 := x.ref.tx.h
   simp only [List.length_cons, List.length_nil] at h2
   simp only [inL, if_true, List.length_append, h4]; omega)
  have b2 := flat_bd outL 10000 os.1 (fun x hx => by
   obtain ⟨h1, h5⟩ := l4.2.2 x hx
   have h2 := flat_numI [x.amount, (x.ways.length : Int)]
   have h3 := flat_bd wayL 300 x.ways (fun w hw => by
    have g1 := h5 w hw
    have g2 := flat_numI w.keys
    have g3 := flat_numI [w.after, w.wait]
    have g4 := f2 w.keys.length
    have g5 := w.hash.h
    simp only [List.length_cons, List.length_nil] at g3
    simp only [wayL, List.length_append, g5]; omega)
   simp only [List.length_cons, List.length_nil] at h2
   simp only [outL, List.length_append]; omega)
  have b3 := flat_numI [o.1.kind, o.1.tower, o.1.channel, o.1.amount]
  have b4 := f2 o.1.data.length
  have b5 := o.1.root.h
  have b6 := f2 is.1.length
  have b7 := f2 os.1.length
  simp only [List.length_cons, List.length_nil] at b3
  simp only [bodyL, opL, List.length_append, b5]; omega
 ·have := (l4.2.2 o ho).2 w hw; omega
 ·have := l2.2.2 y hy; omega
noncomputable def unF : Unc := fun c b => if (openL (akeyS c) b).2 = 0 then txRd (openL (akeyS c) b).1 else (⟨[], [], op0, []⟩, (openL (akeyS c) b).2)
theorem openL_len {k : Sum} {b : List UInt8} (h : (openL k b).2 = 0) : (openL k b).1.length ≤ 65536 := by
 unfold openL at h ⊢
 split at h
 ·exact absurd h (by decide)
 ·split at h
  ·exact absurd h (by decide)
  ·rename_i h1 h2
   rw [if_neg h1, if_neg h2]
   split at h
   ·rename_i h3
    rw [if_pos h3]
    simp only [covA_len, List.length_drop]; omega
   ·exact absurd h (by decide)
theorem unA_good (r : Tx_ × Int) : (unA r).good = true ∧ (unA r).isAgg = true ∧ (unA r).csize = 40 := by
 unfold unA; split
 ·exact ⟨txA_good _, txA_agg _, txA_csz _⟩
 ·exact ⟨rfl, rfl, rfl⟩
attribute [local go_sem] nb_u8s u8s_length nb_sum List.length_replicate zero_sum sum_h u8s_nil sum_csz sum_agg sumA_good
theorem unc_spec (nx : Nat) (c : Sum) (b : List UInt8) (hb : b.length ≤ 65536) : FnSpec Tryz.prog 166 nx [sumA c, .sl 1 (u8s b) 0] [] (.tup [unA (unF c b), n64 (unF c b).2]) [] 0 := by
 have hak := fun nc => akey_spec nc c
 have hop := fun nc => open_spec nc (akeyS c) b (by omega)
 have hln := openL_len (k := akeyS c) (b := b)
 have hgd := unA_good (unF c b)
 have hnb : ∀ m, AV.nb m (unA (unF c b)) := fun m => by unfold unA; split; simp only [nb_tx]; simp [txZA, AV.nb, AV.nbs, nb_sum]
 obtain ⟨V, hV⟩ : ∃ V, V = unF c b := ⟨_, rfl⟩
 rw [← hV] at hgd hnb ⊢
 unfold unF at hV
 obtain ⟨O, hO⟩ : ∃ O, O = openL (akeyS c) b := ⟨_, rfl⟩
 rw [← hO] at hV hop hln
 clear hO
 by_cases h0 : O.2 = 0
 ·rw [if_pos h0] at hV
  have e1 : openA O = .sl 1 (u8s O.1) 0 := by unfold openA; rw [if_pos h0]
  rw [e1, h0] at hop
  have hrd := fun nc => tread_spec nc O.1 (by have := hln h0; omega)
  rw [← hV] at hrd
  obtain ⟨U, hU⟩ : ∃ U, U = unA V := ⟨_, rfl⟩
  rw [← hU] at hrd hgd hnb ⊢
  obtain ⟨g1, g2, g3⟩ := hgd
  refine FnSpec.of_code (cx := cx) (an := {}) (rs := [.cell 4 40, .tmp 5]) mo Tryz.func166 rfl rfl (by kernel_rfl) (by kernel_rfl) (by show 2 ≤ _; decide) (.inr ⟨_, rfl, by rw [hU]; unfold unA; split <;> simp [AV.good, txA, txZA]⟩) (by simp [allWr, keys, Res.wr]) ?_
  repeat' (first | omega | assumption | (show AL.ahead _ _ _ = true; rfl) | (first | apply brF | apply brT | apply brVF | apply brVT) <;> intro _ | (with_reducible refine And.intro ?_ ?_) | (refine callK_by (hak _) ?_) | (refine callK_by (hop _) ?_) | (refine callK_by (hrd _) ?_) | (simp -dsimp -implicitDefEqProofs only [go_sem, g1, g2, g3]))
  all_goals first | rfl | exact hnb _
 ·rw [if_neg h0] at hV
  have e1 : openA O = .sl 0 [] 1 := by unfold openA; rw [if_neg h0]
  rw [e1] at hop
  have e2 : unA V = txZA := by unfold unA; rw [hV, if_neg h0]
  have e3 : V.2 = O.2 := by rw [hV]
  rw [e2, e3]
  refine FnSpec.of_code (cx := cx) (an := {}) (rs := [.cell 4 40, .tmp 5]) mo Tryz.func166 rfl rfl (by kernel_rfl) (by kernel_rfl) (by show 2 ≤ _; decide) (.inr ⟨_, rfl, by simp [AV.good, txZA]⟩) (by simp [allWr, keys, Res.wr]) ?_
  repeat' (first | omega | assumption | (show AL.ahead _ _ _ = true; rfl) | (first | apply brF | apply brT | apply brVF | apply brVT) <;> intro _ | (with_reducible refine And.intro ?_ ?_) | (refine callK_by (hak _) ?_) | (refine callK_by (hop _) ?_) | (simp -dsimp -implicitDefEqProofs only [go_sem, h0, txZA]))
  all_goals rfl
theorem unF_ok : UncOk unF where
 s := fun nx c b hb => unc_spec nx c b hb
 t := fun c b h => by
  unfold unF at h ⊢
  split at h
  ·rename_i h0
   rw [if_pos h0]
   exact txRd_ok _ (by have := openL_len h0; omega)
  ·rename_i h0; exact absurd h h0
end Go.Proofs.YtaghcjbpjnpkbaaGreat

/-
 Texts that are covered under a key.
-/
import Derived.Test.YtaghcjbpjnpkbaaGreatEP108
import Derived.Test.YtaghcjbpjnpkbaaGreatEP71
import Derived.Test.YtaghcjbpjnpkbaaGreatEP24
import Derived.Test.YtaghcjbpjnpkbaaGreatEP111
import Derived.Test.YtaghcjbpjnpkbaaGreatEP41
set_option linter.unusedSimpArgs false
set_option linter.unusedVariables false
set_option maxRecDepth 100000
set_option maxHeartbeats 8000000
namespace Go.Proofs.YtaghcjbpjnpkbaaGreat
open Go Go.AL Go.Proofs.YtaghcjbpjnpkbaaGreat.T
def setRB (l : List UInt8) (i : Nat) (m : List UInt8) : List UInt8 := l.take i ++ m ++ l.drop (i + m.length)
theorem setRange_u8s (l : List UInt8) (i : Nat) (m : List UInt8) : setRange (u8s l) i (u8s m) = u8s (setRB l i m) := by
 simp [setRange, setRB, u8s]
theorem setRB_len (l : List UInt8) (i : Nat) (m : List UInt8) (h : i + m.length ≤ l.length) : (setRB l i m).length = l.length := by
 simp only [setRB, List.length_append, List.length_take, List.length_drop]; omega
theorem u8s_take' (l : List UInt8) (k : Nat) : (u8s l).take k = u8s (l.take k) := by simp [u8s]
theorem u8s_drop' (l : List UInt8) (k : Nat) : (u8s l).drop k = u8s (l.drop k) := by simp [u8s]
theorem u8s_set1 (l : List UInt8) (k : Nat) (b : UInt8) : (u8s l).set k (u8 b) = u8s (l.set k b) := by simp [u8s, List.map_set]
theorem u8s_rep0 (n : Nat) : List.replicate n (AV.val (.int .u8 0)) = u8s (List.replicate n 0) := by simp [u8s, u8]
abbrev xor8 (a b : UInt8) : UInt8 := b8 ((BitVec.ofInt IntKind.u8.bits (a.toNat : Int) ^^^ BitVec.ofInt IntKind.u8.bits (b.toNat : Int)).toNat : Int)
noncomputable def covK (key : Sum) (i : Nat) : Sum := joinS 51 [key.b, [b8 (shrs i 21), b8 (shrs i 13), b8 (shrs i 5)]]
noncomputable def covStep (key : Sum) (b l : List UInt8) (i : Nat) : List UInt8 :=
 if (i : Int).tmod 32 = 0 then (setRB l i ((covK key i).b.take (l.length - i))).set i (xor8 ((setRB l i ((covK key i).b.take (l.length - i))).getD i 0) (b.getD i 0))
 else l.set i (xor8 (l.getD i 0) (b.getD i 0))
noncomputable def covL (key : Sum) (b : List UInt8) : Nat → List UInt8
 | 0 => List.replicate b.length 0
 | i + 1 => covStep key b (covL key b i) i
theorem covL_len (key : Sum) (b : List UInt8) : ∀ i, i ≤ b.length → (covL key b i).length = b.length
 | 0, _ => by simp [covL]
 | i + 1, h => by
  have hk := covL_len key b i (by omega)
  rw [covL, covStep]
  split
  ·rw [List.length_set, setRB_len]
   ·exact hk
   ·rw [List.length_take, hk]; omega
  ·rw [List.length_set, hk]
noncomputable def covA (key : Sum) (b : List UInt8) : List UInt8 := covL key b b.length
theorem covA_len (key : Sum) (b : List UInt8) : (covA key b).length = b.length := covL_len key b _ (Nat.le_refl _)
theorem min64 : min 21 64 = 21 ∧ min 13 64 = 13 ∧ min 5 64 = 5 := by decide
theorem take_all (b : List UInt8) : (u8s b).take b.length = u8s b := List.take_of_length_le (by rw [u8s_length]; omega)
theorem bstr_eq2 (a b : List UInt8) : (bstr a = bstr b) = (a = b) := by
 simp only [eq_iff_iff]
 refine ⟨fun h => ?_, fun h => by rw [h]⟩
 simpa [bstr] using h
theorem isB_u8s (bs : List UInt8) : (∀ a, a ∈ u8s bs → isByte a) = True := by simp only [eq_iff_iff, iff_true]; exact isByte_u8s bs
theorem u8s_lit3 (a b c : UInt8) : u8s [a, b, c] = [u8 a, u8 b, u8 c] := rfl
attribute [local go_sem] nb_u8s u8s_length nb_sum List.length_replicate zero_sum sum_h u8s_nil sumA u8_wrap take32 List.drop_zero u8s_rep0 nb_vals vals_len
theorem cover_spec (nx : Nat) (key : Sum) (b : List UInt8) (hb : b.length < 2 ^ 38) : FnSpec Tryz.prog 187 nx [sumA key, .sl 1 (u8s b) 0] [] (.aref (nx + 32) 0 [] 1 0 b.length) [(nx + 32, some (.obj (.vec 1 (u8s (covA key b)))))] 900 := by
 have hk := key.h
 refine FnSpec.of_code (cx := cx) (an := {mt := [10, 36]}) (rs := [.tmp 4]) mo Tryz.func187 rfl rfl (by kernel_rfl) (by kernel_rfl) (by show 2 ≤ _; decide) (.inl rfl) (by simp [allWr, keys, Res.wr]) ?_
 repeat' (first | omega | assumption | (show AL.ahead _ _ _ = true; rfl) | (first | apply brF | apply brT | apply brVF | apply brVT) <;> intro _ | (with_reducible refine And.intro ?_ ?_) | (simp -dsimp -implicitDefEqProofs only [go_sem]))
 apply loop_keep [1, 2, 5, 12] (fun i : { i : Nat // i ≤ b.length } => [(13, n64 i.1)]) (fun i => [(nx + 32, some (.obj (.vec 1 (u8s (covL key b i.1)))))]) (fun i => b.length - i.1) ⟨0, Nat.zero_le _⟩
 ·simp -dsimp -implicitDefEqProofs only [go_sem]; try rfl
 ·simp -dsimp -implicitDefEqProofs only [go_sem]; try rfl
 ·simp -dsimp -implicitDefEqProofs only [go_sem]; try rfl
 ·intro s
  simp -dsimp -implicitDefEqProofs only [go_sem]
  try omega
 ·rintro ⟨i, hi⟩
  have hi : i ≤ b.length := hi
  have hle := covL_len key b i hi
  simp -dsimp -implicitDefEqProofs only [go_sem]
  refine brT (fun h => ?_) (fun h => ?_)
  ·have hi2 : i < b.length := by omega
   have w1 : IntKind.i64.wrap ((i : Int) + 1) = ((i + 1 : Nat) : Int) := wrapE (by omega) (by omega)
   have hg := u8s_get hi2
   simp -dsimp -implicitDefEqProofs only [go_sem, w1, hle]
   refine brT (fun h => ?_) (fun h => ?_)
   ·obtain ⟨S, hS⟩ : ∃ S, S = covK key i := ⟨_, rfl⟩
    have hS2 : sumA S = sumA (joinS 51 [key.b, [b8 (shrs i 21), b8 (shrs i 13), b8 (shrs i 5)]]) := by rw [hS]; rfl
    obtain ⟨M, hM⟩ : ∃ M, M = setRB (covL key b i) i (S.b.take (b.length - i)) := ⟨_, rfl⟩
    have hML : M.length = b.length := by rw [hM, setRB_len, hle]; rw [hle, List.length_take]; omega
    have hst : covL key b (i + 1) = M.set i (xor8 (M.getD i 0) (b.getD i 0)) := by rw [covL, covStep, if_pos h, ← hS, hle, ← hM]
    have hgM := u8s_get (show i < M.length by omega)
    have hsr : setRange (u8s (covL key b i)) i (List.take (b.length - i) (u8s S.b)) = u8s M := by rw [u8s_take', setRange_u8s, ← hM]
    have hj := fun nc => join2_spec nc 1 1 1 51 key.b [b8 (shrs i 21), b8 (shrs i 13), b8 (shrs i 5)] (by rw [hk]; simp) (by omega) (by omega) (by omega)
    rw [← hS2] at hj
    simp only [sumA, u8s_lit3] at hj
    repeat' (first | omega | assumption | (show AL.ahead _ _ _ = true; rfl) | (first | apply brF | apply brT | apply brVF | apply brVT) <;> intro _ | (with_reducible refine And.intro ?_ ?_) | (refine callK_by (hj _) ?_) | (simp -dsimp -implicitDefEqProofs only [go_sem, w1, hle, hsr, hML, hg, hgM, u8_gd1, u8_cs1, min64, u8s_set1]))
    all_goals exact ⟨⟨i + 1, hi2⟩, by show b.length - (i + 1) < b.length - i; omega, rfl, by rw [hst]⟩
   ·have hst : covL key b (i + 1) = (covL key b i).set i (xor8 ((covL key b i).getD i 0) (b.getD i 0)) := by rw [covL, covStep, if_neg h]
    have hgM := u8s_get (show i < (covL key b i).length by omega)
    repeat' (first | omega | assumption | (show AL.ahead _ _ _ = true; rfl) | (first | apply brF | apply brT | apply brVF | apply brVT) <;> intro _ | (with_reducible refine And.intro ?_ ?_) | (simp -dsimp -implicitDefEqProofs only [go_sem, w1, hle, hg, hgM, u8s_set1, u8_gd1, u8_cs1]))
    all_goals exact ⟨⟨i + 1, hi2⟩, by show b.length - (i + 1) < b.length - i; omega, rfl, by rw [hst]⟩
  ·have e : i = b.length := by omega
   subst e
   repeat' (first | omega | assumption | (show AL.ahead _ _ _ = true; rfl) | (first | apply brF | apply brT | apply brVF | apply brVT) <;> intro _ | (with_reducible refine And.intro ?_ ?_) | (simp -dsimp -implicitDefEqProofs only [go_sem]))
   all_goals rfl
theorem coverI_spec (nx : Nat) (key : Sum) (b : List UInt8) (hb : b.length < 2 ^ 38) : FnSpec Tryz.prog 187 nx [sumA key, .sl 1 (u8s b) 0] [] (.sl 1 (u8s (covA key b)) 0) [] 0 := by
 have e : (u8s (covA key b)).length = b.length := by rw [u8s_length, covA_len]
 refine FnSpec.stay (n := nx + 32) (sz := 1) (L := u8s (covA key b)) (cover_spec nx key b hb) (by simp [Heap.get]) (by simp [keys]) (.inr ⟨0, b.length, rfl, ?_, by rw [e]; omega⟩) (by simp [AV.nb, nb_u8s])
 rw [List.drop_zero, List.take_of_length_le (by omega)]
noncomputable def markL (key : Sum) (t : List UInt8) : List UInt8 := (joinS 52 [key.b, t]).b.take 16
theorem markL_len (key : Sum) (t : List UInt8) : (markL key t).length = 16 := by rw [markL, List.length_take, sum_h]; rfl
theorem mark_spec (nx : Nat) (key : Sum) (t : List UInt8) (ht : t.length < 2 ^ 38) : FnSpec Tryz.prog 188 nx [sumA key, .sl 1 (u8s t) 0] [] (.sl 1 (u8s (markL key t)) 0) [] 0 := by
 have hk := key.h
 have hj := fun nc => join2_spec nc 1 1 0 52 key.b t (by rw [hk]; omega) (by omega) (by omega) (by omega)
 obtain ⟨S, hS⟩ : ∃ S, S = joinS 52 [key.b, t] := ⟨_, rfl⟩
 have hm : markL key t = S.b.take 16 := by rw [hS]; rfl
 rw [← hS] at hj
 have key' : FnSpec Tryz.prog 188 nx [sumA key, .sl 1 (u8s t) 0] [] (.aref (nx + 48) 0 [] 1 0 16) [(nx + 48, some (.obj (.vec 1 (u8s S.b))))] 900 := by
  refine FnSpec.of_code (cx := cx) (an := {}) (rs := [.tmp 4]) mo Tryz.func188 rfl rfl (by kernel_rfl) (by kernel_rfl) (by show 2 ≤ _; decide) (.inl rfl) (by simp [allWr, keys, Res.wr]) ?_
  repeat' (first | omega | assumption | (show AL.ahead _ _ _ = true; rfl) | (first | apply brF | apply brT | apply brVF | apply brVT) <;> intro _ | (with_reducible refine And.intro ?_ ?_) | (refine callK_by (hj _) ?_) | (simp -dsimp -implicitDefEqProofs only [go_sem]))
 refine FnSpec.stay (n := nx + 48) (sz := 1) (L := u8s S.b) key' (by simp [Heap.get]) (by simp [keys]) (.inr ⟨0, 16, rfl, ?_, by rw [u8s_length, S.h]; omega⟩) (by simp [AV.nb, nb_u8s])
 rw [List.drop_zero, u8s_take', hm]
noncomputable def openL (key : Sum) (b : List UInt8) : List UInt8 × Int :=
 if b.length < 16 then ([], 2) else if 65552 < b.length then ([], 3)
 else if markL key (covA key (b.drop 16)) = b.take 16 then (covA key (b.drop 16), 0) else ([], 4)
def openA (r : List UInt8 × Int) : AV := if r.2 = 0 then .sl 1 (u8s r.1) 0 else .sl 0 [] 1
theorem open_spec (nx : Nat) (key : Sum) (b : List UInt8) (hb : b.length < 2 ^ 37) : FnSpec Tryz.prog 178 nx [sumA key, .sl 1 (u8s b) 0] [] (.tup [openA (openL key b), n64 (openL key b).2]) [] 0 := by
 have hk := key.h
 obtain ⟨O, hO⟩ : ∃ O, O = openL key b := ⟨_, rfl⟩
 rw [← hO]
 unfold openL at hO
 by_cases c1 : b.length < 16
 ·have c1' : (b.length : Int) < 16 := by omega
  rw [if_pos c1] at hO
  subst hO
  refine FnSpec.of_code (cx := cx) (an := {}) (rs := [.tmp 4, .tmp 5]) mo Tryz.func178 rfl rfl (by kernel_rfl) (by kernel_rfl) (by show 2 ≤ _; decide) (.inr ⟨_, rfl, by simp [AV.good, openA]⟩) (by simp [allWr, keys, Res.wr]) ?_
  repeat' (first | omega | assumption | (show AL.ahead _ _ _ = true; rfl) | (first | apply brF | apply brT | apply brVF | apply brVT) <;> intro _ | (with_reducible refine And.intro ?_ ?_) | (simp -dsimp -implicitDefEqProofs only [go_sem, c1', openA]))
 ·have c1' : ¬ (b.length : Int) < 16 := by omega
  rw [if_neg c1] at hO
  by_cases c2 : 65552 < b.length
  ·have c2' : (65552 : Int) < b.length := by omega
   rw [if_pos c2] at hO
   subst hO
   refine FnSpec.of_code (cx := cx) (an := {}) (rs := [.tmp 4, .tmp 5]) mo Tryz.func178 rfl rfl (by kernel_rfl) (by kernel_rfl) (by show 2 ≤ _; decide) (.inr ⟨_, rfl, by simp [AV.good, openA]⟩) (by simp [allWr, keys, Res.wr]) ?_
   repeat' (first | omega | assumption | (show AL.ahead _ _ _ = true; rfl) | (first | apply brF | apply brT | apply brVF | apply brVT) <;> intro _ | (with_reducible refine And.intro ?_ ?_) | (simp -dsimp -implicitDefEqProofs only [go_sem, gt_iff_lt, c1', c2', openA]))
  ·have c2' : ¬ (65552 : Int) < b.length := by omega
   rw [if_neg c2] at hO
   have hd : (b.drop 16).length < 2 ^ 38 := by rw [List.length_drop]; omega
   have hco := fun nc => coverI_spec nc key (b.drop 16) hd
   have hma := fun nc => mark_spec nc key (covA key (b.drop 16)) (by rw [covA_len]; exact hd)
   generalize hC : covA key (b.drop 16) = C at *
   have hml := markL_len key C
   generalize markL key C = M at *
   rw [← u8s_drop'] at hco
   by_cases c3 : M = b.take 16
   ·rw [if_pos c3] at hO
    subst hO
    refine FnSpec.of_code (cx := cx) (an := {}) (rs := [.tmp 4, .tmp 5]) mo Tryz.func178 rfl rfl (by kernel_rfl) (by kernel_rfl) (by show 2 ≤ _; decide) (.inr ⟨_, rfl, by simp [AV.good, openA]⟩) (by simp [allWr, keys, Res.wr]) ?_
    repeat' (first | omega | assumption | (show AL.ahead _ _ _ = true; rfl) | (first | apply brF | apply brT | apply brVF | apply brVT) <;> intro _ | (with_reducible refine And.intro ?_ ?_) | (refine callK_by (hco _) ?_) | (refine callK_by (hma _) ?_) | (simp -dsimp -implicitDefEqProofs only [go_sem, gt_iff_lt, c1', c2', openA, take_all, isB_u8s, Go.AL.bytesOf_u8s, bstr_eq2, u8s_take' b 16, c3]))
   ·rw [if_neg c3] at hO
    subst hO
    refine FnSpec.of_code (cx := cx) (an := {}) (rs := [.tmp 4, .tmp 5]) mo Tryz.func178 rfl rfl (by kernel_rfl) (by kernel_rfl) (by show 2 ≤ _; decide) (.inr ⟨_, rfl, by simp [AV.good, openA]⟩) (by simp [allWr, keys, Res.wr]) ?_
    repeat' (first | omega | assumption | (show AL.ahead _ _ _ = true; rfl) | (first | apply brF | apply brT | apply brVF | apply brVT) <;> intro _ | (with_reducible refine And.intro ?_ ?_) | (refine callK_by (hco _) ?_) | (refine callK_by (hma _) ?_) | (simp -dsimp -implicitDefEqProofs only [go_sem, gt_iff_lt, c1', c2', openA, take_all, isB_u8s, Go.AL.bytesOf_u8s, bstr_eq2, u8s_take' b 16, c3]))
end Go.Proofs.YtaghcjbpjnpkbaaGreat

namespace Go.Proofs.YtaghcjbpjnpkbaaGreat
open Go Go.AL Go.Proofs.YtaghcjbpjnpkbaaGreat.T
def keysR (s : ES) : Nat → List Int × ES
 | 0 => ([], s)
 | i + 1 => ((keysR s i).1 ++ [(uptoS (keysR s i).2 255).1], (uptoS (keysR s i).2 255).2)
def wayRd (s : ES) : Way_ × ES :=
 let n := uptoS s 16
 let k := keysR n.2 n.1.toNat
 let h := esumS k.2
 let a := uptoS h.2 1073741824
 let w := uptoS a.2 1073741824
 (⟨k.1, h.1, a.1, w.1⟩, w.2)
def waysRd (s : ES) : Nat → List Way_ × ES
 | 0 => ([], s)
 | i + 1 => ((waysRd s i).1 ++ [(wayRd (waysRd s i).2).1], (wayRd (waysRd s i).2).2)
noncomputable def outRd (s : ES) : Out_ × ES :=
 let a := uptoS s 1125899906842624
 let n := uptoS a.2 16
 let w := waysRd n.2 n.1.toNat
 (⟨a.1, w.1⟩, if outB ⟨a.1, w.1⟩ = true then w.2 else failS w.2 4)
theorem keysR_len (s : ES) : ∀ i, (keysR s i).1.length = i ∧ (keysR s i).2.b.length ≤ s.b.length
 | 0 => ⟨rfl, Nat.le_refl _⟩
 | i + 1 => by
  obtain ⟨h1, h2⟩ := keysR_len s i
  exact ⟨by simp [keysR, h1], Nat.le_trans (uptoS_len _ _) h2⟩
theorem wayRd_len (s : ES) : (wayRd s).1.keys.length ≤ 16 ∧ (wayRd s).2.b.length ≤ s.b.length := by
 have r1 := uptoS_rng s 16 (by decide)
 have l1 := uptoS_len s 16
 have l2 := keysR_len (uptoS s 16).2 (uptoS s 16).1.toNat
 have l3 := esumS_len (keysR (uptoS s 16).2 (uptoS s 16).1.toNat).2
 have l4 := uptoS_len (esumS (keysR (uptoS s 16).2 (uptoS s 16).1.toNat).2).2 1073741824
 have l5 := uptoS_len (uptoS (esumS (keysR (uptoS s 16).2 (uptoS s 16).1.toNat).2).2 1073741824).2 1073741824
 exact ⟨by show (keysR (uptoS s 16).2 (uptoS s 16).1.toNat).1.length ≤ 16; omega, by show (uptoS (uptoS (esumS (keysR (uptoS s 16).2 (uptoS s 16).1.toNat).2).2 1073741824).2 1073741824).2.b.length ≤ _; omega⟩
theorem waysRd_len (s : ES) : ∀ i, (waysRd s i).1.length = i ∧ (waysRd s i).2.b.length ≤ s.b.length ∧ ∀ w ∈ (waysRd s i).1, w.keys.length ≤ 16
 | 0 => ⟨rfl, Nat.le_refl _, fun w hw => by simp [waysRd] at hw⟩
 | i + 1 => by
  obtain ⟨h1, h2, h3⟩ := waysRd_len s i
  have h4 := wayRd_len (waysRd s i).2
  refine ⟨by simp [waysRd, h1], Nat.le_trans h4.2 h2, fun w hw => ?_⟩
  rcases List.mem_append.1 hw with q | q
  ·exact h3 w q
  ·rw [List.mem_singleton.1 q]; exact h4.1
theorem outRd_len (s : ES) : (outRd s).1.ways.length ≤ 16 ∧ (outRd s).2.b.length ≤ s.b.length ∧ ∀ w ∈ (outRd s).1.ways, w.keys.length ≤ 16 := by
 have l1 := uptoS_len s 1125899906842624
 obtain ⟨a, ha⟩ : ∃ a, a = uptoS s 1125899906842624 := ⟨_, rfl⟩
 rw [← ha] at l1
 have r2 := uptoS_rng a.2 16 (by decide)
 have l2 := uptoS_len a.2 16
 obtain ⟨n, hn⟩ : ∃ n, n = uptoS a.2 16 := ⟨_, rfl⟩
 rw [← hn] at l2 r2
 have l3 := waysRd_len n.2 n.1.toNat
 obtain ⟨w, hw⟩ : ∃ w, w = waysRd n.2 n.1.toNat := ⟨_, rfl⟩
 rw [← hw] at l3
 have e : outRd s = (⟨a.1, w.1⟩, if outB ⟨a.1, w.1⟩ = true then w.2 else failS w.2 4) := by rw [hw, hn, ha]; rfl
 rw [e]
 refine ⟨by simp only; omega, ?_, l3.2.2⟩
 simp only
 split
 ·omega
 ·unfold failS; split
  ·simp only; omega
  ·omega
theorem vals_snoc (l : List Int) (n : Int) : vals .i64 l ++ [n64 n] = vals .i64 (l ++ [n]) := by simp [vals]
theorem ways_snoc (l : List Way_) (w : Way_) : waysA l ++ [wayA w] = waysA (l ++ [w]) := by simp [waysA]
attribute [local go_sem] nb_u8s nb_vals vals_len u8s_length nb_sum sumA List.length_replicate u8_wrap take32 List.drop_zero zero_sum sum_h nb_eye u8s_nil ways_len nb_ways
theorem lget_spec (nx m : Nat) (s : ES) (hm : m < nx) (hb : s.b.length < 2 ^ 40) : FnSpec Tryz.prog 189 nx [.ref m 0 []] [(m, some (.obj (eyeA s)))] (outA (outRd s).1) [(m, some (.obj (eyeA (outRd s).2)))] 0 := by
 have x1 := fun k => lt_nx hm k
 have x2 := fun k => nx_gt hm k
 have l1 := uptoS_len s 1125899906842624
 have u1 := fun nc (q : m < nc) => upto_spec nc m s 1125899906842624 q hb
 obtain ⟨a, ha⟩ : ∃ a, a = uptoS s 1125899906842624 := ⟨_, rfl⟩
 rw [← ha] at l1 u1
 have r2 := uptoS_rng a.2 16 (by decide)
 have l2 := uptoS_len a.2 16
 have u2 := fun nc (q : m < nc) => upto_spec nc m a.2 16 q (by omega)
 obtain ⟨n, hn⟩ : ∃ n, n = uptoS a.2 16 := ⟨_, rfl⟩
 rw [← hn] at l2 r2 u2
 obtain ⟨kn, hkn⟩ : ∃ kn : Nat, n.1 = (kn : Int) := ⟨n.1.toNat, by omega⟩
 have l3 := waysRd_len n.2 n.1.toNat
 obtain ⟨w, hw⟩ : ∃ w, w = waysRd n.2 n.1.toNat := ⟨_, rfl⟩
 rw [← hw] at l3
 have e : outRd s = (⟨a.1, w.1⟩, if outB ⟨a.1, w.1⟩ = true then w.2 else failS w.2 4) := by rw [hw, hn, ha]; rfl
 rw [hkn] at hw l3 r2 u2
 simp only [Int.toNat_natCast] at hw l3
 rw [e]
 clear e
 refine FnSpec.of_code (cx := cx) (an := {tk := [(4, [([0], 1)]), (7, [([1], 35)])], fg := [35, 40, 45]}) (rs := [.cell 2 104]) mo Tryz.func189 rfl rfl (by kernel_rfl) (by kernel_rfl) (by show 1 ≤ _; decide) (.inl rfl) (by simp [allWr, keys, Res.wr]) ?_
 repeat' (first | omega | assumption | (show AL.ahead _ _ _ = true; rfl) | (first | apply brF | apply brT | apply brVF | apply brVT) <;> intro _ | (with_reducible refine And.intro ?_ ?_) | (refine callK_by (u1 _ (by omega)) ?_) | (refine callK_by (u2 _ (by omega)) ?_) | (simp -dsimp -implicitDefEqProofs only [go_sem, x1, x2, lt_nx0 hm, nx_gt0 hm]))
 apply loop_keep [0, 2, 3, 9] (fun i : { i : Nat // i ≤ kn } => [(10, n64 i.1)]) (fun i => [(m, some (.obj (eyeA (waysRd n.2 i.1).2))), (nx + 32, some (.obj (.agg 2 [n64 a.1, .sl 35 (waysA (waysRd n.2 i.1).1) (nx + 27)]))), (nx + 25, some (.tail i.1)), (nx, some (.obj (.agg 2 [n64 0, .sl 35 [] 1])))]) (fun i => kn - i.1) ⟨0, Nat.zero_le _⟩
 ·simp -dsimp -implicitDefEqProofs only [go_sem]; try rfl
 ·simp -dsimp -implicitDefEqProofs only [go_sem]; try rfl
 ·simp -dsimp -implicitDefEqProofs only [go_sem, waysRd, waysA, List.map_nil, x1, x2, lt_nx0 hm, nx_gt0 hm]; try rfl
 ·intro s
  simp -dsimp -implicitDefEqProofs only [go_sem]
  try omega
 ·rintro ⟨i, hi⟩
  have hi : i ≤ kn := hi
  have hpl := waysRd_len n.2 i
  simp -dsimp -implicitDefEqProofs only [go_sem]
  refine brT (fun h => ?_) (fun h => ?_)
  ·have hi2 : i < kn := by omega
   have w1 : IntKind.i64.wrap ((i : Int) + 1) = ((i + 1 : Nat) : Int) := wrapE (by omega) (by omega)
   have e1 : waysRd n.2 (i + 1) = ((waysRd n.2 i).1 ++ [(wayRd (waysRd n.2 i).2).1], (wayRd (waysRd n.2 i).2).2) := rfl
   obtain ⟨W, hW⟩ : ∃ W, W = waysRd n.2 i := ⟨_, rfl⟩
   rw [← hW] at e1 hpl ⊢
   have v1 := uptoS_len W.2 16
   have vr := uptoS_rng W.2 16 (by decide)
   have p1 := fun nc (q : m < nc) => upto_spec nc m W.2 16 q (by omega)
   obtain ⟨c, hc⟩ : ∃ c, c = uptoS W.2 16 := ⟨_, rfl⟩
   rw [← hc] at v1 vr p1
   obtain ⟨cn, hcn⟩ : ∃ cn : Nat, c.1 = (cn : Int) := ⟨c.1.toNat, by omega⟩
   have v2 := keysR_len c.2 cn
   obtain ⟨k, hk⟩ : ∃ k, k = keysR c.2 cn := ⟨_, rfl⟩
   rw [← hk] at v2
   have v3 := esumS_len k.2
   have p3 := fun nc (q : m < nc) => esum_spec nc m k.2 q (by omega)
   obtain ⟨hh, hhh⟩ : ∃ hh, hh = esumS k.2 := ⟨_, rfl⟩
   rw [← hhh] at v3 p3
   have v4 := uptoS_len hh.2 1073741824
   have p4 := fun nc (q : m < nc) => upto_spec nc m hh.2 1073741824 q (by omega)
   obtain ⟨A, hA⟩ : ∃ A, A = uptoS hh.2 1073741824 := ⟨_, rfl⟩
   rw [← hA] at v4 p4
   have p5 := fun nc (q : m < nc) => upto_spec nc m A.2 1073741824 q (by omega)
   obtain ⟨B, hB⟩ : ∃ B, B = uptoS A.2 1073741824 := ⟨_, rfl⟩
   rw [← hB] at p5
   have eW : wayRd W.2 = (⟨k.1, hh.1, A.1, B.1⟩, B.2) := by rw [hB, hA, hhh, hk, ← Int.toNat_natCast cn, ← hcn, hc]; rfl
   rw [eW] at e1
   rw [hcn] at p1 vr
   repeat' (first | omega | assumption | (show AL.ahead _ _ _ = true; rfl) | (first | apply brF | apply brT | apply brVF | apply brVT) <;> intro _ | (with_reducible refine And.intro ?_ ?_) | (refine callK_by (p1 _ (by omega)) ?_) | (simp -dsimp -implicitDefEqProofs only [go_sem, x1, x2, lt_nx0 hm, nx_gt0 hm]))
   apply loop_keep [0, 2, 3, 4, 9, 10, 13] (fun j : { j : Nat // j ≤ cn } => [(14, n64 j.1)]) (fun j => [(m, some (.obj (eyeA (keysR c.2 j.1).2))), (nx + 80, some (.obj (.agg 35 [.sl 1 (vals .i64 (keysR c.2 j.1).1) (nx + 83), .vec 1 (u8s zeroS.b), n64 0, n64 0]))), (nx + 81, some (.tail j.1)), (nx + 32, some (.obj (.agg 2 [n64 a.1, .sl 35 (waysA W.1) (nx + 27)]))), (nx + 25, some (.tail i)), (nx, some (.obj (.agg 2 [n64 0, .sl 35 [] 1])))]) (fun j => cn - j.1) ⟨0, Nat.zero_le _⟩
   ·simp -dsimp -implicitDefEqProofs only [go_sem]; try rfl
   ·simp -dsimp -implicitDefEqProofs only [go_sem]; try rfl
   ·simp -dsimp -implicitDefEqProofs only [go_sem, keysR, vals, List.map_nil, x1, x2, lt_nx0 hm, nx_gt0 hm]; try rfl
   ·intro s
    simp -dsimp -implicitDefEqProofs only [go_sem]
    try omega
   ·rintro ⟨j, hj⟩
    have hj : j ≤ cn := hj
    have hpk := keysR_len c.2 j
    simp -dsimp -implicitDefEqProofs only [go_sem]
    refine brT (fun h2 => ?_) (fun h2 => ?_)
    ·have hj2 : j < cn := by omega
     have w2 : IntKind.i64.wrap ((j : Int) + 1) = ((j + 1 : Nat) : Int) := wrapE (by omega) (by omega)
     have e2 : keysR c.2 (j + 1) = ((keysR c.2 j).1 ++ [(uptoS (keysR c.2 j).2 255).1], (uptoS (keysR c.2 j).2 255).2) := rfl
     repeat' (first | omega | assumption | (show AL.ahead _ _ _ = true; rfl) | (first | apply brF | apply brT | apply brVF | apply brVT) <;> intro _ | (with_reducible refine And.intro ?_ ?_) | (refine callK_by (upto_spec _ m (keysR c.2 j).2 255 (by omega) (by omega)) ?_) | (simp -dsimp -implicitDefEqProofs only [go_sem, x1, x2, lt_nx0 hm, nx_gt0 hm, w2, hpk.1]))
     exact ⟨⟨j + 1, hj2⟩, by show cn - (j + 1) < cn - j; omega, rfl, by rw [e2], by rw [e2]; simp only; rw [← vals_snoc], rfl⟩
    ·have e : j = cn := by omega
     subst e
     rw [← hk]
     repeat' (first | omega | assumption | (show AL.ahead _ _ _ = true; rfl) | (first | apply brF | apply brT | apply brVF | apply brVT) <;> intro _ | (with_reducible refine And.intro ?_ ?_) | (refine callK_by (p3 _ (by omega)) ?_) | (simp -dsimp -implicitDefEqProofs only [go_sem, x1, x2, lt_nx0 hm, nx_gt0 hm, w1]))
     refine callK_by (p4 _ (by omega)) ?_
     repeat' (first | omega | assumption | (show AL.ahead _ _ _ = true; rfl) | (first | apply brF | apply brT | apply brVF | apply brVT) <;> intro _ | (with_reducible refine And.intro ?_ ?_) | (simp -dsimp -implicitDefEqProofs only [go_sem, x1, x2, lt_nx0 hm, nx_gt0 hm, w1]))
     refine callK_by (p5 _ (by omega)) ?_
     repeat' (first | omega | assumption | (show AL.ahead _ _ _ = true; rfl) | (first | apply brF | apply brT | apply brVF | apply brVT) <;> intro _ | (with_reducible refine And.intro ?_ ?_) | (simp -dsimp -implicitDefEqProofs only [go_sem, x1, x2, lt_nx0 hm, nx_gt0 hm, w1]))
     exact ⟨⟨i + 1, hi2⟩, by show kn - (i + 1) < kn - i; omega, rfl, by rw [e1], by rw [e1]; simp only; rw [← ways_snoc]; rfl, by rw [hpl.1]⟩
  ·have e : i = kn := by omega
   subst e
   rw [← hw]
   have hR := fun nc => outR_spec nc ⟨a.1, w.1⟩ (by have := l3.1; simp only; omega) (fun y hy => by have := l3.2.2 y hy; omega)
   by_cases hB : outB ⟨a.1, w.1⟩ = true
   ·rw [if_pos hB]
    rw [hB] at hR
    simp only [outA] at hR
    repeat' (first | omega | assumption | (show AL.ahead _ _ _ = true; rfl) | (first | apply brF | apply brT | apply brVF | apply brVT) <;> intro _ | (with_reducible refine And.intro ?_ ?_) | (refine callK_by (hR _) ?_) | (simp -dsimp -implicitDefEqProofs only [go_sem, x1, x2, lt_nx0 hm, nx_gt0 hm]))
    all_goals first | rfl | (simp [outA, AV.nb, AV.nbs, nb_ways]; done)
   ·rw [if_neg hB]
    simp only [Bool.not_eq_true] at hB
    rw [hB] at hR
    simp only [outA] at hR
    repeat' (first | omega | assumption | (show AL.ahead _ _ _ = true; rfl) | (first | apply brF | apply brT | apply brVF | apply brVT) <;> intro _ | (with_reducible refine And.intro ?_ ?_) | (refine callK_by (hR _) ?_) | (refine callK_by (fail_spec _ m w.2 4 (by omega)) ?_) | (simp -dsimp -implicitDefEqProofs only [go_sem, x1, x2, lt_nx0 hm, nx_gt0 hm]))
    all_goals first | rfl | (simp [outA, AV.nb, AV.nbs, nb_ways]; done)
end Go.Proofs.YtaghcjbpjnpkbaaGreat

namespace Go.Proofs.YtaghcjbpjnpkbaaGreat
open Go Go.AL Go.Proofs.YtaghcjbpjnpkbaaGreat.T
abbrev Unc : Type := Sum → List UInt8 → Tx_ × Int
def unA (r : Tx_ × Int) : AV := if r.2 = 0 then txA r.1 else txZA
structure UncOk (un : Unc) : Prop where
 s : ∀ nx c b, b.length ≤ 65536 → FnSpec Tryz.prog 166 nx [sumA c, .sl 1 (u8s b) 0] [] (.tup [unA (un c b), n64 (un c b).2]) [] 0
 t : ∀ c b, (un c b).2 = 0 → TxOk (un c b).1
theorem saved_spec (nx : Nat) (f : Fac_) (c : Chan) : FnSpec Tryz.prog 168 nx [facA f, chanA c] [] (bA (decide (f.taken = true ∧ w64 (f.when_ - f.at_) ≤ c.window))) [] 0 := by
 cases ht : f.taken with
 | false =>
  refine FnSpec.of_code (cx := cx) (an := {}) (rs := [.tmp 4]) mo Tryz.func168 rfl rfl (by kernel_rfl) (by kernel_rfl) (by show 2 ≤ _; decide) (.inl rfl) (by simp [allWr, keys, Res.wr]) ?_
  repeat' (first | omega | assumption | (show AL.ahead _ _ _ = true; rfl) | (first | apply brF | apply brT | apply brVF | apply brVT) <;> intro _ | (with_reducible refine And.intro ?_ ?_) | (simp -dsimp -implicitDefEqProofs only [go_sem, facA, chanA, refA, ht, txA_good, txA_csz, txA_agg, nb_tx]))
  all_goals rfl
 | true =>
  by_cases h : w64 (f.when_ - f.at_) ≤ c.window
  ·refine FnSpec.of_code (cx := cx) (an := {}) (rs := [.tmp 4]) mo Tryz.func168 rfl rfl (by kernel_rfl) (by kernel_rfl) (by show 2 ≤ _; decide) (.inl rfl) (by simp [allWr, keys, Res.wr]) ?_
   repeat' (first | omega | assumption | (show AL.ahead _ _ _ = true; rfl) | (first | apply brF | apply brT | apply brVF | apply brVT) <;> intro _ | (with_reducible refine And.intro ?_ ?_) | (simp -dsimp -implicitDefEqProofs only [go_sem, facA, chanA, refA, ht, h, txA_good, txA_csz, txA_agg, nb_tx]))
   all_goals first | rfl | (simp [bA, h])
  ·refine FnSpec.of_code (cx := cx) (an := {}) (rs := [.tmp 4]) mo Tryz.func168 rfl rfl (by kernel_rfl) (by kernel_rfl) (by show 2 ≤ _; decide) (.inl rfl) (by simp [allWr, keys, Res.wr]) ?_
   repeat' (first | omega | assumption | (show AL.ahead _ _ _ = true; rfl) | (first | apply brF | apply brT | apply brVF | apply brVT) <;> intro _ | (with_reducible refine And.intro ?_ ?_) | (simp -dsimp -implicitDefEqProofs only [go_sem, facA, chanA, refA, ht, h, txA_good, txA_csz, txA_agg, nb_tx]))
   all_goals first | rfl | (simp [bA, h])
section
open Classical
noncomputable def pcF (un : Unc) (p : Proof_) (tower : Int) (c : Chan) (root : Sum) (f : Fac_) (h : Int) : Int :=
 if p.rec_.tower ≠ tower ∨ p.rec_.channel ≠ c.id then 21
 else if goodB root ⟨p.rec_, p.sig⟩ = false then 11
 else if p.rec_.hint ≠ hintS p.commit ∨ p.rec_.blob ≠ amarkS p.blob then 16
 else if ownF c f.tx ≠ 1 ∨ txS f.tx ≠ p.commit then 13
 else if (un p.commit p.blob).2 ≠ 0 then (un p.commit p.blob).2
 else if jcF c f.tx (un p.commit p.blob).1 ≠ 0 then jcF c f.tx (un p.commit p.blob).1
 else if f.taken = true ∧ w64 (f.when_ - f.at_) ≤ c.window then 18
 else if w64 (h - f.at_) ≤ c.window then 17 else 0
end
attribute [local go_sem] nb_u8s u8s_length nb_sum List.length_replicate zero_sum sum_h u8s_nil txA_good txA_csz txA_agg nb_tx recA_good recA_agg recA_csz nb_rec1 sumA facA_good facA_agg facA_csz nb_fac
theorem pc_spec (un : Unc) (hun : UncOk un) (nx : Nat) (p : Proof_) (tower : Int) (c : Chan) (root : Sum) (f : Fac_) (h : Int) (hs : p.sig.length ≤ 65536) (hb : p.blob.length ≤ 65536) (hf : TxOk f.tx) :
  FnSpec Tryz.prog 142 nx [proofA p, n64 tower, chanA c, sumA root, facA f, n64 h] [] (n64 (pcF un p tower c root f h)) [] 0 := by
 have hv := fun nc => rver_spec nc root ⟨p.rec_, p.sig⟩ (by show p.sig.length < _; omega)
 have hhi := fun nc => hint_spec nc p.commit
 have hma := fun nc => amark_spec nc p.blob (by omega)
 have how := fun nc => owner_spec nc c f.tx hf.l.2.2.1 hf.l.2.2.2.1 hf.l.2.2.2.2.2
 have hcr := fun nc => cref_spec nc f.tx hf.b hf.k
 have hunc := fun nc => hun.s nc p.commit p.blob hb
 have hsv := fun nc => saved_spec nc f c
 obtain ⟨G, hG⟩ : ∃ G, G = pcF un p tower c root f h := ⟨_, rfl⟩
 rw [← hG]
 unfold pcF at hG
 simp only [recA, sumA, chanA, refA, facA] at hv hhi hma how hcr hunc hsv
 by_cases c1 : p.rec_.tower = tower
 ·by_cases c2 : p.rec_.channel = c.id
  ·rw [if_neg (by rintro (q | q); exact q c1; exact q c2)] at hG
   simp only [c1, c2] at hv
   rcases Bool.eq_false_or_eq_true (goodB root ⟨p.rec_, p.sig⟩) with c3 | c3
   ·rw [if_neg (by rw [c3]; decide)] at hG
    rw [c3] at hv
    by_cases c4 : p.rec_.hint = hintS p.commit
    ·have e4 : eqB (AV.vec 1 (u8s p.rec_.hint.b)) (AV.vec 1 (u8s (hintS p.commit).b)) = true := by rw [c4]; exact eqB_yes rfl
     by_cases c5 : p.rec_.blob = amarkS p.blob
     ·have e5 : eqB (AV.vec 1 (u8s p.rec_.blob.b)) (AV.vec 1 (u8s (amarkS p.blob).b)) = true := by rw [c5]; exact eqB_yes rfl
      rw [if_neg (by rintro (q | q); exact q c4; exact q c5)] at hG
      by_cases c6 : ownF c f.tx = 1
      ·by_cases c7 : txS f.tx = p.commit
       ·have e7 : eqB (AV.vec 1 (u8s (txS f.tx).b)) (AV.vec 1 (u8s p.commit.b)) = true := by rw [c7]; exact eqB_yes rfl
        rw [if_neg (by rintro (q | q); exact q c6; exact q c7)] at hG
        by_cases c8 : (un p.commit p.blob).2 = 0
        ·rw [if_neg (fun q => q c8)] at hG
         have htu := hun.t _ _ c8
         have ea : unA (un p.commit p.blob) = txA (un p.commit p.blob).1 := by unfold unA; rw [if_pos c8]
         rw [ea, c8] at hunc
         have hjc := fun nc => jc_spec nc c f.tx (un p.commit p.blob).1 hf htu
         simp only [chanA, refA, sumA] at hjc
         by_cases c9 : jcF c f.tx (un p.commit p.blob).1 = 0
         ·rw [if_neg (fun q => q c9)] at hG
          rw [c9] at hjc
          by_cases c10 : f.taken = true ∧ w64 (f.when_ - f.at_) ≤ c.window
          ·rw [if_pos c10] at hG
           rw [decide_eq_true c10] at hsv
           refine FnSpec.of_code (cx := cx) (an := {}) (rs := [.tmp 12]) mo Tryz.func142 rfl rfl (by kernel_rfl) (by kernel_rfl) (by show 6 ≤ _; decide) (.inl rfl) (by simp [allWr, keys, Res.wr]) ?_
           repeat' (first | omega | assumption | (show AL.ahead _ _ _ = true; rfl) | (first | apply brF | apply brT | apply brVF | apply brVT) <;> intro _ | (with_reducible refine And.intro ?_ ?_) | (refine callK_by (hv _) ?_) | (refine callK_by (hhi _) ?_) | (refine callK_by (hma _) ?_) | (refine callK_by (how _) ?_) | (refine callK_by (hcr _) ?_) | (refine callK_by (hunc _) ?_) | (refine callK_by (hjc _) ?_) | (refine callK_by (hsv _) ?_) | (simp -dsimp -implicitDefEqProofs only [go_sem, proofA, recA, chanA, refA, facA, c1, c2, e4, e5, c6, e7, ↓cmp_sum, isSumT]))
           all_goals first | (rw [hG]) | rfl
          ·rw [if_neg c10] at hG
           rw [decide_eq_false c10] at hsv
           by_cases c11 : w64 (h - f.at_) ≤ c.window
           ·rw [if_pos c11] at hG
            refine FnSpec.of_code (cx := cx) (an := {}) (rs := [.tmp 12]) mo Tryz.func142 rfl rfl (by kernel_rfl) (by kernel_rfl) (by show 6 ≤ _; decide) (.inl rfl) (by simp [allWr, keys, Res.wr]) ?_
            repeat' (first | omega | assumption | (show AL.ahead _ _ _ = true; rfl) | (first | apply brF | apply brT | apply brVF | apply brVT) <;> intro _ | (with_reducible refine And.intro ?_ ?_) | (refine callK_by (hv _) ?_) | (refine callK_by (hhi _) ?_) | (refine callK_by (hma _) ?_) | (refine callK_by (how _) ?_) | (refine callK_by (hcr _) ?_) | (refine callK_by (hunc _) ?_) | (refine callK_by (hjc _) ?_) | (refine callK_by (hsv _) ?_) | (simp -dsimp -implicitDefEqProofs only [go_sem, proofA, recA, chanA, refA, facA, c1, c2, e4, e5, c6, e7, c11, ↓cmp_sum, isSumT]))
            all_goals first | (rw [hG]) | rfl
           ·rw [if_neg c11] at hG
            refine FnSpec.of_code (cx := cx) (an := {}) (rs := [.tmp 12]) mo Tryz.func142 rfl rfl (by kernel_rfl) (by kernel_rfl) (by show 6 ≤ _; decide) (.inl rfl) (by simp [allWr, keys, Res.wr]) ?_
            repeat' (first | omega | assumption | (show AL.ahead _ _ _ = true; rfl) | (first | apply brF | apply brT | apply brVF | apply brVT) <;> intro _ | (with_reducible refine And.intro ?_ ?_) | (refine callK_by (hv _) ?_) | (refine callK_by (hhi _) ?_) | (refine callK_by (hma _) ?_) | (refine callK_by (how _) ?_) | (refine callK_by (hcr _) ?_) | (refine callK_by (hunc _) ?_) | (refine callK_by (hjc _) ?_) | (refine callK_by (hsv _) ?_) | (simp -dsimp -implicitDefEqProofs only [go_sem, proofA, recA, chanA, refA, facA, c1, c2, e4, e5, c6, e7, c11, ↓cmp_sum, isSumT]))
            all_goals first | (rw [hG]) | rfl
         ·rw [if_pos c9] at hG
          refine FnSpec.of_code (cx := cx) (an := {}) (rs := [.tmp 12]) mo Tryz.func142 rfl rfl (by kernel_rfl) (by kernel_rfl) (by show 6 ≤ _; decide) (.inl rfl) (by simp [allWr, keys, Res.wr]) ?_
          repeat' (first | omega | assumption | (show AL.ahead _ _ _ = true; rfl) | (first | apply brF | apply brT | apply brVF | apply brVT) <;> intro _ | (with_reducible refine And.intro ?_ ?_) | (refine callK_by (hv _) ?_) | (refine callK_by (hhi _) ?_) | (refine callK_by (hma _) ?_) | (refine callK_by (how _) ?_) | (refine callK_by (hcr _) ?_) | (refine callK_by (hunc _) ?_) | (refine callK_by (hjc _) ?_) | (simp -dsimp -implicitDefEqProofs only [go_sem, proofA, recA, chanA, refA, facA, c1, c2, e4, e5, c6, e7, c9, ↓cmp_sum, isSumT]))
          all_goals first | (rw [hG]) | rfl
        ·rw [if_pos c8] at hG
         have ea : unA (un p.commit p.blob) = txZA := by unfold unA; rw [if_neg c8]
         rw [ea] at hunc
         simp only [txZA, sumA] at hunc
         refine FnSpec.of_code (cx := cx) (an := {}) (rs := [.tmp 12]) mo Tryz.func142 rfl rfl (by kernel_rfl) (by kernel_rfl) (by show 6 ≤ _; decide) (.inl rfl) (by simp [allWr, keys, Res.wr]) ?_
         repeat' (first | omega | assumption | (show AL.ahead _ _ _ = true; rfl) | (first | apply brF | apply brT | apply brVF | apply brVT) <;> intro _ | (with_reducible refine And.intro ?_ ?_) | (refine callK_by (hv _) ?_) | (refine callK_by (hhi _) ?_) | (refine callK_by (hma _) ?_) | (refine callK_by (how _) ?_) | (refine callK_by (hcr _) ?_) | (refine callK_by (hunc _) ?_) | (simp -dsimp -implicitDefEqProofs only [go_sem, proofA, recA, chanA, refA, facA, c1, c2, e4, e5, c6, e7, c8, ↓cmp_sum, isSumT]))
         all_goals first | (rw [hG]) | rfl
       ·rw [if_pos (.inr c7)] at hG
        have e7 : eqB (AV.vec 1 (u8s (txS f.tx).b)) (AV.vec 1 (u8s p.commit.b)) = false := eqB_no (fun q => c7 (sumA_inj _ _ q))
        refine FnSpec.of_code (cx := cx) (an := {}) (rs := [.tmp 12]) mo Tryz.func142 rfl rfl (by kernel_rfl) (by kernel_rfl) (by show 6 ≤ _; decide) (.inl rfl) (by simp [allWr, keys, Res.wr]) ?_
        repeat' (first | omega | assumption | (show AL.ahead _ _ _ = true; rfl) | (first | apply brF | apply brT | apply brVF | apply brVT) <;> intro _ | (with_reducible refine And.intro ?_ ?_) | (refine callK_by (hv _) ?_) | (refine callK_by (hhi _) ?_) | (refine callK_by (hma _) ?_) | (refine callK_by (how _) ?_) | (refine callK_by (hcr _) ?_) | (simp -dsimp -implicitDefEqProofs only [go_sem, proofA, recA, chanA, refA, facA, c1, c2, e4, e5, c6, e7, ↓cmp_sum, isSumT]))
        all_goals first | (rw [hG]) | rfl
      ·rw [if_pos (.inl c6)] at hG
       refine FnSpec.of_code (cx := cx) (an := {}) (rs := [.tmp 12]) mo Tryz.func142 rfl rfl (by kernel_rfl) (by kernel_rfl) (by show 6 ≤ _; decide) (.inl rfl) (by simp [allWr, keys, Res.wr]) ?_
       repeat' (first | omega | assumption | (show AL.ahead _ _ _ = true; rfl) | (first | apply brF | apply brT | apply brVF | apply brVT) <;> intro _ | (with_reducible refine And.intro ?_ ?_) | (refine callK_by (hv _) ?_) | (refine callK_by (hhi _) ?_) | (refine callK_by (hma _) ?_) | (refine callK_by (how _) ?_) | (simp -dsimp -implicitDefEqProofs only [go_sem, proofA, recA, chanA, refA, facA, c1, c2, e4, e5, c6, ↓cmp_sum, isSumT]))
       all_goals first | (rw [hG]) | rfl
     ·rw [if_pos (.inr c5)] at hG
      have e5 : eqB (AV.vec 1 (u8s p.rec_.blob.b)) (AV.vec 1 (u8s (amarkS p.blob).b)) = false := eqB_no (fun q => c5 (sumA_inj _ _ q))
      refine FnSpec.of_code (cx := cx) (an := {}) (rs := [.tmp 12]) mo Tryz.func142 rfl rfl (by kernel_rfl) (by kernel_rfl) (by show 6 ≤ _; decide) (.inl rfl) (by simp [allWr, keys, Res.wr]) ?_
      repeat' (first | omega | assumption | (show AL.ahead _ _ _ = true; rfl) | (first | apply brF | apply brT | apply brVF | apply brVT) <;> intro _ | (with_reducible refine And.intro ?_ ?_) | (refine callK_by (hv _) ?_) | (refine callK_by (hhi _) ?_) | (refine callK_by (hma _) ?_) | (simp -dsimp -implicitDefEqProofs only [go_sem, proofA, recA, chanA, refA, facA, c1, c2, e4, e5, ↓cmp_sum, isSumT]))
      all_goals first | (rw [hG]) | rfl
    ·rw [if_pos (.inl c4)] at hG
     have e4 : eqB (AV.vec 1 (u8s p.rec_.hint.b)) (AV.vec 1 (u8s (hintS p.commit).b)) = false := eqB_no (fun q => c4 (sumA_inj _ _ q))
     refine FnSpec.of_code (cx := cx) (an := {}) (rs := [.tmp 12]) mo Tryz.func142 rfl rfl (by kernel_rfl) (by kernel_rfl) (by show 6 ≤ _; decide) (.inl rfl) (by simp [allWr, keys, Res.wr]) ?_
     repeat' (first | omega | assumption | (show AL.ahead _ _ _ = true; rfl) | (first | apply brF | apply brT | apply brVF | apply brVT) <;> intro _ | (with_reducible refine And.intro ?_ ?_) | (refine callK_by (hv _) ?_) | (refine callK_by (hhi _) ?_) | (simp -dsimp -implicitDefEqProofs only [go_sem, proofA, recA, chanA, refA, facA, c1, c2, e4, ↓cmp_sum, isSumT]))
     all_goals first | (rw [hG]) | rfl
   ·rw [if_pos c3] at hG
    rw [c3] at hv
    refine FnSpec.of_code (cx := cx) (an := {}) (rs := [.tmp 12]) mo Tryz.func142 rfl rfl (by kernel_rfl) (by kernel_rfl) (by show 6 ≤ _; decide) (.inl rfl) (by simp [allWr, keys, Res.wr]) ?_
    repeat' (first | omega | assumption | (show AL.ahead _ _ _ = true; rfl) | (first | apply brF | apply brT | apply brVF | apply brVT) <;> intro _ | (with_reducible refine And.intro ?_ ?_) | (refine callK_by (hv _) ?_) | (simp -dsimp -implicitDefEqProofs only [go_sem, proofA, recA, chanA, refA, facA, c1, c2]))
    all_goals first | (rw [hG]) | rfl
  ·rw [if_pos (.inr c2)] at hG
   refine FnSpec.of_code (cx := cx) (an := {}) (rs := [.tmp 12]) mo Tryz.func142 rfl rfl (by kernel_rfl) (by kernel_rfl) (by show 6 ≤ _; decide) (.inl rfl) (by simp [allWr, keys, Res.wr]) ?_
   repeat' (first | omega | assumption | (show AL.ahead _ _ _ = true; rfl) | (first | apply brF | apply brT | apply brVF | apply brVT) <;> intro _ | (with_reducible refine And.intro ?_ ?_) | (simp -dsimp -implicitDefEqProofs only [go_sem, proofA, recA, chanA, refA, facA, c1, c2]))
   all_goals first | (rw [hG]) | rfl
 ·rw [if_pos (.inl c1)] at hG
  refine FnSpec.of_code (cx := cx) (an := {}) (rs := [.tmp 12]) mo Tryz.func142 rfl rfl (by kernel_rfl) (by kernel_rfl) (by show 6 ≤ _; decide) (.inl rfl) (by simp [allWr, keys, Res.wr]) ?_
  repeat' (first | omega | assumption | (show AL.ahead _ _ _ = true; rfl) | (first | apply brF | apply brT | apply brVF | apply brVT) <;> intro _ | (with_reducible refine And.intro ?_ ?_) | (simp -dsimp -implicitDefEqProofs only [go_sem, proofA, recA, chanA, refA, facA, c1]))
  all_goals first | (rw [hG]) | rfl
end Go.Proofs.YtaghcjbpjnpkbaaGreat

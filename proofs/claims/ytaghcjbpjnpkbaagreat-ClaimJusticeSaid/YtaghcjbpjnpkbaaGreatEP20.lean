/-
 Outs to a key; transactions signed by one key.
-/
import Derived.Test.YtaghcjbpjnpkbaaGreatEP12
import Derived.Test.YtaghcjbpjnpkbaaGreatAL26
import Derived.Test.YtaghcjbpjnpkbaaGreatEP6
set_option linter.unusedSimpArgs false
set_option linter.unusedVariables false
set_option maxRecDepth 100000
set_option maxHeartbeats 8000000
namespace Go.Proofs.YtaghcjbpjnpkbaaGreat
open Go Go.AL Go.Proofs.YtaghcjbpjnpkbaaGreat.T
attribute [local go_sem] nb_u8s u8s_length nb_sum sumA List.length_replicate zero_sum sum_h nb_vals vals_len u8s_nil
theorem w1_64 : IntKind.i64.wrap 1 = 1 := by decide
theorem w20_64 : IntKind.i64.wrap 20 = 20 := by decide
theorem insOne_spec (nx t : Nat) (x : Sign_) (f : Nat) (ht : t < 2 ∨ t - 2 < nx) : FnSpec Tryz.prog 152 nx [.sl 33 [signA x] t, n64 0, n64 1, .clos f []] [] (.tup []) [] 0 := by
 refine FnSpec.of_code (cx := cx) (an := {}) (rs := []) mo Tryz.func152 rfl rfl (by kernel_rfl) (by kernel_rfl) (by show 4 ≤ _; decide) (.inr ⟨_, rfl, by simp [AV.good]⟩) (by simp [allWr, keys, Res.wr]) ?_
 repeat' (first | omega | assumption | (show AL.ahead _ _ _ = true; rfl) | (first | apply brF | apply brT | apply brVF | apply brVT) <;> intro _ | (with_reducible refine And.intro ?_ ?_) | (simp -dsimp -implicitDefEqProofs only [go_sem, w1_64]))
 apply loop_keep [0, 1, 2, 3] (fun _ : Unit => [(8, n64 1)]) (fun _ => []) (fun _ => 0) ()
 ·simp -dsimp -implicitDefEqProofs only [go_sem]; rfl
 ·simp -dsimp -implicitDefEqProofs only [go_sem]; try rfl
 ·simp -dsimp -implicitDefEqProofs only [go_sem]; try rfl
 ·intro s
  simp -dsimp -implicitDefEqProofs only [go_sem, signA]
  try omega
 ·rintro ⟨⟩
  repeat' (first | omega | assumption | (show AL.ahead _ _ _ = true; rfl) | (first | apply brF | apply brT | apply brVF | apply brVT) <;> intro _ | (with_reducible refine And.intro ?_ ?_) | (simp -dsimp -implicitDefEqProofs only [go_sem, w1_64]))
theorem stableOne_spec (nx t : Nat) (x : Sign_) (f : Nat) (ht : t < 2 ∨ t - 2 < nx) : FnSpec Tryz.prog 117 nx [.sl 33 [signA x] t, n64 1, .clos f []] [] (.tup []) [] 0 := by
 refine FnSpec.of_code (cx := cx) (an := {}) (rs := []) mo Tryz.func117 rfl rfl (by kernel_rfl) (by kernel_rfl) (by show 3 ≤ _; decide) (.inr ⟨_, rfl, by simp [AV.good]⟩) (by simp [allWr, keys, Res.wr]) ?_
 repeat' (first | omega | assumption | (show AL.ahead _ _ _ = true; rfl) | (first | apply brF | apply brT | apply brVF | apply brVT) <;> intro _ | (with_reducible refine And.intro ?_ ?_) | (simp -dsimp -implicitDefEqProofs only [go_sem, w1_64, w20_64]))
 apply loop_keep [0, 1, 2, 6] (fun _ : Unit => [(7, n64 0), (8, n64 20)]) (fun _ => []) (fun _ => 0) ()
 ·simp -dsimp -implicitDefEqProofs only [go_sem]; rfl
 ·simp -dsimp -implicitDefEqProofs only [go_sem]; try rfl
 ·simp -dsimp -implicitDefEqProofs only [go_sem]; try rfl
 ·intro s
  simp -dsimp -implicitDefEqProofs only [go_sem, signA]
  try omega
 ·rintro ⟨⟩
  repeat' (first | omega | assumption | (show AL.ahead _ _ _ = true; rfl) | (first | apply brF | apply brT | apply brVF | apply brVT) <;> intro _ | (with_reducible refine And.intro ?_ ?_) | (refine callK_by (insOne_spec _ t x f (by omega)) ?_) | (simp -dsimp -implicitDefEqProofs only [go_sem, w1_64]))
  apply loop_keep [0, 1, 2] (fun _ : Unit => [(6, n64 20)]) (fun _ => []) (fun _ => 0) ()
  ·simp -dsimp -implicitDefEqProofs only [go_sem]; rfl
  ·simp -dsimp -implicitDefEqProofs only [go_sem]; try rfl
  ·simp -dsimp -implicitDefEqProofs only [go_sem]; try rfl
  ·intro s
   simp -dsimp -implicitDefEqProofs only [go_sem, signA]
   try omega
  ·rintro ⟨⟩
   repeat' (first | omega | assumption | (show AL.ahead _ _ _ = true; rfl) | (first | apply brF | apply brT | apply brVF | apply brVT) <;> intro _ | (with_reducible refine And.intro ?_ ?_) | (simp -dsimp -implicitDefEqProofs only [go_sem, w1_64]))
theorem sortOne_spec (nx t : Nat) (x : Sign_) (f : Nat) (ht : t < 2 ∨ t - 2 < nx) : FnSpec Tryz.prog 68 nx [.sl 33 [signA x] t, .clos f []] [] (.tup []) [] 0 := by
 refine FnSpec.of_code (cx := cx) (an := {}) (rs := []) mo Tryz.func68 rfl rfl (by kernel_rfl) (by kernel_rfl) (by show 2 ≤ _; decide) (.inr ⟨_, rfl, by simp [AV.good]⟩) (by simp [allWr, keys, Res.wr]) ?_
 repeat' (first | omega | assumption | (show AL.ahead _ _ _ = true; rfl) | (first | apply brF | apply brT | apply brVF | apply brVT) <;> intro _ | (with_reducible refine And.intro ?_ ?_) | (refine callK_by (stableOne_spec _ t x f (by omega)) ?_) | (simp -dsimp -implicitDefEqProofs only [go_sem]))
theorem indexEmpty_spec (nx t f : Nat) (cs : List AV) (hc : ∀ m, nx ≤ m → AV.nbs m cs) (ht : t < 2 ∨ t - 2 < nx) : FnSpec Tryz.prog 116 nx [.sl 33 [] t, .clos f cs] [] (n64 (-1)) [] 0 := by
 refine FnSpec.of_code (cx := cx) (an := {}) (rs := [.tmp 4]) mo Tryz.func116 rfl rfl (by kernel_rfl) (by kernel_rfl) (by show 2 ≤ _; decide) (.inl rfl) (by simp [allWr, keys, Res.wr]) ?_
 repeat' (first | omega | assumption | (show AL.ahead _ _ _ = true; rfl) | (first | apply brF | apply brT | apply brVF | apply brVT) <;> intro _ | (with_reducible refine And.intro ?_ ?_) | (simp -dsimp -implicitDefEqProofs only [go_sem]))
 apply loop_keep [0, 1, 7] (fun _ : Unit => [(8, n64 0)]) (fun _ => []) (fun _ => 0) ()
 ·simp -dsimp -implicitDefEqProofs only [go_sem]; rfl
 ·simp -dsimp -implicitDefEqProofs only [go_sem]; try rfl
 ·simp -dsimp -implicitDefEqProofs only [go_sem]; try rfl
 ·intro s
  simp -dsimp -implicitDefEqProofs only [go_sem]
  exact ⟨by omega, hc _ (by omega)⟩
 ·rintro ⟨⟩
  repeat' (first | omega | assumption | (show AL.ahead _ _ _ = true; rfl) | (first | apply brF | apply brT | apply brVF | apply brVT) <;> intro _ | (with_reducible refine And.intro ?_ ?_) | (simp -dsimp -implicitDefEqProofs only [go_sem]))
theorem deleteEmpty_spec (nx t f : Nat) (cs : List AV) (hc : ∀ m, nx ≤ m → AV.nbs m cs) (ht : t < 2 ∨ t - 2 < nx) : FnSpec Tryz.prog 66 nx [.sl 33 [] t, .clos f cs] [] (.sl 33 [] t) [] 0 := by
 refine FnSpec.of_code (cx := cx) (an := {}) (rs := [.tmp 4]) mo Tryz.func66 rfl rfl (by kernel_rfl) (by kernel_rfl) (by show 2 ≤ _; decide) (.inl rfl) (by simp [allWr, keys, Res.wr]) ?_
 repeat' (first | omega | assumption | (show AL.ahead _ _ _ = true; rfl) | (first | apply brF | apply brT | apply brVF | apply brVT) <;> intro _ | (with_reducible refine And.intro ?_ ?_) | (refine callK_by (indexEmpty_spec _ t f cs (fun m h => hc m (by omega)) (by omega)) ?_) | (simp -dsimp -implicitDefEqProofs only [go_sem]))
theorem cloneNil_spec (nx sz : Nat) : FnSpec Tryz.prog 65 nx [.sl sz [] 1] [] (.sl 33 [] (nx + 42)) [(nx + 40, some (.tail 0))] 60 := by
 refine FnSpec.empty1 fun b => ?_
 cases b with
 | none =>
  have h : FnSpec Tryz.prog 65 nx [.val (.slice none 0 0)] [] (.sl 0 [] 1) [] 0 := by
   refine FnSpec.of_code (cx := cx) (an := {}) (rs := [.tmp 2]) mo Tryz.func65 rfl rfl (by kernel_rfl) (by kernel_rfl) (by show 1 ≤ _; decide) (.inl rfl) (by simp [allWr, keys, Res.wr]) ?_
   repeat' (first | omega | assumption | (show AL.ahead _ _ _ = true; rfl) | (first | apply brF | apply brT | apply brVF | apply brVT) <;> intro _ | (with_reducible refine And.intro ?_ ?_) | (simp -dsimp -implicitDefEqProofs only [go_sem, Option.isNone_none]))
  exact h.tail0 40 60 (by omega)
 | some a =>
   refine FnSpec.of_code (cx := cx) (an := {}) (rs := [.tmp 2]) mo Tryz.func65 rfl rfl (by kernel_rfl) (by kernel_rfl) (by show 1 ≤ _; decide) (.inl rfl) (by simp [allWr, keys, Res.wr]) ?_
   repeat' (first | omega | assumption | (show AL.ahead _ _ _ = true; rfl) | (first | apply brF | apply brT | apply brVF | apply brVT) <;> intro _ | (with_reducible refine And.intro ?_ ?_) | (simp -dsimp -implicitDefEqProofs only [go_sem, Option.isNone_some]))
theorem to_spec (nx : Nat) (k a : Int) : FnSpec Tryz.prog 30 nx [n64 k, n64 a] [] (outA ⟨a, [⟨[k], zeroS, 0, 0⟩]⟩) [] 0 := by
 have h : FnSpec Tryz.prog 30 nx [n64 k, n64 a] [] (.agg 2 [n64 a, .sl 35 [.agg 35 [.sl 1 [n64 k] 1, sumA zeroS, n64 0, n64 0]] 1]) [] 0 := by
  refine FnSpec.of_code (cx := cx) (an := {}) (rs := [.cell 4 104]) mo Tryz.func30 rfl rfl (by kernel_rfl) (by kernel_rfl) (by show 2 ≤ _; decide) (.inl rfl) (by simp [allWr, keys, Res.wr]) ?_
  repeat' (first | omega | assumption | (show AL.ahead _ _ _ = true; rfl) | (first | apply brF | apply brT | apply brVF | apply brVT) <;> intro _ | (with_reducible refine And.intro ?_ ?_) | (simp -dsimp -implicitDefEqProofs only [go_sem]))
 exact h.outle ⟨_, rfl, _, _, rfl, AV.le_refl _, _, _, rfl, ⟨_, _, rfl, ⟨_, _, rfl, ⟨_, rfl, _, _, rfl, ⟨_, _, rfl, AV.les_refl _, .inr (.inl rfl)⟩, AV.les_refl _⟩, rfl⟩, .inr (.inl rfl)⟩, rfl⟩
def txW (t : Tx_) (s : AV) : AV := .agg 40 [.sl 35 (insA t.ins) 0, .sl 2 (outsA t.outs) 0, opT t.op, s]
theorem txW_good (t : Tx_) (s : AV) : (txW t s).good = true := rfl
theorem txW_csz (t : Tx_) (s : AV) : (txW t s).csize = 40 := rfl
theorem txW_agg (t : Tx_) (s : AV) : (txW t s).isAgg = true := rfl
theorem nb_txW {m : Nat} (t : Tx_) (s : AV) : AV.nb m (txW t s) = AV.nb m s := by
 simp [txW, AV.nb, AV.nbs, nb_ins, nb_outs, nb_signs, opT, nb_sum, nb_u8s]
theorem txSumW_spec (nx tok : Nat) (t : Tx_) (hs : t.signs = []) (hb : (bodyL true t).length < 2 ^ 38) (hk : ∀ o ∈ t.outs, ∀ w ∈ o.ways, w.keys.length < 2 ^ 32) :
  FnSpec Tryz.prog 35 nx [txW t (.sl 33 [] tok)] [] (sumA (txS t)) [] 0 := by
 refine (txSum_spec nx t hb hk).le ⟨_, _, rfl, ⟨_, rfl, ?_⟩, rfl⟩
 rw [hs]
 exact ⟨_, _, rfl, AV.le_refl _, _, _, rfl, AV.le_refl _, _, _, rfl, AV.le_refl _, _, _, rfl, ⟨_, _, rfl, AV.les_refl _, .inr (.inl rfl)⟩, rfl⟩
theorem txW_p3 (t : Tx_) (s : AV) : (txW t s).parts.getD 3 .undef = s := rfl
theorem txW_len (t : Tx_) (s : AV) : (txW t s).parts.length = 4 := rfl
theorem txW_off (t : Tx_) (s : AV) : (txW t s).partOff 3 = 39 := rfl
theorem txW_set (t : Tx_) (s s' : AV) : (txW t s).setPart 3 s' = txW t s' := rfl
theorem nb_sign {m : Nat} (s : Sign_) : AV.nb m (signA s) = True := by simp [signA, AV.nb, AV.nbs, nb_sum]
def sg (x : Sign_) : Bool → List AV
 | false => []
 | true => [signA x]
def sn : Bool → Int
 | false => 0
 | true => 1
def sk : Bool → Nat
 | false => 0
 | true => 1
theorem sg_f (x : Sign_) : sg x false = [] := rfl
theorem sg_t (x : Sign_) : sg x true = [signA x] := rfl
theorem sn_f : sn false = 0 := rfl
theorem sn_t : sn true = 1 := rfl
theorem sk_f : sk false = 0 := rfl
theorem sk_t : sk true = 1 := rfl
def tx0 : AV := .agg 40 [.sl 35 [] 1, .sl 2 [] 1, .agg 37 [n64 0, n64 0, n64 0, n64 0, sumA zeroS, .sl 1 [] 1], .sl 33 [] 1]
theorem tx0_good : tx0.good = true := rfl
theorem tx0_csz : tx0.csize = 40 := rfl
theorem tx0_agg : tx0.isAgg = true := rfl
theorem nb_sg {m : Nat} (s : Sign_) (b : Bool) : AV.nbs m (sg s b) = True := by cases b <;> simp [sg, nb_sign, AV.nbs]
theorem signedT_spec (nx tok : Nat) (t : Tx_) (k : Int) (hs : t.signs = []) (hb : (bodyL true t).length < 2 ^ 38) (hk : ∀ o ∈ t.outs, ∀ w ∈ o.ways, w.keys.length < 2 ^ 32) (ht : tok < 2 ∨ tok - 2 < nx) :
  FnSpec Tryz.prog 32 nx [txW t (.sl 33 [] 1), .sl 1 [n64 k] tok] [] (txW t (.sl 33 [signA ⟨k, txS t⟩] (nx + 122))) [(nx + 120, some (.tail 1))] 300 := by
 have hdl := fun nc (h : nx + 188 < nc) => deleteEmpty_spec nc (nx + 122) 67 [.ref (nx + 188) 0 []] (fun m h => by simp only [AV.nbs, AV.nb, and_true]; omega) (by omega)
 have hso := fun nc (h : nx + 122 < nc) => sortOne_spec nc (nx + 122) ⟨k, txS t⟩ 69 (by omega)
 refine FnSpec.of_code (cx := cx) (an := {mt := [2]}) (rs := [.cell 4 40]) mo Tryz.func32 rfl rfl (by kernel_rfl) (by kernel_rfl) (by show 2 ≤ _; decide) (.inl rfl) (by simp [allWr, keys, Res.wr]) ?_
 repeat' (first | omega | assumption | (show AL.ahead _ _ _ = true; rfl) | (first | apply brF | apply brT | apply brVF | apply brVT) <;> intro _ | (with_reducible refine And.intro ?_ ?_) | (refine callK_by (txSumW_spec _ 1 t hs hb hk) ?_) | (refine callK_by (cloneNil_spec _ 33) ?_) | (simp -dsimp -implicitDefEqProofs only [go_sem, txW_good, txW_csz, txW_agg, nb_txW, txW_p3, txW_len, txW_off]))
 apply loop_keep [2, 4, 5, 14, 15] (fun b : Bool => [(6, .sl 33 (sg ⟨k, txS t⟩ b) (nx + 122)), (16, n64 (sn b))]) (fun b => [(nx + 120, some (.tail (sk b))), (nx + 32, some (.obj (sumA (txS t)))), (nx + 8, some (.obj tx0)), (nx, some (.obj (txW t (.sl 33 [] 1))))]) (fun b => 1 - sk b) false
 ·simp -dsimp -implicitDefEqProofs only [go_sem]; rfl
 ·simp -dsimp -implicitDefEqProofs only [go_sem, sg_f, sn_f]; try rfl
 ·simp -dsimp -implicitDefEqProofs only [go_sem, sk_f, tx0]; try rfl
 ·intro s
  simp -dsimp -implicitDefEqProofs only [go_sem, nb_sg, tx0, nb_txW]
  try omega
 ·rintro (_ | _)
  ·repeat' (first | omega | assumption | (show AL.ahead _ _ _ = true; rfl) | (first | apply brF | apply brT | apply brVF | apply brVT) <;> intro _ | (with_reducible refine And.intro ?_ ?_) | (refine callK_by (hdl _ (by omega)) ?_) | (simp -dsimp -implicitDefEqProofs only [go_sem, sg_f, sn_f, sk_f, w1_64, List.append_eq, List.cons_append, List.nil_append]))
   exact ⟨true, by decide, ⟨rfl, rfl⟩, rfl⟩
  ·repeat' (first | omega | assumption | (show AL.ahead _ _ _ = true; rfl) | (first | apply brF | apply brT | apply brVF | apply brVT) <;> intro _ | (with_reducible refine And.intro ?_ ?_) | (refine callK_by (hso _ (by omega)) ?_) | (simp -dsimp -implicitDefEqProofs only [go_sem, sg_t, sn_t, sk_t, w1_64, List.append_eq, List.cons_append, List.nil_append, txW_good, txW_csz, txW_agg, nb_txW, txW_p3, txW_len, txW_off, txW_set, tx0_good, tx0_csz, tx0_agg, nb_sign]))
theorem signed_spec (nx tok : Nat) (t : Tx_) (k : Int) (hs : t.signs = []) (hb : (bodyL true t).length < 2 ^ 38) (hk : ∀ o ∈ t.outs, ∀ w ∈ o.ways, w.keys.length < 2 ^ 32) (ht : tok < 2 ∨ tok - 2 < nx) :
  FnSpec Tryz.prog 32 nx [txW t (.sl 33 [] 1), .sl 1 [n64 k] tok] [] (txA { t with signs := [⟨k, txS t⟩] }) [] 0 := by
 have h := (signedT_spec nx tok t k hs hb hk ht).outle (av' := txA { t with signs := [⟨k, txS t⟩] }) ⟨_, rfl, ⟨_, _, rfl, AV.le_refl _, _, _, rfl, AV.le_refl _, _, _, rfl, AV.le_refl _, _, _, rfl, ⟨_, _, rfl, AV.les_refl _, .inr (.inl rfl)⟩, rfl⟩⟩
 exact h.forget0 (show subA (txA _) (txA _) from rfl) (by rw [nb_tx]; trivial) (by simp [keys])
end Go.Proofs.YtaghcjbpjnpkbaaGreat

namespace Go.Proofs.YtaghcjbpjnpkbaaGreat
open Go Go.AL Go.Proofs.YtaghcjbpjnpkbaaGreat.T

def sumsA (l : List Sum) : List AV := l.map sumA
theorem sums_len (l : List Sum) : (sumsA l).length = l.length := by simp [sumsA]
theorem nb_sums {m : Nat} (l : List Sum) : AV.nbs m (sumsA l) = True := by
 simp only [eq_iff_iff, iff_true]
 exact nbs_map (fun s => by rw [nb_sum]; trivial) l
theorem sums_snoc (l : List Sum) (s : Sum) : sumsA l ++ [AV.vec 1 (u8s s.b)] = sumsA (l ++ [s]) := by simp [sumsA, sumA]
theorem sums_get {l : List Sum} {i : Nat} (h : i < l.length) : (sumsA l).getD i .undef = sumA l[i] := by
 simp [sumsA, List.getD_eq_getElem?_getD, List.getElem?_map, List.getElem?_eq_getElem h]
abbrev nilP : AV := .val (.pointer none)

end Go.Proofs.YtaghcjbpjnpkbaaGreat

namespace Go.Proofs.YtaghcjbpjnpkbaaGreat
open Go Go.AL Go.Proofs.YtaghcjbpjnpkbaaGreat.T

end Go.Proofs.YtaghcjbpjnpkbaaGreat

namespace Go.Proofs.YtaghcjbpjnpkbaaGreat
open Go Go.AL Go.Proofs.YtaghcjbpjnpkbaaGreat.T

def chanZ : Chan := ⟨0, 0, 0, ⟨zeroS, 0⟩, 0, 0, 0⟩
def isSumT (P : Program) (T : TypeId) : Bool :=
 match tarr P T with
 | some (len, e) => decide (len = 32) && decide (tsz P e = some 1) && decide (tagg P e = some false) && (match tint P e with | some .u8 => true | _ => false)
 | none => false
theorem cmp_sum {P : Program} {T : TypeId} {s : Sum} (h : isSumT P T = true) : cmpOK P 8 T (.vec 1 (u8s s.b)) = True := by
 unfold isSumT at h
 split at h
 ·rename_i len e he
  simp only [Bool.and_eq_true, decide_eq_true_eq] at h
  obtain ⟨⟨⟨h1, h2⟩, h3⟩, h4⟩ := h
  have h5 : tint P e = some .u8 := by
   split at h4
   ·assumption
   ·cases h4
  simp only [eq_iff_iff, iff_true]
  rw [cmpOK]
  simp only [he, h2, h3]
  refine ⟨by rw [u8s_length, s.h, h1], trivial, fun p hp => ?_⟩
  obtain ⟨b, _, rfl⟩ := List.mem_map.1 hp
  exact ⟨rfl, rfl, by simp only [u8, cmpOK]; exact h5⟩
 ·cases h
theorem eqB_self (a : AV) : eqB a a = true := eqB_yes rfl
end Go.Proofs.YtaghcjbpjnpkbaaGreat

namespace Go.Proofs.YtaghcjbpjnpkbaaGreat
open Go Go.AL Go.Proofs.YtaghcjbpjnpkbaaGreat.T
attribute [local go_sem] nb_u8s u8s_length nb_sum sumA List.length_replicate zero_sum sum_h nb_vals vals_len u8s_nil
def op0 : Op_ := ⟨0, 0, 0, 0, zeroS, []⟩
def toO (k a : Int) : Out_ := ⟨a, [⟨[k], zeroS, 0, 0⟩]⟩
def settleT (ch k : Int) (tower a : Int) : Tx_ := ⟨[], [toO k a], ⟨7, tower, ch, 0, zeroS, []⟩, []⟩
noncomputable def signedT (t : Tx_) (k : Int) : Tx_ := { t with signs := [⟨k, txS t⟩] }
theorem opL_le (o : Op_) : (opL o).length ≤ 82 + o.data.length := by
 have h1 := flat_numI [o.kind, o.tower, o.channel, o.amount]
 have h2 := numI_len o.data.length
 simp only [List.length_cons, List.length_nil] at h1
 simp only [opL, List.length_append, sum_h]; omega
theorem outL_to (k a : Int) : (outL (toO k a)).length ≤ 92 := by
 have h1 := flat_numI [a, ((1 : Nat) : Int)]
 have h2 := numI_len ((1 : Nat) : Int)
 have h3 := flat_numI [k]
 have h4 := flat_numI [(0 : Int), 0]
 simp only [List.length_cons, List.length_nil] at h1 h3 h4
 simp only [outL, toO, wayL, List.flatMap_cons, List.flatMap_nil, List.append_nil, List.length_append, sum_h, List.length_cons, List.length_nil, Nat.zero_add] at *
 omega
theorem inL_le (x : In_) : (inL true x).length ≤ 62 + x.pre.length := by
 have h1 := flat_numI [x.ref.at_, x.way]
 have h2 := numI_len x.pre.length
 simp only [List.length_cons, List.length_nil] at h1
 simp only [inL, List.length_append, sum_h, if_true]; omega
theorem settleT_len (ch k t a : Int) : (bodyL true (settleT ch k t a)).length < 2 ^ 38 := by
 have h1 := numI_len ((1 : Nat) : Int)
 have h2 := numI_len ((0 : Nat) : Int)
 have h3 := outL_to k a
 have h4 := opL_le ⟨7, t, ch, 0, zeroS, []⟩
 simp only [List.length_nil] at h4
 simp only [bodyL, settleT, List.flatMap_cons, List.flatMap_nil, List.append_nil, List.length_append, List.length_cons, List.length_nil, Nat.zero_add]
 omega
theorem toO_keys (k a : Int) (L : List Out_) (h : L = [toO k a]) : ∀ o ∈ L, ∀ w ∈ o.ways, w.keys.length < 2 ^ 32 := by
 subst h
 intro o ho w hw
 simp at ho; subst ho
 simp [toO] at hw; subst hw
 simp
theorem settleSign (nx : Nat) (ch k t a : Int) :
  FnSpec Tryz.prog 32 nx [.agg 40 [.sl 35 [] 1, .sl 2 [outA (toO k a)] 1, .agg 37 [n64 7, n64 t, n64 ch, n64 0, sumA zeroS, .sl 1 [] 1], .sl 33 [] 1], .sl 1 [n64 k] 1] [] (txA (signedT (settleT ch k t a) k)) [] 0 := by
 refine (signed_spec nx 1 (settleT ch k t a) k rfl (settleT_len ch k t a) (toO_keys k a _ rfl) (.inl (by decide))).le ?_
 refine ⟨_, _, rfl, ⟨_, rfl, _, _, rfl, ⟨_, _, rfl, AV.les_refl _, .inr (.inl rfl)⟩, _, _, rfl, ⟨_, _, rfl, AV.les_refl _, .inr (.inl rfl)⟩, _, _, rfl, ⟨_, rfl, ?_⟩, AV.les_refl _⟩, AV.les_refl _⟩
 ·exact ⟨_, _, rfl, AV.le_refl _, _, _, rfl, AV.le_refl _, _, _, rfl, AV.le_refl _, _, _, rfl, AV.le_refl _, _, _, rfl, AV.le_refl _, _, _, rfl, ⟨_, _, rfl, AV.les_refl _, .inr (.inl rfl)⟩, rfl⟩
theorem settle_spec (nx : Nat) (c : Chan) (t a : Int) : FnSpec Tryz.prog 22 nx [chanA c, n64 t, n64 a] [] (txA (signedT (settleT c.id c.client t a) c.client)) [] 0 := by
 refine FnSpec.of_code (cx := cx) (an := {}) (rs := [.cell 6 40]) mo Tryz.func22 rfl rfl (by kernel_rfl) (by kernel_rfl) (by show 3 ≤ _; decide) (.inl rfl) (by simp [allWr, keys, Res.wr]) ?_
 repeat' (first | omega | assumption | (show AL.ahead _ _ _ = true; rfl) | (first | apply brF | apply brT | apply brVF | apply brVT) <;> intro _ | (with_reducible refine And.intro ?_ ?_) | (refine callK_by (to_spec _ c.client a) ?_) | (refine callK_by (settleSign _ c.id c.client t a) ?_) | (simp -dsimp -implicitDefEqProofs only [go_sem, chanA, refA, outA, nb_ways, txA_good, txA_csz, txA_agg, nb_tx]))
end Go.Proofs.YtaghcjbpjnpkbaaGreat

namespace Go.Proofs.YtaghcjbpjnpkbaaGreat
open Go Go.AL Go.Proofs.YtaghcjbpjnpkbaaGreat.T
attribute [local go_sem] nb_u8s u8s_length nb_sum sumA List.length_replicate zero_sum sum_h nb_vals vals_len u8s_nil
abbrev chanR (c : Chan) : Prop := 0 ≤ c.id ∧ c.id ≤ 1048576 ∧ 0 ≤ c.client ∧ c.client ≤ 255 ∧ 0 ≤ c.peer ∧ c.peer ≤ 255 ∧ c.client ≠ c.peer ∧ 1 ≤ c.cap ∧ 0 ≤ c.cap ∧ c.cap ≤ 1125899906842624 ∧ 1 ≤ c.window ∧ c.window < c.wait ∧ c.wait ≤ 65536 ∧ 0 ≤ c.fund.at_ ∧ c.fund.at_ < 16
theorem chanR_spec (nx : Nat) (c : Chan) : FnSpec Tryz.prog 126 nx [chanA c] [] (bA (decide (chanR c))) [] 0 := by
  refine FnSpec.of_code (cx := cx) (an := {}) (rs := [.tmp 2]) mo Tryz.func126 rfl rfl (by kernel_rfl) (by kernel_rfl) (by show 1 ≤ _; decide) (.inl rfl) (by simp [allWr, keys, Res.wr]) ?_
  repeat' (first | omega | assumption | (show AL.ahead _ _ _ = true; rfl) | (first | apply brF | apply brT | apply brVF | apply brVT) <;> intro _ | (with_reducible refine And.intro ?_ ?_) | (refine callK_by (coinRight_spec _ c.cap) ?_) | (simp -dsimp -implicitDefEqProofs only [go_sem, chanA, refA, List.append_eq, List.cons_append, List.nil_append]))
  all_goals (simp only [bA, chanR]; congr 2; first | (symm; apply decide_eq_false; omega) | (symm; apply decide_eq_true; omega) | (apply decide_eq_decide.2; omega))
def addF : Int → List Int → Int × Int
  | s, [] => (s, 0)
  | s, a :: r => if 0 ≤ a ∧ a ≤ 1125899906842624 then (if 1125899906842624 < s + a then (0, 10) else addF (s + a) r) else (0, 5)
theorem add_spec (nx : Nat) (l : List Int) (hl : l.length < 2 ^ 40) : FnSpec Tryz.prog 43 nx [.sl 1 (vals .i64 l) 1] [] (.tup [n64 (addF 0 l).1, n64 (addF 0 l).2]) [] 0 := by
  obtain ⟨R, hR⟩ : ∃ R, R = addF 0 l := ⟨_, rfl⟩
  rw [← hR]
  refine FnSpec.of_code (cx := cx) (an := {}) (rs := [.tmp 2, .tmp 3]) mo Tryz.func43 rfl rfl (by kernel_rfl) (by kernel_rfl) (by show 1 ≤ _; decide) (.inr ⟨_, rfl, by simp [AV.good]⟩) (by simp [allWr, keys, Res.wr]) ?_
  repeat' (first | omega | assumption | (show AL.ahead _ _ _ = true; rfl) | (first | apply brF | apply brT | apply brVF | apply brVT) <;> intro _ | (with_reducible refine And.intro ?_ ?_) | (simp -dsimp -implicitDefEqProofs only [go_sem]))
  apply loop_keep [7, 8] (fun p : { p : Nat × Int // p.1 ≤ l.length ∧ 0 ≤ p.2 ∧ p.2 ≤ 1125899906842624 ∧ addF p.2 (l.drop p.1) = R } => [(4, n64 p.1.2), (9, n64 p.1.1)]) (fun _ => []) (fun p => l.length - p.1.1) ⟨(0, 0), Nat.zero_le _, Int.le_refl _, by decide, by rw [hR]; rfl⟩
  · simp -dsimp -implicitDefEqProofs only [go_sem]; try rfl
  · simp -dsimp -implicitDefEqProofs only [go_sem]; try rfl
  · simp -dsimp -implicitDefEqProofs only [go_sem]; try rfl
  · intro s
    simp -dsimp -implicitDefEqProofs only [go_sem]
    try omega
  · rintro ⟨⟨i, x⟩, hi, hx0, hx1, hall⟩
    have hi : i ≤ l.length := hi
    simp only at hx0 hx1 hall
    simp -dsimp -implicitDefEqProofs only [go_sem]
    refine brT (fun hc => ?_) (fun hc => ?_)
    · have hi2 : i < l.length := by omega
      have q1 := vals_get (k := .i64) hi2
      have hd := List.drop_eq_getElem_cons hi2
      have hg : l.getD i 0 = l[i] := by rw [List.getD_eq_getElem?_getD, List.getElem?_eq_getElem hi2]; rfl
      rw [hd] at hall
      rw [hg] at q1
      generalize l[i] = y at *
      have w1 : IntKind.i64.wrap ((i : Int) + 1) = ((i + 1 : Nat) : Int) := wrapE (by omega) (by omega)
      by_cases hy : 0 ≤ y ∧ y ≤ 1125899906842624
      · have w2 : IntKind.i64.wrap (x + y) = x + y := by rw [IntKind.wrap_i64]; omega
        rw [addF, if_pos hy] at hall
        repeat' (first | omega | assumption | (show AL.ahead _ _ _ = true; rfl) | (first | apply brF | apply brT | apply brVF | apply brVT) <;> intro _ | (with_reducible refine And.intro ?_ ?_) | (refine callK_by (coinRight_spec _ y) ?_) | (simp -dsimp -implicitDefEqProofs only [go_sem, q1, w1, w2, decide_eq_true hy]))
        · rename_i hx
          rw [if_pos hx] at hall
          rw [← hall]
        · rename_i hx
          rw [if_neg hx] at hall
          exact ⟨⟨(i + 1, x + y), hi2, by show 0 ≤ x + y; omega, by show x + y ≤ _; omega, hall⟩, by show l.length - (i + 1) < l.length - i; omega, ⟨rfl, rfl⟩⟩
      · rw [addF, if_neg hy] at hall
        repeat' (first | omega | assumption | (show AL.ahead _ _ _ = true; rfl) | (first | apply brF | apply brT | apply brVF | apply brVT) <;> intro _ | (with_reducible refine And.intro ?_ ?_) | (refine callK_by (coinRight_spec _ y) ?_) | (simp -dsimp -implicitDefEqProofs only [go_sem, q1, w1, decide_eq_false hy]))
        rw [← hall]
    · have e : i = l.length := by omega
      subst e
      rw [List.drop_length, addF] at hall
      repeat' (first | omega | assumption | (show AL.ahead _ _ _ = true; rfl) | (first | apply brF | apply brT | apply brVF | apply brVT) <;> intro _ | (with_reducible refine And.intro ?_ ?_) | (simp -dsimp -implicitDefEqProofs only [go_sem]))
      rw [← hall]
structure St_ where
  n : Int
  client : Int
  peer : Int
  h0 : Sum
  h1 : Sum
def stateA (s : St_) : AV := .agg 67 [n64 s.n, n64 s.client, n64 s.peer, .vec 32 [sumA s.h0, sumA s.h1]]
def stP (c : Chan) (s : St_) : Prop := chanR c ∧ 0 ≤ s.n ∧ s.n ≤ 1048576 ∧ eqB (sumA s.h0) (sumA zeroS) = false ∧ eqB (sumA s.h1) (sumA zeroS) = false ∧ (addF 0 [s.client, s.peer]).2 = 0 ∧ (addF 0 [s.client, s.peer]).1 = c.cap
noncomputable def stR (c : Chan) (s : St_) : Bool := @decide (stP c s) (Classical.propDecidable _)
theorem stR_yes {c : Chan} {s : St_} (h : stP c s) : bA (stR c s) = bA true := by unfold stR; rw [@decide_eq_true _ (Classical.propDecidable _) h]
theorem stR_no {c : Chan} {s : St_} (h : ¬ stP c s) : bA (stR c s) = bA false := by unfold stR; rw [@decide_eq_false _ (Classical.propDecidable _) h]
theorem stR_spec (nx : Nat) (c : Chan) (s : St_) : FnSpec Tryz.prog 81 nx [chanA c, stateA s] [] (bA (stR c s)) [] 0 := by
  have hc := fun nc => chanR_spec nc c
  have ha := fun nc => add_spec nc [s.client, s.peer] (by simp)
  simp only [chanA, refA] at hc
  simp only [vals, List.map_cons, List.map_nil] at ha
  refine FnSpec.of_code (cx := cx) (an := {}) (rs := [.tmp 4]) mo Tryz.func81 rfl rfl (by kernel_rfl) (by kernel_rfl) (by show 2 ≤ _; decide) (.inl rfl) (by simp [allWr, keys, Res.wr]) ?_
  repeat' (first | omega | assumption | (show AL.ahead _ _ _ = true; rfl) | (first | apply brF | apply brT | apply brVF | apply brVT) <;> intro _ | (with_reducible refine And.intro ?_ ?_) | (refine callK_by (hc _) ?_) | (refine callK_by (ha _) ?_) | (simp -dsimp -implicitDefEqProofs only [go_sem, chanA, refA, stateA, ↓cmp_sum, isSumT, decide_eq_true_eq, Bool.and_self]))
  all_goals first
    | (refine (stR_no (fun h => ?_)).symm
       obtain ⟨a1, a2, a3, a4, a5, a6, a7⟩ := h
       first | omega | contradiction | (rename_i hx; exact absurd (a4.symm.trans hx) (by decide)) | (rename_i hx; exact absurd (a5.symm.trans hx) (by decide)))
    | (rename_i h1 h2 h3 h4 h5 h6
       by_cases h7 : (addF 0 [s.client, s.peer]).1 = c.cap
       · rw [decide_eq_true h7]; exact (stR_yes ⟨h1, by omega, by omega, h4, h5, h6, h7⟩).symm
       · rw [decide_eq_false h7]; exact (stR_no (fun h => h7 h.2.2.2.2.2.2)).symm)
   
noncomputable def hashS (s : Sum) : Sum := joinS 31 [s.b]
theorem lhash_spec (nx t : Nat) (a : List UInt8) (ha : a.length < 2 ^ 39) (ht : t < 2 ∨ t - 2 < nx) : FnSpec Tryz.prog 27 nx [.sl 1 (u8s a) t] [] (sumA (joinS 31 [a])) [] 0 := by
  have hj := fun nc (h : nx ≤ nc) => join1_spec nc 1 t 31 a ha (by omega) (by omega)
  refine FnSpec.of_code (cx := cx) (an := {}) (rs := [.cell 2 26]) mo Tryz.func27 rfl rfl (by kernel_rfl) (by kernel_rfl) (by show 1 ≤ _; decide) (.inl rfl) (by simp [allWr, keys, Res.wr]) ?_
  repeat' (first | omega | assumption | (show AL.ahead _ _ _ = true; rfl) | (first | apply brF | apply brT | apply brVF | apply brVT) <;> intro _ | (with_reducible refine And.intro ?_ ?_) | (refine callK_by (hj _ (by omega)) ?_) | (simp -dsimp -implicitDefEqProofs only [go_sem]))
theorem shash_spec (nx : Nat) (s : Sum) : FnSpec Tryz.prog 127 nx [sumA s] [] (sumA (hashS s)) [] 0 := by
  have hl := s.h
  refine FnSpec.of_code (cx := cx) (an := {}) (rs := [.cell 2 26]) mo Tryz.func127 rfl rfl (by kernel_rfl) (by kernel_rfl) (by show 1 ≤ _; decide) (.inl rfl) (by simp [allWr, keys, Res.wr]) ?_
  repeat' (first | omega | assumption | (show AL.ahead _ _ _ = true; rfl) | (first | apply brF | apply brT | apply brVF | apply brVT) <;> intro _ | (with_reducible refine And.intro ?_ ?_) | (refine callK_by (lhash_spec _ 1 s.b (by omega) (by omega)) ?_) | (simp -dsimp -implicitDefEqProofs only [go_sem, take32, hashS]))
end Go.Proofs.YtaghcjbpjnpkbaaGreat

namespace Go.Proofs.YtaghcjbpjnpkbaaGreat
open Go Go.AL Go.Proofs.YtaghcjbpjnpkbaaGreat.T
attribute [local go_sem] nb_u8s u8s_length nb_sum sumA List.length_replicate u8_wrap take32 List.drop_zero zero_sum sum_h u8s_cons u8s_one u8_gc u8_gd1 u8_cs1 List.length_append u8s_app penA nb_vals vals_len u8s_nil
structure Rec_ where
 tower : Int
 channel : Int
 state : Int
 hint : Sum
 blob : Sum
def recA (r : Rec_) : AV := .agg 67 [n64 r.tower, n64 r.channel, n64 r.state, sumA r.hint, sumA r.blob]
def recL (r : Rec_) : List UInt8 := [r.tower, r.channel, r.state].flatMap numI ++ r.hint.b ++ r.blob.b
abbrev recR (r : Rec_) : Prop := 0 ≤ r.tower ∧ r.tower < 16 ∧ 0 ≤ r.channel ∧ r.channel ≤ 1048576 ∧ 0 ≤ r.state ∧ r.state ≤ 1048576
theorem recRight_spec (nx : Nat) (r : Rec_) : FnSpec Tryz.prog 154 nx [recA r] [] (bA (decide (recR r))) [] 0 := by
 refine FnSpec.of_code (cx := cx) (an := {}) (rs := [.tmp 2]) mo Tryz.func154 rfl rfl (by kernel_rfl) (by kernel_rfl) (by show 1 ≤ _; decide) (.inl rfl) (by simp [allWr, keys, Res.wr]) ?_
 repeat' (first | omega | assumption | (show AL.ahead _ _ _ = true; rfl) | (first | apply brF | apply brT | apply brVF | apply brVT) <;> intro _ | (with_reducible refine And.intro ?_ ?_) | (simp -dsimp -implicitDefEqProofs only [go_sem, recA]))
 all_goals (simp only [bA, recR]; congr 2; first | (simp; omega) | (apply decide_eq_decide.2; omega))
theorem recText_spec (nx : Nat) (r : Rec_) : FnSpec Tryz.prog 156 nx [recA r] [] (.sl 1 (u8s (recL r)) 0) [] 0 := by
 have h1 := flat_numI [r.tower, r.channel, r.state]
 have h2 := r.hint.h
 have h3 := r.blob.h
 simp only [List.length_cons, List.length_nil] at h1
 have key : FnSpec Tryz.prog 156 nx [recA r] [] (.sl 1 (u8s (recL r)) (nx + 210)) [(nx + 208, some (.tail (recL r).length))] 600 := by
  unfold recL
  refine FnSpec.of_code (cx := cx) (an := {tk := [(3, [([0], 1)])]}) (rs := [.tmp 2]) mo Tryz.func156 rfl rfl (by kernel_rfl) (by kernel_rfl) (by show 1 ≤ _; decide) (.inl rfl) (by simp [allWr, keys, Res.wr]) ?_
  repeat' (first | omega | assumption | (show AL.ahead _ _ _ = true; rfl) | (first | apply brF | apply brT | apply brVF | apply brVT) <;> intro _ | (with_reducible refine And.intro ?_ ?_) | (refine callK_by (nums_spec _ (nx + 16) (nx + 17) 1 [] [r.tower, r.channel, r.state] (by simp) (by omega) (by omega) (by omega) (by omega)) ?_) | (refine callK_by (psum_spec _ (nx + 16) (nx + 17) ([r.tower, r.channel, r.state].flatMap numI) r.hint (by omega) (by omega) (by omega) (by omega)) ?_) | (refine callK_by (psum_spec _ (nx + 16) (nx + 17) ([r.tower, r.channel, r.state].flatMap numI ++ r.hint.b) r.blob (by simp only [List.length_append]; omega) (by omega) (by omega) (by omega)) ?_) | (refine callK_by (bytes_spec _ (nx + 16) (nx + 19) ([r.tower, r.channel, r.state].flatMap numI ++ r.hint.b ++ r.blob.b) (by simp only [List.length_append]; omega) (by omega) (by omega)) ?_) | (simp -dsimp -implicitDefEqProofs only [go_sem, recA]))
 exact key.forget0 ⟨rfl, .inr ⟨.inl rfl, .inl rfl⟩⟩ (by simp [AV.nb, nb_u8s]) (by simp [keys])
structure Proof_ where
 rec_ : Rec_
 sig : List UInt8
 blob : List UInt8
 commit : Sum
def proofA (p : Proof_) : AV := .agg 101 [recA p.rec_, .sl 1 (u8s p.sig) 0, .sl 1 (u8s p.blob) 0, sumA p.commit]
end Go.Proofs.YtaghcjbpjnpkbaaGreat

namespace Go.Proofs.YtaghcjbpjnpkbaaGreat
open Go Go.AL Go.Proofs.YtaghcjbpjnpkbaaGreat.T
structure Held_ where
 rec_ : Rec_
 sig : List UInt8
 blob : List UInt8
def heldA (h : Held_) : AV := .agg 69 [.agg 68 [recA h.rec_, .sl 1 (u8s h.sig) 0], .sl 1 (u8s h.blob) 0]
end Go.Proofs.YtaghcjbpjnpkbaaGreat

namespace Go.Proofs.YtaghcjbpjnpkbaaGreat
open Go Go.AL Go.Proofs.YtaghcjbpjnpkbaaGreat.T
attribute [local go_sem] nb_u8s u8s_length nb_sum sumA List.length_replicate zero_sum sum_h nb_vals vals_len u8s_nil
theorem bnone_nil (nx : Nat) : FnSpec Tryz.prog 23 nx [nilP] [] (bA true) [] 0 := by
 refine FnSpec.of_code (cx := cx) (an := {}) (rs := [.tmp 2]) mo Tryz.func23 rfl rfl (by kernel_rfl) (by kernel_rfl) (by show 1 ≤ _; decide) (.inl rfl) (by simp [allWr, keys, Res.wr]) ?_
 repeat' (first | omega | assumption | (show AL.ahead _ _ _ = true; rfl) | (first | apply brF | apply brT | apply brVF | apply brVT) <;> intro _ | (with_reducible refine And.intro ?_ ?_) | (simp -dsimp -implicitDefEqProofs only [go_sem]))
theorem bchan_nil (nx : Nat) : FnSpec Tryz.prog 7 nx [nilP] [] (.tup [chanA chanZ, bA false]) [] 0 := by
 refine FnSpec.of_code (cx := cx) (an := {}) (rs := [.cell 2 47, .tmp 3]) mo Tryz.func7 rfl rfl (by kernel_rfl) (by kernel_rfl) (by show 1 ≤ _; decide) (.inr ⟨_, rfl, by simp [AV.good, chanA]⟩) (by simp [allWr, keys, Res.wr]) ?_
 repeat' (first | omega | assumption | (show AL.ahead _ _ _ = true; rfl) | (first | apply brF | apply brT | apply brVF | apply brVT) <;> intro _ | (with_reducible refine And.intro ?_ ?_) | (refine callK_by (bnone_nil _) ?_) | (simp -dsimp -implicitDefEqProofs only [go_sem, chanA, refA, chanZ]))
def stateZ : AV := .agg 67 [n64 0, n64 0, n64 0, .vec 32 (List.replicate 2 (sumA zeroS))]
theorem bnow_nil (nx : Nat) : FnSpec Tryz.prog 53 nx [nilP] [] (.tup [stateZ, stateZ, bA false]) [] 0 := by
 refine FnSpec.of_code (cx := cx) (an := {}) (rs := [.cell 2 68, .cell 3 68, .tmp 4]) mo Tryz.func53 rfl rfl (by kernel_rfl) (by kernel_rfl) (by show 1 ≤ _; decide) (.inr ⟨_, rfl, by simp [AV.good, stateZ]⟩) (by simp [allWr, keys, Res.wr]) ?_
 repeat' (first | omega | assumption | (show AL.ahead _ _ _ = true; rfl) | (first | apply brF | apply brT | apply brVF | apply brVT) <;> intro _ | (with_reducible refine And.intro ?_ ?_) | (refine callK_by (bnone_nil _) ?_) | (simp -dsimp -implicitDefEqProofs only [go_sem, stateZ]))
 all_goals simp [AV.nbs, AV.nb, nb_u8s, List.replicate]
theorem owedNil_spec (nx : Nat) : FnSpec Tryz.prog 21 nx [nilP] [] (n64 0) [] 0 := by
 refine FnSpec.of_code (cx := cx) (an := {}) (rs := [.tmp 2]) mo Tryz.func21 rfl rfl (by kernel_rfl) (by kernel_rfl) (by show 1 ≤ _; decide) (.inl rfl) (by simp [allWr, keys, Res.wr]) ?_
 repeat' (first | omega | assumption | (show AL.ahead _ _ _ = true; rfl) | (first | apply brF | apply brT | apply brVF | apply brVT) <;> intro _ | (with_reducible refine And.intro ?_ ?_) | (refine callK_by (bnow_nil _) ?_) | (simp -dsimp -implicitDefEqProofs only [go_sem, stateZ]))
theorem planNil_spec (nx : Nat) : FnSpec Tryz.prog 20 nx [nilP, nilP, n64 1, bA true, n64 0] [] (.sl 0 [] 1) [] 0 := by
 refine FnSpec.of_code (cx := cx) (an := {}) (rs := [.tmp 10]) mo Tryz.func20 rfl rfl (by kernel_rfl) (by kernel_rfl) (by show 5 ≤ _; decide) (.inl rfl) (by simp [allWr, keys, Res.wr]) ?_
 repeat' (first | omega | assumption | (show AL.ahead _ _ _ = true; rfl) | (first | apply brF | apply brT | apply brVF | apply brVT) <;> intro _ | (with_reducible refine And.intro ?_ ?_) | (refine callK_by (bchan_nil _) ?_) | (simp -dsimp -implicitDefEqProofs only [go_sem, chanA, refA, chanZ]))
end Go.Proofs.YtaghcjbpjnpkbaaGreat

namespace Go.Proofs.YtaghcjbpjnpkbaaGreat
open Go Go.AL Go.Proofs.YtaghcjbpjnpkbaaGreat.T
attribute [local go_sem] nb_u8s u8s_length nb_sum sumA List.length_replicate zero_sum sum_h nb_vals vals_len u8s_nil
abbrev inR (x : In_) : Prop := 0 ≤ x.ref.at_ ∧ x.ref.at_ < 16 ∧ 0 ≤ x.way ∧ x.way < 16 ∧ x.pre.length ≤ 64
theorem inR_spec (nx : Nat) (x : In_) (h : x.pre.length < 2 ^ 40) : FnSpec Tryz.prog 74 nx [inA x] [] (bA (decide (inR x))) [] 0 := by
 refine FnSpec.of_code (cx := cx) (an := {}) (rs := [.tmp 2]) mo Tryz.func74 rfl rfl (by kernel_rfl) (by kernel_rfl) (by show 1 ≤ _; decide) (.inl rfl) (by simp [allWr, keys, Res.wr]) ?_
 repeat' (first | omega | assumption | (show AL.ahead _ _ _ = true; rfl) | (first | apply brF | apply brT | apply brVF | apply brVT) <;> intro _ | (with_reducible refine And.intro ?_ ?_) | (simp -dsimp -implicitDefEqProofs only [go_sem, inA, refA]))
 all_goals (simp only [bA, inR]; congr 2; first | (simp; omega) | (apply decide_eq_decide.2; omega))
noncomputable def opB (o : Op_) : Bool := if o.kind = 0 then decide (o.tower = 0) && (decide (o.channel = 0) && (decide (o.amount = 0) && (eqB (.vec 1 (u8s o.root.b)) (.vec 1 (u8s zeroS.b)) && decide (o.data.length = 0)))) else
 decide (1 ≤ o.kind ∧ o.kind ≤ 7 ∧ 0 ≤ o.tower ∧ o.tower < 16 ∧ 0 ≤ o.channel ∧ o.channel ≤ 1048576 ∧ 0 ≤ o.amount ∧ o.amount ≤ 1125899906842624 ∧ o.data.length ≤ 65536)
theorem opR_spec (nx : Nat) (o : Op_) (h : o.data.length < 2 ^ 40) : FnSpec Tryz.prog 73 nx [opT o] [] (bA (opB o)) [] 0 := by
 refine FnSpec.of_code (cx := cx) (an := {}) (rs := [.tmp 2]) mo Tryz.func73 rfl rfl (by kernel_rfl) (by kernel_rfl) (by show 1 ≤ _; decide) (.inl rfl) (by simp [allWr, keys, Res.wr]) ?_
 repeat' (first | omega | assumption | (show AL.ahead _ _ _ = true; rfl) | (first | apply brF | apply brT | apply brVF | apply brVT) <;> intro _ | (with_reducible refine And.intro ?_ ?_) | (simp -dsimp -implicitDefEqProofs only [go_sem, opT, ↓cmp_sum, isSumT, decide_eq_true_eq, Bool.and_self]))
 all_goals (simp only [bA]; congr 2; unfold opB; simp [*])
 all_goals first | omega
end Go.Proofs.YtaghcjbpjnpkbaaGreat

namespace Go.Proofs.YtaghcjbpjnpkbaaGreat
open Go Go.AL Go.Proofs.YtaghcjbpjnpkbaaGreat.T
attribute [local go_sem] nb_u8s u8s_length nb_sum sumA List.length_replicate zero_sum sum_h nb_vals vals_len u8s_nil
abbrev keyP (l : List Int) (i : Nat) : Prop := 0 ≤ l.getD i 0 ∧ l.getD i 0 ≤ 255 ∧ (0 < i → l.getD (i - 1) 0 < l.getD i 0)
abbrev wayP (w : Way_) : Prop := w.keys.length ≤ 16 ∧ 0 ≤ w.after ∧ w.after ≤ 1073741824 ∧ 0 ≤ w.wait ∧ w.wait ≤ 1073741824 ∧ ∀ i, i < w.keys.length → keyP w.keys i
theorem wayR_spec (nx : Nat) (w : Way_) (h : w.keys.length < 2 ^ 40) : FnSpec Tryz.prog 90 nx [wayA w] [] (bA (decide (wayP w))) [] 0 := by
  refine FnSpec.of_code (cx := cx) (an := {}) (rs := [.tmp 2]) mo Tryz.func90 rfl rfl (by kernel_rfl) (by kernel_rfl) (by show 1 ≤ _; decide) (.inl rfl) (by simp [allWr, keys, Res.wr]) ?_
  repeat' (first | omega | assumption | (show AL.ahead _ _ _ = true; rfl) | (first | apply brF | apply brT | apply brVF | apply brVT) <;> intro _ | (with_reducible refine And.intro ?_ ?_) | (simp -dsimp -implicitDefEqProofs only [go_sem, wayA]))
  all_goals try (simp only [bA]; congr 2; symm; apply decide_eq_false; rintro ⟨a1, a2, a3, a4, a5, a6⟩; omega)
  apply loop_keep [1, 30, 31] (fun i : { i : Nat // i ≤ w.keys.length ∧ ∀ j, j < i → keyP w.keys j } => [(32, n64 i.1)]) (fun _ => []) (fun i => w.keys.length - i.1) ⟨0, Nat.zero_le _, fun j hj => absurd hj (Nat.not_lt_zero _)⟩
  · simp -dsimp -implicitDefEqProofs only [go_sem]; rfl
  · simp -dsimp -implicitDefEqProofs only [go_sem]; try rfl
  · simp -dsimp -implicitDefEqProofs only [go_sem]; try rfl
  · intro s
    simp -dsimp -implicitDefEqProofs only [go_sem]
    try omega
  · rintro ⟨i, hi, hall⟩
    have hi : i ≤ w.keys.length := hi
    simp -dsimp -implicitDefEqProofs only [go_sem]
    refine brT (fun hc => ?_) (fun hc => ?_)
    · have hi2 : i < w.keys.length := by omega
      have q1 := vals_get (k := .i64) hi2
      have w1 : IntKind.i64.wrap ((i : Int) + 1) = ((i + 1 : Nat) : Int) := wrapE (by omega) (by omega)
      rcases Nat.eq_zero_or_pos i with rfl | hpos
      · repeat' (first | omega | assumption | (show AL.ahead _ _ _ = true; rfl) | (first | apply brF | apply brT | apply brVF | apply brVT) <;> intro _ | (with_reducible refine And.intro ?_ ?_) | (simp -dsimp -implicitDefEqProofs only [go_sem, q1, w1]))
        all_goals first
          | (refine ⟨⟨0 + 1, hi2, fun j hj => ?_⟩, by show w.keys.length - (0 + 1) < w.keys.length - 0; omega, rfl⟩
             have e : j = 0 := by omega
             subst e
             exact ⟨by omega, by omega, fun h0 => absurd h0 (by omega)⟩)
          | (simp only [bA]; congr 2; symm; apply decide_eq_false; rintro ⟨a1, a2, a3, a4, a5, a6⟩; obtain ⟨b1, b2, b3⟩ := a6 0 hi2; omega)
         
      · have hi3 : i - 1 < w.keys.length := by omega
        have q2 := vals_get (k := .i64) hi3
        have w2 : IntKind.i64.wrap ((i : Int) - 1) = ((i - 1 : Nat) : Int) := wrapE (by omega) (by omega)
        repeat' (first | omega | assumption | (show AL.ahead _ _ _ = true; rfl) | (first | apply brF | apply brT | apply brVF | apply brVT) <;> intro _ | (with_reducible refine And.intro ?_ ?_) | (simp -dsimp -implicitDefEqProofs only [go_sem, q1, w1, q2, w2]))
        all_goals first
          | (refine ⟨⟨i + 1, hi2, fun j hj => ?_⟩, by show w.keys.length - (i + 1) < w.keys.length - i; omega, rfl⟩
             by_cases hj2 : j < i
             · exact hall j hj2
             · have e : j = i := by omega
               subst e
               exact ⟨by omega, by omega, fun h0 => by omega⟩)
          | (simp only [bA]; congr 2; symm; apply decide_eq_false; rintro ⟨a1, a2, a3, a4, a5, a6⟩; obtain ⟨b1, b2, b3⟩ := a6 i hi2; have b4 := b3 hpos; omega)
         
    · have e : i = w.keys.length := by omega
      subst e
      repeat' (first | omega | assumption | (show AL.ahead _ _ _ = true; rfl) | (first | apply brF | apply brT | apply brVF | apply brVT) <;> intro _ | (with_reducible refine And.intro ?_ ?_) | (simp -dsimp -implicitDefEqProofs only [go_sem]))
      simp only [bA]; congr 2; symm; exact decide_eq_true ⟨by omega, by omega, by omega, by omega, by omega, hall⟩
end Go.Proofs.YtaghcjbpjnpkbaaGreat

namespace Go.Proofs.YtaghcjbpjnpkbaaGreat
open Go Go.AL Go.Proofs.YtaghcjbpjnpkbaaGreat.T
attribute [local go_sem] nb_u8s u8s_length nb_sum sumA List.length_replicate zero_sum sum_h nb_vals vals_len u8s_nil
theorem wayN_spec (nx : Nat) (w : Way_) (h : w.keys.length < 2 ^ 40) : FnSpec Tryz.prog 89 nx [wayA w] [] (bA (!decide (wayP w))) [] 0 := by
 have hr := fun nc => wayR_spec nc w h
 simp only [wayA] at hr
 refine FnSpec.of_code (cx := cx) (an := {}) (rs := [.tmp 2]) mo Tryz.func89 rfl rfl (by kernel_rfl) (by kernel_rfl) (by show 1 ≤ _; decide) (.inl rfl) (by simp [allWr, keys, Res.wr]) ?_
 repeat' (first | omega | assumption | (show AL.ahead _ _ _ = true; rfl) | (first | apply brF | apply brT | apply brVF | apply brVT) <;> intro _ | (with_reducible refine And.intro ?_ ?_) | (refine callK_by (hr _) ?_) | (simp -dsimp -implicitDefEqProofs only [go_sem, wayA]))
end Go.Proofs.YtaghcjbpjnpkbaaGreat

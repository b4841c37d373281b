/-
  Bond; the keys that signed; is a transaction another one, signed by a key?
-/
import Derived.Test.YtjcnhgmaabkelaaBP34
import Derived.Test.YtjcnhgmaabkelaaAL24
import Derived.Test.YtjcnhgmaabkelaaRows
set_option linter.unusedSimpArgs false
set_option linter.unusedVariables false
set_option maxRecDepth 100000
set_option maxHeartbeats 1000000
namespace Go.Proofs.Ytjcnhgmaabkelaa
open Go Go.AL Go.Proofs.Ytjcnhgmaabkelaa.T
attribute [local go_sem] nb_u8s u8s_length nb_sum sumA List.length_replicate zero_sum sum_h nb_vals vals_len u8s_nil sums_len nb_sums towerA keyA nb_outs outs_len nb_signs signs_len nb_ins ins_len
def bondOs (n has a : Int) : List Out_ := if a < has then [toO (100 + n) (IntKind.i64.wrap (has - a))] else []
theorem bondOs_is (n has a : Int) : bondOs n has a = [] ∨ ∃ k x, bondOs n has a = [toO k x] := by
  unfold bondOs; split
  · exact .inr ⟨_, _, rfl⟩
  · exact .inl rfl
theorem bondOs_y {n has a : Int} (h : a < has) : bondOs n has a = [toO (100 + n) (IntKind.i64.wrap (has - a))] := by unfold bondOs; rw [if_pos h]
theorem bondOs_n {n has a : Int} (h : ¬ a < has) : bondOs n has a = [] := by unfold bondOs; rw [if_neg h]
theorem bondSign (nx : Nat) (n k a : Int) (r : Ref_) (os : List Out_) (root : Sum) (ho : os = [] ∨ ∃ k a, os = [toO k a]) :
    FnSpec Try.prog 33 nx [.agg 40 [.sl 35 [.agg 35 [refA r, n64 0, .sl 1 [] 1]] 1, .sl 2 (outsA os) 1, .agg 37 [n64 1, n64 n, n64 0, n64 a, sumA root, .sl 1 [] 1], .sl 33 [] 1], .sl 1 [n64 k] 1] [] (txA (signedT (bondT n r os a root) k)) [] 0 := by
  refine (signed_spec nx 1 (bondT n r os a root) k rfl (Nat.lt_trans (op_len _ (by simp) _ ho _ (.inr ⟨_, rfl⟩) _) (by decide)) (os_keys ho) (.inl (by decide))).le ?_
  refine ⟨_, _, rfl, ⟨_, rfl, _, _, rfl, ⟨_, _, rfl, ?_, .inr (.inl rfl)⟩, _, _, rfl, ⟨_, _, rfl, AV.les_refl _, .inr (.inl rfl)⟩, _, _, rfl, ⟨_, rfl, ?_⟩, AV.les_refl _⟩, AV.les_refl _⟩
  · exact ⟨_, _, rfl, ⟨_, rfl, _, _, rfl, AV.le_refl _, _, _, rfl, AV.le_refl _, _, _, rfl, ⟨_, _, rfl, AV.les_refl _, .inr (.inl rfl)⟩, rfl⟩, rfl⟩
  · exact ⟨_, _, rfl, AV.le_refl _, _, _, rfl, AV.le_refl _, _, _, rfl, AV.le_refl _, _, _, rfl, AV.le_refl _, _, _, rfl, AV.le_refl _, _, _, rfl, ⟨_, _, rfl, AV.les_refl _, .inr (.inl rfl)⟩, rfl⟩
theorem tbond_spec (nx m key t : Nat) (n has a : Int) (j g : AV) (r : Ref_) (s l : Sum) (next : Int) (h0 : 0 ≤ n) (h1 : n < 16) (hm : m < nx) (hk : key < nx) (hne : m ≠ key) (ht : t < 2 ∨ t - 2 < nx) :
    FnSpec Try.prog 11 nx [.ref m 0 [], refA r, n64 has, n64 a] [(m, some (.robj (towerA n key j g))), (key, some (.robj (keyA s [l] t next)))] (txA (signedT (bondT n r (bondOs n has a) a (leafS l)) (100 + n))) [] 0 := by
  have z1 : (m = key) = False := by simp [hne]
  have z2 : (key = m) = False := by simp [Ne.symm hne]
  have x1 := fun k => lt_nx hm k
  have x2 := fun k => nx_gt hm k
  have y1 := fun k => lt_nx hk k
  have y2 := fun k => nx_gt hk k
  have hrt := fun nc (h : nx ≤ nc) => trow_spec nc m key t n j g s l next (by omega) (by omega) hne (by omega)
  have hsg := fun nc => bondSign nc n (100 + n) a r (bondOs n has a) (leafS l) (bondOs_is n has a)
  by_cases hc : a < has
  · rw [bondOs_y hc] at hsg ⊢
    refine FnSpec.of_code (cx := cx) (an := {}) (rs := [.cell 8 43]) mo Try.func11 rfl rfl (by kernel_rfl) (by kernel_rfl) (by show 4 ≤ _; decide) (.inl rfl) (by simp [allWr, keys, Res.wr]) ?_
    repeat' (first | omega | assumption | (show AL.ahead _ _ _ = true; rfl) | refine brF (fun _ => ?_) (fun _ => ?_) | refine brT (fun _ => ?_) (fun _ => ?_) | refine brVF (fun _ => ?_) (fun _ => ?_) | refine brVT (fun _ => ?_) (fun _ => ?_) | (with_reducible refine And.intro ?_ ?_) | (refine callK_by (none_obj _ m key n j g) ?_) | (refine callK_by (jkey_spec _ n h0 h1) ?_) | (refine callK_by (hrt _ (by omega)) ?_) | (refine callK_by (to_spec _ (100 + n) (IntKind.i64.wrap (has - a))) ?_) | (refine callK_by (hsg _) ?_) | (simp -dsimp -implicitDefEqProofs only [go_sem, ↓reduceIte, Nat.reduceEqDiff, Nat.reduceAdd, Nat.reduceMul, Nat.reduceLeDiff, Nat.reduceLT, Nat.reduceBEq, Nat.reducePow, Int.reduceToNat, Int.reduceLE, Int.reduceLT, Int.reduceNeg, reduceCtorEq, Int.reduceEq, Int.reduceAdd, Int.reduceSub, Int.reduceMul, Nat.reduceSub, hc, refA, x1, x2, y1, y2, z1, z2, lt_nx0 hm, nx_gt0 hm, lt_nx0 hk, nx_gt0 hk, outA, nb_ways, txA_good, txA_csz, txA_agg, nb_tx]))
    all_goals trace_state
  · rw [bondOs_n hc] at hsg ⊢
    refine FnSpec.of_code (cx := cx) (an := {}) (rs := [.cell 8 43]) mo Try.func11 rfl rfl (by kernel_rfl) (by kernel_rfl) (by show 4 ≤ _; decide) (.inl rfl) (by simp [allWr, keys, Res.wr]) ?_
    repeat' (first | omega | assumption | (show AL.ahead _ _ _ = true; rfl) | refine brF (fun _ => ?_) (fun _ => ?_) | refine brT (fun _ => ?_) (fun _ => ?_) | refine brVF (fun _ => ?_) (fun _ => ?_) | refine brVT (fun _ => ?_) (fun _ => ?_) | (with_reducible refine And.intro ?_ ?_) | (refine callK_by (none_obj _ m key n j g) ?_) | (refine callK_by (jkey_spec _ n h0 h1) ?_) | (refine callK_by (hrt _ (by omega)) ?_) | (refine callK_by (hsg _) ?_) | (simp -dsimp -implicitDefEqProofs only [go_sem, ↓reduceIte, Nat.reduceEqDiff, Nat.reduceAdd, Nat.reduceMul, Nat.reduceLeDiff, Nat.reduceLT, Nat.reduceBEq, Nat.reducePow, Int.reduceToNat, Int.reduceLE, Int.reduceLT, Int.reduceNeg, reduceCtorEq, Int.reduceEq, Int.reduceAdd, Int.reduceSub, Int.reduceMul, Nat.reduceSub, hc, refA, x1, x2, y1, y2, z1, z2, lt_nx0 hm, nx_gt0 hm, lt_nx0 hk, nx_gt0 hk, txA_good, txA_csz, txA_agg, nb_tx]))
    all_goals trace_state
def kg (k : Int) : Bool → List AV
  | false => []
  | true => [n64 k]
theorem kg_f (k : Int) : kg k false = [] := rfl
theorem kg_t (k : Int) : kg k true = [n64 k] := rfl
theorem nb_kg {m : Nat} (k : Int) (b : Bool) : AV.nbs m (kg k b) = True := by cases b <;> simp [kg, AV.nbs, AV.nb]
theorem kA_p3 (t : Tx_) : (txA t).parts.getD 3 .undef = .sl 33 (signsA t.signs) 0 := rfl
theorem kA_len (t : Tx_) : (txA t).parts.length = 4 := rfl
theorem kA_off (t : Tx_) : (txA t).partOff 3 = 39 := rfl
theorem keysT_spec (nx : Nat) (t : Tx_) (k : Int) (hb : (bodyL true t).length < 2 ^ 38) (hk : ∀ o ∈ t.outs, ∀ w ∈ o.ways, w.keys.length < 2 ^ 32) :
    FnSpec Try.prog 30 nx [txA (signedT t k)] [] (.sl 1 [n64 k] (nx + 51)) [(nx + 49, some (.tail 1))] 600 := by
  have hs := fun nc => txSum_spec nc (signedT t k) hb hk
  have e : txS (signedT t k) = txS t := rfl
  rw [e] at hs
  have hg : signsA (signedT t k).signs = [signA ⟨k, txS t⟩] := rfl
  refine FnSpec.of_code (cx := cx) (an := {tk := [(4, [([], 1)])]}) (rs := [.tmp 2]) mo Try.func30 rfl rfl (by kernel_rfl) (by kernel_rfl) (by show 1 ≤ _; decide) (.inl rfl) (by simp [allWr, keys, Res.wr]) ?_
  repeat' (first | omega | assumption | (show AL.ahead _ _ _ = true; rfl) | refine brF (fun _ => ?_) (fun _ => ?_) | refine brT (fun _ => ?_) (fun _ => ?_) | refine brVF (fun _ => ?_) (fun _ => ?_) | refine brVT (fun _ => ?_) (fun _ => ?_) | (with_reducible refine And.intro ?_ ?_) | (refine callK_by (hs _) ?_) | (simp -dsimp -implicitDefEqProofs only [go_sem, ↓reduceIte, Nat.reduceEqDiff, Nat.reduceAdd, Nat.reduceMul, Nat.reduceLeDiff, Nat.reduceLT, Nat.reduceBEq, Nat.reducePow, Int.reduceToNat, Int.reduceLE, Int.reduceLT, Int.reduceNeg, reduceCtorEq, Int.reduceEq, Int.reduceAdd, Int.reduceSub, Int.reduceMul, Nat.reduceSub, txA_good, txA_csz, txA_agg, nb_tx, kA_p3, kA_len, kA_off, hg]))
  apply loop_keep [3, 10, 11] (fun b : Bool => [(4, .sl 1 (kg k b) (nx + 51)), (12, n64 (sn b))]) (fun b => [(nx + 49, some (.tail (sk b))), (nx + 32, some (.obj (sumA (txS t))))]) (fun b => 1 - sk b) false
  · simp -dsimp -implicitDefEqProofs only [go_sem, ↓reduceIte, Nat.reduceEqDiff, Nat.reduceAdd, Nat.reduceMul, Nat.reduceLeDiff, Nat.reduceLT, Nat.reduceBEq, Nat.reducePow, Int.reduceToNat, Int.reduceLE, Int.reduceLT, Int.reduceNeg, reduceCtorEq, Int.reduceEq, Int.reduceAdd, Int.reduceSub, Int.reduceMul, Nat.reduceSub]; rfl
  · simp -dsimp -implicitDefEqProofs only [go_sem, ↓reduceIte, Nat.reduceEqDiff, Nat.reduceAdd, Nat.reduceMul, Nat.reduceLeDiff, Nat.reduceLT, Nat.reduceBEq, Nat.reducePow, Int.reduceToNat, Int.reduceLE, Int.reduceLT, Int.reduceNeg, reduceCtorEq, Int.reduceEq, Int.reduceAdd, Int.reduceSub, Int.reduceMul, Nat.reduceSub, kg_f, sn_f]; try rfl
  · simp -dsimp -implicitDefEqProofs only [go_sem, ↓reduceIte, Nat.reduceEqDiff, Nat.reduceAdd, Nat.reduceMul, Nat.reduceLeDiff, Nat.reduceLT, Nat.reduceBEq, Nat.reducePow, Int.reduceToNat, Int.reduceLE, Int.reduceLT, Int.reduceNeg, reduceCtorEq, Int.reduceEq, Int.reduceAdd, Int.reduceSub, Int.reduceMul, Nat.reduceSub, sk_f]; try rfl
  · intro s
    simp -dsimp -implicitDefEqProofs only [go_sem, ↓reduceIte, Nat.reduceEqDiff, Nat.reduceAdd, Nat.reduceMul, Nat.reduceLeDiff, Nat.reduceLT, Nat.reduceBEq, Nat.reducePow, Int.reduceToNat, Int.reduceLE, Int.reduceLT, Int.reduceNeg, reduceCtorEq, Int.reduceEq, Int.reduceAdd, Int.reduceSub, Int.reduceMul, Nat.reduceSub, nb_kg, signA]
    try omega
  · rintro (_ | _)
    · repeat' (first | omega | assumption | (show AL.ahead _ _ _ = true; rfl) | refine brF (fun _ => ?_) (fun _ => ?_) | refine brT (fun _ => ?_) (fun _ => ?_) | refine brVF (fun _ => ?_) (fun _ => ?_) | refine brVT (fun _ => ?_) (fun _ => ?_) | (with_reducible refine And.intro ?_ ?_) | (simp -dsimp -implicitDefEqProofs only [go_sem, ↓reduceIte, Nat.reduceEqDiff, Nat.reduceAdd, Nat.reduceMul, Nat.reduceLeDiff, Nat.reduceLT, Nat.reduceBEq, Nat.reducePow, Int.reduceToNat, Int.reduceLE, Int.reduceLT, Int.reduceNeg, reduceCtorEq, Int.reduceEq, Int.reduceAdd, Int.reduceSub, Int.reduceMul, Nat.reduceSub, kg_f, sn_f, sk_f, w1_64, signA, ↓cmp_sum, isSumT, decide_eq_true_eq, Bool.and_self, eqB_self, List.append_eq, List.cons_append, List.nil_append]))
      exact ⟨true, by decide, ⟨rfl, rfl⟩, rfl⟩
    · repeat' (first | omega | assumption | (show AL.ahead _ _ _ = true; rfl) | refine brF (fun _ => ?_) (fun _ => ?_) | refine brT (fun _ => ?_) (fun _ => ?_) | refine brVF (fun _ => ?_) (fun _ => ?_) | refine brVT (fun _ => ?_) (fun _ => ?_) | (with_reducible refine And.intro ?_ ?_) | (simp -dsimp -implicitDefEqProofs only [go_sem, ↓reduceIte, Nat.reduceEqDiff, Nat.reduceAdd, Nat.reduceMul, Nat.reduceLeDiff, Nat.reduceLT, Nat.reduceBEq, Nat.reducePow, Int.reduceToNat, Int.reduceLE, Int.reduceLT, Int.reduceNeg, reduceCtorEq, Int.reduceEq, Int.reduceAdd, Int.reduceSub, Int.reduceMul, Nat.reduceSub, kg_t, sn_t, sk_t, w1_64, signA, List.append_eq, List.cons_append, List.nil_append]))
      all_goals trace_state
theorem keys1_spec (nx : Nat) (t : Tx_) (k : Int) (hb : (bodyL true t).length < 2 ^ 38) (hk : ∀ o ∈ t.outs, ∀ w ∈ o.ways, w.keys.length < 2 ^ 32) :
    FnSpec Try.prog 30 nx [txA (signedT t k)] [] (.sl 1 [n64 k] 0) [] 0 :=
  (keysT_spec nx t k hb hk).forget0 ⟨rfl, .inr ⟨.inl rfl, .inl rfl⟩⟩ (by simp [AV.nb, AV.nbs]) (by simp [keys])
theorem alikeA_spec (nx : Nat) (t : Tx_) (k : Int) (hb : (bodyL true t).length < 2 ^ 38) (hk : ∀ o ∈ t.outs, ∀ w ∈ o.ways, w.keys.length < 2 ^ 32) :
    FnSpec Try.prog 10 nx [txA (signedT t k), txA t, n64 k] [] (bA true) [] 0 := by
  have hs := fun nc => txSum_spec nc (signedT t k) hb hk
  have e : txS (signedT t k) = txS t := rfl
  rw [e] at hs
  have hs2 := fun nc => txSum_spec nc t hb hk
  have hg : signsA (signedT t k).signs = [signA ⟨k, txS t⟩] := rfl
  refine FnSpec.of_code (cx := cx) (an := {}) (rs := [.tmp 6]) mo Try.func10 rfl rfl (by kernel_rfl) (by kernel_rfl) (by show 3 ≤ _; decide) (.inl rfl) (by simp [allWr, keys, Res.wr]) ?_
  repeat' (first | omega | assumption | (show AL.ahead _ _ _ = true; rfl) | refine brF (fun _ => ?_) (fun _ => ?_) | refine brT (fun _ => ?_) (fun _ => ?_) | refine brVF (fun _ => ?_) (fun _ => ?_) | refine brVT (fun _ => ?_) (fun _ => ?_) | (with_reducible refine And.intro ?_ ?_) | (refine callK_by (hs _) ?_) | (refine callK_by (hs2 _) ?_) | (refine callK_by (keys1_spec _ t k hb hk) ?_) | (simp -dsimp -implicitDefEqProofs only [go_sem, ↓reduceIte, Nat.reduceEqDiff, Nat.reduceAdd, Nat.reduceMul, Nat.reduceLeDiff, Nat.reduceLT, Nat.reduceBEq, Nat.reducePow, Int.reduceToNat, Int.reduceLE, Int.reduceLT, Int.reduceNeg, reduceCtorEq, Int.reduceEq, Int.reduceAdd, Int.reduceSub, Int.reduceMul, Nat.reduceSub, txA_good, txA_csz, txA_agg, nb_tx, kA_p3, kA_len, kA_off, hg, ↓cmp_sum, isSumT, decide_eq_true_eq, Bool.and_self, eqB_self]))
  all_goals trace_state
theorem alike_op (nx td : Nat) (t : Tx_) (k : Int) (hi : t.ins = []) (hs : t.signs = []) (hb : (bodyL true t).length < 2 ^ 38) (hk : ∀ o ∈ t.outs, ∀ w ∈ o.ways, w.keys.length < 2 ^ 32) :
    FnSpec Try.prog 10 nx [txA (signedT t k), .agg 40 [.sl 35 [] 1, .sl 2 (outsA t.outs) 1, .agg 37 [n64 t.op.kind, n64 t.op.tower, n64 t.op.channel, n64 t.op.amount, sumA t.op.root, .sl 1 (u8s t.op.data) td], .sl 33 [] 1], n64 k] [] (bA true) [] 0 := by
  refine (alikeA_spec nx t k hb hk).le ?_
  refine ⟨_, _, rfl, AV.le_refl _, _, _, rfl, ⟨_, rfl, _, _, rfl, ⟨_, _, rfl, ?_, .inr (.inl rfl)⟩, _, _, rfl, ⟨_, _, rfl, AV.les_refl _, .inr (.inl rfl)⟩, _, _, rfl, ⟨_, rfl, ?_⟩, _, _, rfl, ⟨_, _, rfl, ?_, .inr (.inl rfl)⟩, rfl⟩, AV.les_refl _⟩
  · rw [hi]; exact AV.les_refl _
  · exact ⟨_, _, rfl, AV.le_refl _, _, _, rfl, AV.le_refl _, _, _, rfl, AV.le_refl _, _, _, rfl, AV.le_refl _, _, _, rfl, AV.le_refl _, _, _, rfl, ⟨_, _, rfl, AV.les_refl _, .inr (.inl rfl)⟩, rfl⟩
  · rw [hs]; exact AV.les_refl _
theorem alike_bond (nx : Nat) (n k a : Int) (r : Ref_) (os : List Out_) (root : Sum) (ho : os = [] ∨ ∃ k a, os = [toO k a]) :
    FnSpec Try.prog 10 nx [txA (signedT (bondT n r os a root) k), .agg 40 [.sl 35 [.agg 35 [refA r, n64 0, .sl 1 [] 1]] 1, .sl 2 (outsA os) 1, .agg 37 [n64 1, n64 n, n64 0, n64 a, sumA root, .sl 1 [] 1], .sl 33 [] 1], n64 k] [] (bA true) [] 0 := by
  refine (alikeA_spec nx (bondT n r os a root) k (Nat.lt_trans (op_len _ (by simp) _ ho _ (.inr ⟨_, rfl⟩) _) (by decide)) (os_keys ho)).le ?_
  refine ⟨_, _, rfl, AV.le_refl _, _, _, rfl, ⟨_, rfl, _, _, rfl, ⟨_, _, rfl, ?_, .inr (.inl rfl)⟩, _, _, rfl, ⟨_, _, rfl, AV.les_refl _, .inr (.inl rfl)⟩, _, _, rfl, ⟨_, rfl, ?_⟩, _, _, rfl, ⟨_, _, rfl, AV.les_refl _, .inr (.inl rfl)⟩, rfl⟩, AV.les_refl _⟩
  · exact ⟨_, _, rfl, ⟨_, rfl, _, _, rfl, AV.le_refl _, _, _, rfl, AV.le_refl _, _, _, rfl, ⟨_, _, rfl, AV.les_refl _, .inr (.inl rfl)⟩, rfl⟩, rfl⟩
  · exact ⟨_, _, rfl, AV.le_refl _, _, _, rfl, AV.le_refl _, _, _, rfl, AV.le_refl _, _, _, rfl, AV.le_refl _, _, _, rfl, AV.le_refl _, _, _, rfl, ⟨_, _, rfl, AV.les_refl _, .inr (.inl rfl)⟩, rfl⟩
end Go.Proofs.Ytjcnhgmaabkelaa

/-
  The law TowerOps.
-/
set_option linter.unusedSimpArgs false
set_option linter.unusedVariables false
set_option maxRecDepth 100000
set_option maxHeartbeats 8000000
namespace Go.Proofs.Ytjcnhgmaabkelaa
open Go Go.AL Go.Proofs.Ytjcnhgmaabkelaa.T
attribute [local go_sem] nb_u8s u8s_length nb_sum sumA List.length_replicate zero_sum sum_h nb_vals vals_len u8s_nil sums_len nb_sums towerA nb_outs outs_len nb_signs signs_len nb_ins ins_len
noncomputable def leaf0 : Sum := pubS (seedS zeroS 0)
theorem tnew1_spec (nx : Nat) (n : Int) (h0 : 0 ≤ n) (h16 : n < 16) : FnSpec Try.prog 5 nx [n64 n, sumA zeroS, n64 1] [] (.tup [.ref (nx + 276) 0 [], n64 0])
      [(nx + 276, some (.obj (towerA n (nx + 224) (.sl 35 [] (nx + 271)) (.sl 68 [] (nx + 272))))), (nx + 224, some (.obj (keyA zeroS [leaf0] (nx + 219) 0))), (nx + 217, some (.tail 1)), (nx + 269, some (.tail 0)), (nx + 270, some (.tail 0))] 310 :=
  towerNew_spec nx n zeroS 1 h0 h16 (by decide) (by decide)
theorem tops_spec (nx : Nat) (n has a height : Int) (r : Ref_) (c : Chan) : FnSpec Try.prog 3 nx [n64 n, refA r, n64 has, n64 a, chanA c, n64 height] [] (bA true) [] 0 := by
  by_cases hn : n < 0 ∨ 16 ≤ n
  · have hb := fun nc => towerNew_bad nc n zeroS 1 hn
    refine FnSpec.of_code (cx := cx) (an := {}) (rs := [.tmp 12]) mo Try.func3 rfl rfl (by kernel_rfl) (by kernel_rfl) (by show 6 ≤ _; decide) (.inl rfl) (by simp [allWr, keys, Res.wr]) ?_
    repeat' (first | omega | assumption | (show AL.ahead _ _ _ = true; rfl) | refine brF (fun _ => ?_) (fun _ => ?_) | refine brT (fun _ => ?_) (fun _ => ?_) | refine brVF (fun _ => ?_) (fun _ => ?_) | refine brVT (fun _ => ?_) (fun _ => ?_) | (with_reducible refine And.intro ?_ ?_) | (refine callK_by (hb _) ?_) | (refine callK_by (tawake_spec _) ?_) | (simp -dsimp -implicitDefEqProofs only [go_sem, ↓reduceIte, Nat.reduceEqDiff, Nat.reduceAdd, Nat.reduceMul, Nat.reduceLeDiff, Nat.reduceLT, Nat.reduceBEq, Nat.reducePow, Int.reduceToNat, Int.reduceLE, Int.reduceLT, Int.reduceNeg, reduceCtorEq, Int.reduceEq, Int.reduceAdd, Int.reduceSub, Int.reduceMul, Nat.reduceSub, refA, chanA]))
    all_goals trace_state
  · have h0 : 0 ≤ n := by omega
    have h1 : n < 16 := by omega
    have w : IntKind.i64.wrap (100 + n) = 100 + n := by rw [IntKind.wrap_i64]; omega
    have hrt := fun nc (h : nx + 400 < nc) => trow_spec nc (nx + 364) (nx + 312) (nx + 307) n (.sl 35 [] (nx + 359)) (.sl 68 [] (nx + 360)) zeroS leaf0 0 (by omega) (by omega) (by omega) (by omega)
    have htask := fun nc (h : nx + 400 < nc) => task_spec nc (nx + 364) (nx + 312) n a height (.sl 35 [] (nx + 359)) (.sl 68 [] (nx + 360)) h0 h1 (by omega)
    have httake := fun nc (h : nx + 400 < nc) => ttake_spec nc (nx + 364) (nx + 312) n a height (.sl 35 [] (nx + 359)) (.sl 68 [] (nx + 360)) h0 h1 (by omega)
    have hthold := fun nc (h : nx + 400 < nc) => thold_spec nc (nx + 364) (nx + 312) n (.sl 35 [] (nx + 359)) (.sl 68 [] (nx + 360)) c h0 h1 (by omega)
    have htbond := fun nc (h : nx + 400 < nc) => tbond_spec nc (nx + 364) (nx + 312) (nx + 307) n has a (.sl 35 [] (nx + 359)) (.sl 68 [] (nx + 360)) r zeroS leaf0 0 h0 h1 (by omega) (by omega) (by omega) (by omega)
    have hcl := chanL_len c
    have hal1 := fun nc => alike_bond nc n (100 + n) a r (bondOs n has a) (leafS leaf0) (bondOs_is n has a)
    have hal2 := fun nc => alike_op nc 0 (holdT n c.id (chanL c)) (100 + n) rfl rfl (Nat.lt_trans (op_len _ (by simp only [holdT]; omega) _ (.inl rfl) _ (.inl rfl) _) (by decide)) (os_keys (.inl rfl))
    have hal3 := fun nc => alike_op nc 1 (askT n a (min (max height 0) 1048576)) (100 + n) rfl rfl (Nat.lt_trans (op_len _ (by simp [askT]) _ (.inl rfl) _ (.inl rfl) _) (by decide)) (os_keys (.inl rfl))
    have hal4 := fun nc => alike_op nc 1 (takeT n a (min (max height 0) 1048576)) (100 + n) rfl rfl (Nat.lt_trans (op_len _ (by simp [takeT]) _ (.inr ⟨_, _, rfl⟩) _ (.inl rfl) _) (by decide)) (os_keys (.inr ⟨_, _, rfl⟩))
    have hh : (height < 0 ∧ min (max height 0) 1048576 = 0) ∨ (1048576 < height ∧ min (max height 0) 1048576 = 1048576) ∨ ((0 ≤ height ∧ height ≤ 1048576) ∧ min (max height 0) 1048576 = height) := by omega
    rcases hh with ⟨c1, hm⟩ | ⟨c1, hm⟩ | ⟨c1, hm⟩ <;> by_cases hc : a < has
    · rw [hm] at htask httake hal3 hal4
      rw [bondOs_y hc] at hal1 htbond
      refine FnSpec.of_code (cx := cx) (an := {}) (rs := [.tmp 12]) mo Try.func3 rfl rfl (by kernel_rfl) (by kernel_rfl) (by show 6 ≤ _; decide) (.inl rfl) (by simp [allWr, keys, Res.wr]) ?_
      repeat' (first | omega | assumption | (show AL.ahead _ _ _ = true; rfl) | refine brF (fun _ => ?_) (fun _ => ?_) | refine brT (fun _ => ?_) (fun _ => ?_) | refine brVF (fun _ => ?_) (fun _ => ?_) | refine brVT (fun _ => ?_) (fun _ => ?_) | (with_reducible refine And.intro ?_ ?_) | (refine callK_by (tnew1_spec _ n h0 h1) ?_) | (refine callK_by (tawake_spec _) ?_) | (refine callK_by (hrt _ (by omega)) ?_) | (refine callK_by (to_spec _ (100 + n) _) ?_) | (refine callK_by (channel_spec _ c) ?_) | (refine callK_by (htbond _ (by omega)) ?_) | (refine callK_by (hal1 _) ?_) | (refine callK_by (hthold _ (by omega)) ?_) | (refine callK_by (hal2 _) ?_) | (refine callK_by (htask _ (by omega)) ?_) | (refine callK_by (hal3 _) ?_) | (refine callK_by (httake _ (by omega)) ?_) | (refine callK_by (hal4 _) ?_) | (simp -dsimp -implicitDefEqProofs only [go_sem, ↓reduceIte, Nat.reduceEqDiff, Nat.reduceAdd, Nat.reduceMul, Nat.reduceLeDiff, Nat.reduceLT, Nat.reduceBEq, Nat.reducePow, Int.reduceToNat, Int.reduceLE, Int.reduceLT, Int.reduceNeg, reduceCtorEq, Int.reduceEq, Int.reduceAdd, Int.reduceSub, Int.reduceMul, Nat.reduceSub, refA, chanA, w, hc, outA, nb_ways, txA_good, txA_csz, txA_agg, nb_tx]))
      all_goals trace_state
    · rw [hm] at htask httake hal3 hal4
      rw [bondOs_n hc] at hal1 htbond
      refine FnSpec.of_code (cx := cx) (an := {}) (rs := [.tmp 12]) mo Try.func3 rfl rfl (by kernel_rfl) (by kernel_rfl) (by show 6 ≤ _; decide) (.inl rfl) (by simp [allWr, keys, Res.wr]) ?_
      repeat' (first | omega | assumption | (show AL.ahead _ _ _ = true; rfl) | refine brF (fun _ => ?_) (fun _ => ?_) | refine brT (fun _ => ?_) (fun _ => ?_) | refine brVF (fun _ => ?_) (fun _ => ?_) | refine brVT (fun _ => ?_) (fun _ => ?_) | (with_reducible refine And.intro ?_ ?_) | (refine callK_by (tnew1_spec _ n h0 h1) ?_) | (refine callK_by (tawake_spec _) ?_) | (refine callK_by (hrt _ (by omega)) ?_) | (refine callK_by (to_spec _ (100 + n) _) ?_) | (refine callK_by (channel_spec _ c) ?_) | (refine callK_by (htbond _ (by omega)) ?_) | (refine callK_by (hal1 _) ?_) | (refine callK_by (hthold _ (by omega)) ?_) | (refine callK_by (hal2 _) ?_) | (refine callK_by (htask _ (by omega)) ?_) | (refine callK_by (hal3 _) ?_) | (refine callK_by (httake _ (by omega)) ?_) | (refine callK_by (hal4 _) ?_) | (simp -dsimp -implicitDefEqProofs only [go_sem, ↓reduceIte, Nat.reduceEqDiff, Nat.reduceAdd, Nat.reduceMul, Nat.reduceLeDiff, Nat.reduceLT, Nat.reduceBEq, Nat.reducePow, Int.reduceToNat, Int.reduceLE, Int.reduceLT, Int.reduceNeg, reduceCtorEq, Int.reduceEq, Int.reduceAdd, Int.reduceSub, Int.reduceMul, Nat.reduceSub, refA, chanA, w, hc, outA, nb_ways, txA_good, txA_csz, txA_agg, nb_tx]))
      all_goals trace_state
    · rw [hm] at htask httake hal3 hal4
      rw [bondOs_y hc] at hal1 htbond
      refine FnSpec.of_code (cx := cx) (an := {}) (rs := [.tmp 12]) mo Try.func3 rfl rfl (by kernel_rfl) (by kernel_rfl) (by show 6 ≤ _; decide) (.inl rfl) (by simp [allWr, keys, Res.wr]) ?_
      repeat' (first | omega | assumption | (show AL.ahead _ _ _ = true; rfl) | refine brF (fun _ => ?_) (fun _ => ?_) | refine brT (fun _ => ?_) (fun _ => ?_) | refine brVF (fun _ => ?_) (fun _ => ?_) | refine brVT (fun _ => ?_) (fun _ => ?_) | (with_reducible refine And.intro ?_ ?_) | (refine callK_by (tnew1_spec _ n h0 h1) ?_) | (refine callK_by (tawake_spec _) ?_) | (refine callK_by (hrt _ (by omega)) ?_) | (refine callK_by (to_spec _ (100 + n) _) ?_) | (refine callK_by (channel_spec _ c) ?_) | (refine callK_by (htbond _ (by omega)) ?_) | (refine callK_by (hal1 _) ?_) | (refine callK_by (hthold _ (by omega)) ?_) | (refine callK_by (hal2 _) ?_) | (refine callK_by (htask _ (by omega)) ?_) | (refine callK_by (hal3 _) ?_) | (refine callK_by (httake _ (by omega)) ?_) | (refine callK_by (hal4 _) ?_) | (simp -dsimp -implicitDefEqProofs only [go_sem, ↓reduceIte, Nat.reduceEqDiff, Nat.reduceAdd, Nat.reduceMul, Nat.reduceLeDiff, Nat.reduceLT, Nat.reduceBEq, Nat.reducePow, Int.reduceToNat, Int.reduceLE, Int.reduceLT, Int.reduceNeg, reduceCtorEq, Int.reduceEq, Int.reduceAdd, Int.reduceSub, Int.reduceMul, Nat.reduceSub, refA, chanA, w, hc, outA, nb_ways, txA_good, txA_csz, txA_agg, nb_tx]))
      all_goals trace_state
    · rw [hm] at htask httake hal3 hal4
      rw [bondOs_n hc] at hal1 htbond
      refine FnSpec.of_code (cx := cx) (an := {}) (rs := [.tmp 12]) mo Try.func3 rfl rfl (by kernel_rfl) (by kernel_rfl) (by show 6 ≤ _; decide) (.inl rfl) (by simp [allWr, keys, Res.wr]) ?_
      repeat' (first | omega | assumption | (show AL.ahead _ _ _ = true; rfl) | refine brF (fun _ => ?_) (fun _ => ?_) | refine brT (fun _ => ?_) (fun _ => ?_) | refine brVF (fun _ => ?_) (fun _ => ?_) | refine brVT (fun _ => ?_) (fun _ => ?_) | (with_reducible refine And.intro ?_ ?_) | (refine callK_by (tnew1_spec _ n h0 h1) ?_) | (refine callK_by (tawake_spec _) ?_) | (refine callK_by (hrt _ (by omega)) ?_) | (refine callK_by (to_spec _ (100 + n) _) ?_) | (refine callK_by (channel_spec _ c) ?_) | (refine callK_by (htbond _ (by omega)) ?_) | (refine callK_by (hal1 _) ?_) | (refine callK_by (hthold _ (by omega)) ?_) | (refine callK_by (hal2 _) ?_) | (refine callK_by (htask _ (by omega)) ?_) | (refine callK_by (hal3 _) ?_) | (refine callK_by (httake _ (by omega)) ?_) | (refine callK_by (hal4 _) ?_) | (simp -dsimp -implicitDefEqProofs only [go_sem, ↓reduceIte, Nat.reduceEqDiff, Nat.reduceAdd, Nat.reduceMul, Nat.reduceLeDiff, Nat.reduceLT, Nat.reduceBEq, Nat.reducePow, Int.reduceToNat, Int.reduceLE, Int.reduceLT, Int.reduceNeg, reduceCtorEq, Int.reduceEq, Int.reduceAdd, Int.reduceSub, Int.reduceMul, Nat.reduceSub, refA, chanA, w, hc, outA, nb_ways, txA_good, txA_csz, txA_agg, nb_tx]))
      all_goals trace_state
    · rw [hm] at htask httake hal3 hal4
      rw [bondOs_y hc] at hal1 htbond
      refine FnSpec.of_code (cx := cx) (an := {}) (rs := [.tmp 12]) mo Try.func3 rfl rfl (by kernel_rfl) (by kernel_rfl) (by show 6 ≤ _; decide) (.inl rfl) (by simp [allWr, keys, Res.wr]) ?_
      repeat' (first | omega | assumption | (show AL.ahead _ _ _ = true; rfl) | refine brF (fun _ => ?_) (fun _ => ?_) | refine brT (fun _ => ?_) (fun _ => ?_) | refine brVF (fun _ => ?_) (fun _ => ?_) | refine brVT (fun _ => ?_) (fun _ => ?_) | (with_reducible refine And.intro ?_ ?_) | (refine callK_by (tnew1_spec _ n h0 h1) ?_) | (refine callK_by (tawake_spec _) ?_) | (refine callK_by (hrt _ (by omega)) ?_) | (refine callK_by (to_spec _ (100 + n) _) ?_) | (refine callK_by (channel_spec _ c) ?_) | (refine callK_by (htbond _ (by omega)) ?_) | (refine callK_by (hal1 _) ?_) | (refine callK_by (hthold _ (by omega)) ?_) | (refine callK_by (hal2 _) ?_) | (refine callK_by (htask _ (by omega)) ?_) | (refine callK_by (hal3 _) ?_) | (refine callK_by (httake _ (by omega)) ?_) | (refine callK_by (hal4 _) ?_) | (simp -dsimp -implicitDefEqProofs only [go_sem, ↓reduceIte, Nat.reduceEqDiff, Nat.reduceAdd, Nat.reduceMul, Nat.reduceLeDiff, Nat.reduceLT, Nat.reduceBEq, Nat.reducePow, Int.reduceToNat, Int.reduceLE, Int.reduceLT, Int.reduceNeg, reduceCtorEq, Int.reduceEq, Int.reduceAdd, Int.reduceSub, Int.reduceMul, Nat.reduceSub, refA, chanA, w, hc, outA, nb_ways, txA_good, txA_csz, txA_agg, nb_tx]))
      all_goals trace_state
    · rw [hm] at htask httake hal3 hal4
      rw [bondOs_n hc] at hal1 htbond
      refine FnSpec.of_code (cx := cx) (an := {}) (rs := [.tmp 12]) mo Try.func3 rfl rfl (by kernel_rfl) (by kernel_rfl) (by show 6 ≤ _; decide) (.inl rfl) (by simp [allWr, keys, Res.wr]) ?_
      repeat' (first | omega | assumption | (show AL.ahead _ _ _ = true; rfl) | refine brF (fun _ => ?_) (fun _ => ?_) | refine brT (fun _ => ?_) (fun _ => ?_) | refine brVF (fun _ => ?_) (fun _ => ?_) | refine brVT (fun _ => ?_) (fun _ => ?_) | (with_reducible refine And.intro ?_ ?_) | (refine callK_by (tnew1_spec _ n h0 h1) ?_) | (refine callK_by (tawake_spec _) ?_) | (refine callK_by (hrt _ (by omega)) ?_) | (refine callK_by (to_spec _ (100 + n) _) ?_) | (refine callK_by (channel_spec _ c) ?_) | (refine callK_by (htbond _ (by omega)) ?_) | (refine callK_by (hal1 _) ?_) | (refine callK_by (hthold _ (by omega)) ?_) | (refine callK_by (hal2 _) ?_) | (refine callK_by (htask _ (by omega)) ?_) | (refine callK_by (hal3 _) ?_) | (refine callK_by (httake _ (by omega)) ?_) | (refine callK_by (hal4 _) ?_) | (simp -dsimp -implicitDefEqProofs only [go_sem, ↓reduceIte, Nat.reduceEqDiff, Nat.reduceAdd, Nat.reduceMul, Nat.reduceLeDiff, Nat.reduceLT, Nat.reduceBEq, Nat.reducePow, Int.reduceToNat, Int.reduceLE, Int.reduceLT, Int.reduceNeg, reduceCtorEq, Int.reduceEq, Int.reduceAdd, Int.reduceSub, Int.reduceMul, Nat.reduceSub, refA, chanA, w, hc, outA, nb_ways, txA_good, txA_csz, txA_agg, nb_tx]))
      all_goals trace_state
end Go.Proofs.Ytjcnhgmaabkelaa

/-
  bartizanlaw31.TowerNobody: for every input it returns true, and the input reads behind the call as it read before. No condition.
-/
set_option linter.unusedSimpArgs false
set_option linter.unusedVariables false
set_option maxRecDepth 100000
set_option maxHeartbeats 1000000
namespace Go.Proofs.Ytjcnhgmaabkelaa
open Go Go.AL Go.Proofs.Ytjcnhgmaabkelaa.T Go.ChangeShapes Go.WideShapes Go.ChangeAt Go.RowKit

theorem Try.own : ownKnob Try.prog.godebug = none := by kernel_rfl
theorem Try.laidOut : laidOutB Try.prog = true := by kernel_rfl
theorem toNat_ofNat' {n : Nat} (h : n < 256) : (UInt8.ofNat n).toNat = n := by
  rw [UInt8.toNat_ofNat']; omega
theorem ty_byte {n : Nat} {a : AV} (h : Ty Try.prog (n + 1) 5 a) : ∃ b, a = u8 b ∧ True := by
  obtain ⟨x, rfl, h1, h2⟩ := h.int_inv Try.underlying5
  have h1' : (0 : Int) ≤ x := h1
  have h2' : x ≤ 255 := h2
  refine ⟨UInt8.ofNat x.toNat, ?_, trivial⟩
  rw [u8, toNat_ofNat' (by omega)]
  congr 2; omega
theorem ty_sum {n : Nat} {a : AV} (h : Ty Try.prog (n + 2) 23 a) : ∃ s, a = sumA s := by
  obtain ⟨L, rfl, hl, k⟩ := h.arr_inv Try.underlying23 (m := 1) (by kernel_rfl)
  obtain ⟨l, rfl, _⟩ := list_inv (f := u8) (p := fun _ => True) (fun x hx => ty_byte (k x hx))
  rw [List.length_map] at hl
  exact ⟨⟨l, hl⟩, rfl⟩
theorem ty_int {n : Nat} {a : AV} (h : Ty Try.prog (n + 1) 3 a) : ∃ x, a = n64 x := by
  obtain ⟨x, rfl, _⟩ := h.int_inv Try.underlying3
  exact ⟨x, rfl⟩
theorem ty_int64 {n : Nat} {a : AV} (h : Ty Try.prog (n + 1) 2 a) : ∃ x, a = n64 x := by
  obtain ⟨x, rfl, _⟩ := h.int_inv Try.underlying2
  exact ⟨x, rfl⟩
theorem ty_ref {n : Nat} {a : AV} (h : Ty Try.prog (n + 3) 25 a) : ∃ r, a = refA r := by
  obtain ⟨L, rfl, k⟩ := h.struct_inv Try.underlying25 (m := 33) (ts := [23, 3]) (by kernel_rfl) rfl
  obtain ⟨a0, _, rfl, h0, k⟩ := k.cons_inv
  obtain ⟨a1, _, rfl, h1, k⟩ := k.cons_inv
  cases k.nil_inv
  obtain ⟨x0, rfl⟩ := ty_sum h0
  obtain ⟨x1, rfl⟩ := ty_int h1
  exact ⟨⟨x0, x1⟩, rfl⟩
theorem ty_chan {n : Nat} {a : AV} (h : Ty Try.prog (n + 4) 27 a) : ∃ c, a = chanA c := by
  obtain ⟨L, rfl, k⟩ := h.struct_inv Try.underlying27 (m := 39) (ts := [3, 3, 3, 25, 2, 3, 3]) (by kernel_rfl) rfl
  obtain ⟨a0, _, rfl, h0, k⟩ := k.cons_inv
  obtain ⟨a1, _, rfl, h1, k⟩ := k.cons_inv
  obtain ⟨a2, _, rfl, h2, k⟩ := k.cons_inv
  obtain ⟨a3, _, rfl, h3, k⟩ := k.cons_inv
  obtain ⟨a4, _, rfl, h4, k⟩ := k.cons_inv
  obtain ⟨a5, _, rfl, h5, k⟩ := k.cons_inv
  obtain ⟨a6, _, rfl, h6, k⟩ := k.cons_inv
  cases k.nil_inv
  obtain ⟨x0, rfl⟩ := ty_int h0
  obtain ⟨x1, rfl⟩ := ty_int h1
  obtain ⟨x2, rfl⟩ := ty_int h2
  obtain ⟨x3, rfl⟩ := ty_ref h3
  obtain ⟨x4, rfl⟩ := ty_int64 h4
  obtain ⟨x5, rfl⟩ := ty_int h5
  obtain ⟨x6, rfl⟩ := ty_int h6
  exact ⟨⟨x0, x1, x2, x3, x4, x5, x6⟩, rfl⟩

end Go.Proofs.Ytjcnhgmaabkelaa

/-
  bartizanlaw31.TowerOps: for every input it returns true, and the input reads behind the call as it read before. No condition.
-/
set_option linter.unusedSimpArgs false
set_option linter.unusedVariables false
set_option maxRecDepth 100000
set_option maxHeartbeats 1000000
namespace Go.Proofs.Ytjcnhgmaabkelaa
open Go Go.AL Go.Proofs.Ytjcnhgmaabkelaa.T Go.ChangeShapes Go.WideShapes Go.ChangeAt Go.RowKit
theorem to_args (xs : List AV) (h : TyF (Ty Try.prog 8) Try.f3.params.toList xs) : FnSpec Try.prog 3 0 xs [] (.val (.bool true)) [] 0 := by
  have hp : Try.f3.params.toList = [3, 25, 2, 2, 27, 3] := rfl
  rw [hp] at h
  obtain ⟨a0, _, rfl, h0, h⟩ := h.cons_inv
  obtain ⟨a1, _, rfl, h1, h⟩ := h.cons_inv
  obtain ⟨a2, _, rfl, h2, h⟩ := h.cons_inv
  obtain ⟨a3, _, rfl, h3, h⟩ := h.cons_inv
  obtain ⟨a4, _, rfl, h4, h⟩ := h.cons_inv
  obtain ⟨a5, _, rfl, h5, h⟩ := h.cons_inv
  cases h.nil_inv
  obtain ⟨x0, rfl⟩ := ty_int h0
  obtain ⟨x1, rfl⟩ := ty_ref h1
  obtain ⟨x2, rfl⟩ := ty_int64 h2
  obtain ⟨x3, rfl⟩ := ty_int64 h3
  obtain ⟨x4, rfl⟩ := ty_chan h4
  obtain ⟨x5, rfl⟩ := ty_int h5
  exact tops_spec 0 x0 x2 x3 x5 x1 x4

theorem to_lifted (os : Os) (started : os.Started) (H : Type) (enc : TypeId × Value → H) :
    ReturnsInHanded {} Try.checked os 3 .any (Rows.towerOpsSpec.pre6 enc Try.prog Try.f3 Rows.towerOpsRow.domain false) (Rows.towerOpsSpec.post enc Try.prog Try.f3 false true false false) := by
  refine returnsInHanded_of_change (C := Try.checked) Try.own started (by kernel_rfl) Try.func3
    (ChangeSpec.witness6 (enc := enc) (C := Try.checked) false ⟨#[], #[.int .i64 0, .agg #[.int .u8 0, .int .u8 0, .int .u8 0, .int .u8 0, .int .u8 0, .int .u8 0, .int .u8 0, .int .u8 0, .int .u8 0, .int .u8 0, .int .u8 0, .int .u8 0, .int .u8 0, .int .u8 0, .int .u8 0, .int .u8 0, .int .u8 0, .int .u8 0, .int .u8 0, .int .u8 0, .int .u8 0, .int .u8 0, .int .u8 0, .int .u8 0, .int .u8 0, .int .u8 0, .int .u8 0, .int .u8 0, .int .u8 0, .int .u8 0, .int .u8 0, .int .u8 0, .int .i64 0], .int .i64 0, .int .i64 0, .agg #[.int .i64 0, .int .i64 0, .int .i64 0, .int .u8 0, .int .u8 0, .int .u8 0, .int .u8 0, .int .u8 0, .int .u8 0, .int .u8 0, .int .u8 0, .int .u8 0, .int .u8 0, .int .u8 0, .int .u8 0, .int .u8 0, .int .u8 0, .int .u8 0, .int .u8 0, .int .u8 0, .int .u8 0, .int .u8 0, .int .u8 0, .int .u8 0, .int .u8 0, .int .u8 0, .int .u8 0, .int .u8 0, .int .u8 0, .int .u8 0, .int .u8 0, .int .u8 0, .int .u8 0, .int .u8 0, .int .u8 0, .int .i64 0, .int .i64 0, .int .i64 0, .int .i64 0], .int .i64 0], []⟩ 8 (by kernel_rfl) (by kernel_rfl) (by kernel_rfl) (by kernel_rfl)) ?_
  intro W base args ds gs before hval0 hW hcnd _
  exact post_of_spec (P := Try.prog) (n := 8) (tb := 4) Try.laidOut rfl (fun ds hl => by
    match ds, hl with
    | [d1, d2, d3, d4, d5, d6], _ => rfl) (by kernel_rfl) (by kernel_rfl) rfl Try.underlying4 to_args W base args ds gs before hval0 hW

theorem to_holds : Rows.TowerOpsSaid :=
  OpenClaim.holds_of_wide 3 Try.f3 rfl rfl rfl rfl rfl rfl rfl ⟨rfl, rfl, rfl, rfl, rfl⟩ rfl rfl rfl rfl rfl (by kernel_rfl) Try.func3 (by kernel_rfl)
    (of_decide_eq_true (by kernel_rfl)) (by unfold Func.isWrapper; first | (rw [if_pos (by decide +kernel)]; kernel_rfl) | (rw [if_neg (by decide +kernel)]; exact ⟨rfl, rfl⟩))
    (fun os started H enc _ => to_lifted os started H enc)
#print axioms to_holds
end Go.Proofs.Ytjcnhgmaabkelaa

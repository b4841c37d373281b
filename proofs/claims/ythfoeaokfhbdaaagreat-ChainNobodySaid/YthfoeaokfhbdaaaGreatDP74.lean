/-
  Is a way open?
-/
import Derived.Test.YthfoeaokfhbdaaaGreatDP69
set_option linter.unusedSimpArgs false
set_option linter.unusedVariables false
set_option maxRecDepth 100000
set_option maxHeartbeats 1000000
namespace Go.Proofs.YthfoeaokfhbdaaaGreat
open Go Go.AL Go.Proofs.YthfoeaokfhbdaaaGreat.T
attribute [local go_sem] nb_u8s u8s_length nb_sum List.length_replicate zero_sum sum_h nb_vals vals_len u8s_nil sumA
abbrev opensP (w : Way_) (ks : List Int) (pre : List UInt8) (h age : Int) : Prop := (∀ k ∈ w.keys, k ∈ ks) ∧ (w.hash = zeroS ∨ joinS 31 [pre] = w.hash) ∧ w.after ≤ h ∧ w.wait ≤ age
noncomputable def opensB (w : Way_) (ks : List Int) (pre : List UInt8) (h age : Int) : Bool := @decide (opensP w ks pre h age) (Classical.propDecidable _)
theorem opensB_t {w : Way_} {ks : List Int} {pre : List UInt8} {h age : Int} (q : opensP w ks pre h age) : opensB w ks pre h age = true := @decide_eq_true _ (Classical.propDecidable _) q
theorem opensB_f {w : Way_} {ks : List Int} {pre : List UInt8} {h age : Int} (q : ¬ opensP w ks pre h age) : opensB w ks pre h age = false := @decide_eq_false _ (Classical.propDecidable _) q
theorem opens_spec (nx tk tp : Nat) (w : Way_) (ks : List Int) (pre : List UInt8) (h age : Int) (hw : w.keys.length < 2 ^ 40) (hl : ks.length < 2 ^ 40) (hp : pre.length < 2 ^ 39) (h1 : tk < 2 ∨ tk - 2 < nx) (h2 : tp < 2 ∨ tp - 2 < nx) :
    FnSpec Tryz.prog 112 nx [wayA w, .agg 4 [.sl 1 (vals .i64 ks) tk, .sl 1 (u8s pre) tp, n64 h, n64 age]] [] (bA (opensB w ks pre h age)) [] 0 := by
  have hcl := w.hash.h
  have hc := fun nc (q : nx ≤ nc) k => contN_spec nc tk ks k hl (by omega)
  have hh := fun nc (q : nx ≤ nc) => lhash_spec nc tp pre hp (by omega)
  refine FnSpec.of_code (cx := cx) (an := {}) (rs := [.tmp 4]) mo Tryz.func112 rfl rfl (by kernel_rfl) (by kernel_rfl) (by show 2 ≤ _; decide) (.inl rfl) (by simp [allWr, keys, Res.wr]) ?_
  repeat' (first | omega | assumption | (show AL.ahead _ _ _ = true; rfl) | refine brF (fun _ => ?_) (fun _ => ?_) | refine brT (fun _ => ?_) (fun _ => ?_) | refine brVF (fun _ => ?_) (fun _ => ?_) | refine brVT (fun _ => ?_) (fun _ => ?_) | (with_reducible refine And.intro ?_ ?_) | (simp -dsimp -implicitDefEqProofs only [go_sem, ↓reduceIte, Nat.reduceEqDiff, Nat.reduceAdd, Nat.reduceMul, Nat.reduceLeDiff, Nat.reduceLT, Nat.reduceBEq, Nat.reducePow, Int.reduceToNat, Int.reduceLE, Int.reduceLT, Int.reduceNeg, reduceCtorEq, Int.reduceEq, Int.reduceAdd, Int.reduceSub, Int.reduceMul, Nat.reduceSub, wayA]))
  apply loop_keep [2, 3, 8, 9] (fun p : { p : Nat // p ≤ w.keys.length ∧ ∀ j (hj : j < w.keys.length), j < p → w.keys[j] ∈ ks } => [(10, n64 p.1)]) (fun _ => []) (fun p => w.keys.length - p.1) ⟨0, Nat.zero_le _, fun _ _ h => absurd h (Nat.not_lt_zero _)⟩
  · simp -dsimp -implicitDefEqProofs only [go_sem, ↓reduceIte, Nat.reduceEqDiff, Nat.reduceAdd, Nat.reduceMul, Nat.reduceLeDiff, Nat.reduceLT, Nat.reduceBEq, Nat.reducePow, Int.reduceToNat, Int.reduceLE, Int.reduceLT, Int.reduceNeg, reduceCtorEq, Int.reduceEq, Int.reduceAdd, Int.reduceSub, Int.reduceMul, Nat.reduceSub]; try rfl
  · simp -dsimp -implicitDefEqProofs only [go_sem, ↓reduceIte, Nat.reduceEqDiff, Nat.reduceAdd, Nat.reduceMul, Nat.reduceLeDiff, Nat.reduceLT, Nat.reduceBEq, Nat.reducePow, Int.reduceToNat, Int.reduceLE, Int.reduceLT, Int.reduceNeg, reduceCtorEq, Int.reduceEq, Int.reduceAdd, Int.reduceSub, Int.reduceMul, Nat.reduceSub]; try rfl
  · simp -dsimp -implicitDefEqProofs only [go_sem, ↓reduceIte, Nat.reduceEqDiff, Nat.reduceAdd, Nat.reduceMul, Nat.reduceLeDiff, Nat.reduceLT, Nat.reduceBEq, Nat.reducePow, Int.reduceToNat, Int.reduceLE, Int.reduceLT, Int.reduceNeg, reduceCtorEq, Int.reduceEq, Int.reduceAdd, Int.reduceSub, Int.reduceMul, Nat.reduceSub]; try rfl
  · intro s
    simp -dsimp -implicitDefEqProofs only [go_sem, ↓reduceIte, Nat.reduceEqDiff, Nat.reduceAdd, Nat.reduceMul, Nat.reduceLeDiff, Nat.reduceLT, Nat.reduceBEq, Nat.reducePow, Int.reduceToNat, Int.reduceLE, Int.reduceLT, Int.reduceNeg, reduceCtorEq, Int.reduceEq, Int.reduceAdd, Int.reduceSub, Int.reduceMul, Nat.reduceSub]
    try omega
  · rintro ⟨i, hi, hall⟩
    have hi : i ≤ w.keys.length := hi
    simp -dsimp -implicitDefEqProofs only [go_sem, ↓reduceIte, Nat.reduceEqDiff, Nat.reduceAdd, Nat.reduceMul, Nat.reduceLeDiff, Nat.reduceLT, Nat.reduceBEq, Nat.reducePow, Int.reduceToNat, Int.reduceLE, Int.reduceLT, Int.reduceNeg, reduceCtorEq, Int.reduceEq, Int.reduceAdd, Int.reduceSub, Int.reduceMul, Nat.reduceSub]
    refine brT (fun hc1 => ?_) (fun hc1 => ?_)
    · have hi2 : i < w.keys.length := by omega
      have q1 := vals_get (k := .i64) hi2
      have hg : w.keys.getD i 0 = w.keys[i] := by rw [List.getD_eq_getElem?_getD, List.getElem?_eq_getElem hi2]; rfl
      rw [hg] at q1
      have w1 : IntKind.i64.wrap ((i : Int) + 1) = ((i + 1 : Nat) : Int) := wrapE (by omega) (by omega)
      by_cases e : w.keys[i] ∈ ks
      · have hc2 := fun nc (q : nx ≤ nc) => hc nc q w.keys[i]
        rw [decide_eq_true e] at hc2
        repeat' (first | omega | assumption | (show AL.ahead _ _ _ = true; rfl) | refine brF (fun _ => ?_) (fun _ => ?_) | refine brT (fun _ => ?_) (fun _ => ?_) | refine brVF (fun _ => ?_) (fun _ => ?_) | refine brVT (fun _ => ?_) (fun _ => ?_) | (with_reducible refine And.intro ?_ ?_) | (refine callK_by (hc2 _ (by omega)) ?_) | (simp -dsimp -implicitDefEqProofs only [go_sem, ↓reduceIte, Nat.reduceEqDiff, Nat.reduceAdd, Nat.reduceMul, Nat.reduceLeDiff, Nat.reduceLT, Nat.reduceBEq, Nat.reducePow, Int.reduceToNat, Int.reduceLE, Int.reduceLT, Int.reduceNeg, reduceCtorEq, Int.reduceEq, Int.reduceAdd, Int.reduceSub, Int.reduceMul, Nat.reduceSub, q1, w1]))
        all_goals first
          | exact ⟨⟨i + 1, hi2, fun j hj hlt => by
                by_cases e2 : j = i
                · subst e2; exact e
                · exact hall j hj (by omega)⟩, by show w.keys.length - (i + 1) < w.keys.length - i; omega, rfl⟩
          | trace_state
      · have hc2 := fun nc (q : nx ≤ nc) => hc nc q w.keys[i]
        rw [decide_eq_false e] at hc2
        repeat' (first | omega | assumption | (show AL.ahead _ _ _ = true; rfl) | refine brF (fun _ => ?_) (fun _ => ?_) | refine brT (fun _ => ?_) (fun _ => ?_) | refine brVF (fun _ => ?_) (fun _ => ?_) | refine brVT (fun _ => ?_) (fun _ => ?_) | (with_reducible refine And.intro ?_ ?_) | (refine callK_by (hc2 _ (by omega)) ?_) | (simp -dsimp -implicitDefEqProofs only [go_sem, ↓reduceIte, Nat.reduceEqDiff, Nat.reduceAdd, Nat.reduceMul, Nat.reduceLeDiff, Nat.reduceLT, Nat.reduceBEq, Nat.reducePow, Int.reduceToNat, Int.reduceLE, Int.reduceLT, Int.reduceNeg, reduceCtorEq, Int.reduceEq, Int.reduceAdd, Int.reduceSub, Int.reduceMul, Nat.reduceSub, q1, w1]))
        all_goals first
          | (rw [opensB_f (fun q => e (q.1 _ (List.getElem_mem hi2)))])
          | trace_state
    · have e : i = w.keys.length := by omega
      subst e
      have hk : ∀ k ∈ w.keys, k ∈ ks := fun k hk => by
        obtain ⟨j, hj, rfl⟩ := List.getElem_of_mem hk
        exact hall j hj hj
      by_cases z1 : w.hash = zeroS
      · have e1 : eqB (AV.vec 1 (u8s w.hash.b)) (AV.vec 1 (u8s zeroS.b)) = true := by rw [z1]; exact eqB_yes rfl
        repeat' (first | omega | assumption | (show AL.ahead _ _ _ = true; rfl) | refine brF (fun _ => ?_) (fun _ => ?_) | refine brT (fun _ => ?_) (fun _ => ?_) | refine brVF (fun _ => ?_) (fun _ => ?_) | refine brVT (fun _ => ?_) (fun _ => ?_) | (with_reducible refine And.intro ?_ ?_) | (refine callK_by (hh _ (by omega)) ?_) | (simp -dsimp -implicitDefEqProofs only [go_sem, ↓reduceIte, Nat.reduceEqDiff, Nat.reduceAdd, Nat.reduceMul, Nat.reduceLeDiff, Nat.reduceLT, Nat.reduceBEq, Nat.reducePow, Int.reduceToNat, Int.reduceLE, Int.reduceLT, Int.reduceNeg, reduceCtorEq, Int.reduceEq, Int.reduceAdd, Int.reduceSub, Int.reduceMul, Nat.reduceSub, wayA, e1, ↓cmp_sum, isSumT, decide_eq_true_eq, Bool.and_self]))
        all_goals first
          | (simp only [bA]; congr 2; unfold opensB; refine (@decide_eq_decide _ _ _ (Classical.propDecidable _)).2 ⟨fun q => ⟨hk, .inl z1, by omega, by omega⟩, fun q => by obtain ⟨_, _, q1, q2⟩ := q; omega⟩)
          | (rw [opensB_f (fun q => by obtain ⟨_, _, q1, q2⟩ := q; omega)])
          | (rw [opensB_t ⟨hk, .inl z1, by omega, by omega⟩])
          | trace_state
      · have e1 : eqB (AV.vec 1 (u8s w.hash.b)) (AV.vec 1 (u8s zeroS.b)) = false := eqB_no (fun q => z1 (sumA_inj _ _ q))
        by_cases z2 : joinS 31 [pre] = w.hash
        · have e2 : eqB (AV.vec 1 (u8s (joinS 31 [pre]).b)) (AV.vec 1 (u8s w.hash.b)) = true := by rw [z2]; exact eqB_yes rfl
          repeat' (first | omega | assumption | (show AL.ahead _ _ _ = true; rfl) | refine brF (fun _ => ?_) (fun _ => ?_) | refine brT (fun _ => ?_) (fun _ => ?_) | refine brVF (fun _ => ?_) (fun _ => ?_) | refine brVT (fun _ => ?_) (fun _ => ?_) | (with_reducible refine And.intro ?_ ?_) | (refine callK_by (hh _ (by omega)) ?_) | (simp -dsimp -implicitDefEqProofs only [go_sem, ↓reduceIte, Nat.reduceEqDiff, Nat.reduceAdd, Nat.reduceMul, Nat.reduceLeDiff, Nat.reduceLT, Nat.reduceBEq, Nat.reducePow, Int.reduceToNat, Int.reduceLE, Int.reduceLT, Int.reduceNeg, reduceCtorEq, Int.reduceEq, Int.reduceAdd, Int.reduceSub, Int.reduceMul, Nat.reduceSub, wayA, e1, e2, ↓cmp_sum, isSumT, decide_eq_true_eq, Bool.and_self]))
          all_goals first
            | (simp only [bA]; congr 2; unfold opensB; refine (@decide_eq_decide _ _ _ (Classical.propDecidable _)).2 ⟨fun q => ⟨hk, .inr z2, by omega, by omega⟩, fun q => by obtain ⟨_, _, q1, q2⟩ := q; omega⟩)
            | (rw [opensB_f (fun q => by obtain ⟨_, _, q1, q2⟩ := q; omega)])
            | (rw [opensB_t ⟨hk, .inr z2, by omega, by omega⟩])
            | trace_state
        · have e2 : eqB (AV.vec 1 (u8s (joinS 31 [pre]).b)) (AV.vec 1 (u8s w.hash.b)) = false := eqB_no (fun q => z2 (sumA_inj _ _ q))
          repeat' (first | omega | assumption | (show AL.ahead _ _ _ = true; rfl) | refine brF (fun _ => ?_) (fun _ => ?_) | refine brT (fun _ => ?_) (fun _ => ?_) | refine brVF (fun _ => ?_) (fun _ => ?_) | refine brVT (fun _ => ?_) (fun _ => ?_) | (with_reducible refine And.intro ?_ ?_) | (refine callK_by (hh _ (by omega)) ?_) | (simp -dsimp -implicitDefEqProofs only [go_sem, ↓reduceIte, Nat.reduceEqDiff, Nat.reduceAdd, Nat.reduceMul, Nat.reduceLeDiff, Nat.reduceLT, Nat.reduceBEq, Nat.reducePow, Int.reduceToNat, Int.reduceLE, Int.reduceLT, Int.reduceNeg, reduceCtorEq, Int.reduceEq, Int.reduceAdd, Int.reduceSub, Int.reduceMul, Nat.reduceSub, wayA, e1, e2, ↓cmp_sum, isSumT, decide_eq_true_eq, Bool.and_self]))
          all_goals first
            | (rw [opensB_f (fun q => by obtain ⟨_, q0, _⟩ := q; exact q0.elim z1 z2)])
            | trace_state
end Go.Proofs.YthfoeaokfhbdaaaGreat

/-
  Ledgers: how much all ins are.
-/
set_option linter.unusedSimpArgs false
set_option linter.unusedVariables false
set_option maxRecDepth 100000
set_option maxHeartbeats 2000000
namespace Go.Proofs.YthfoeaokfhbdaaaGreat
open Go Go.AL Go.Proofs.YthfoeaokfhbdaaaGreat.T
def wayZ : Way_ := ⟨[], zeroS, 0, 0⟩
/-- how much ins are, or why they are not spent -/
noncomputable def insF (ks : List Int) (h : Int) (cs : List (Ref_ × Coin_)) : Int → List In_ → Int × Int
  | s, [] => (s, 0)
  | s, x :: r => match lookM x.ref cs with
    | none => (0, 13)
    | some c => if (c.out.ways.length : Int) ≤ x.way ∨ opensB (c.out.ways.getD x.way.toNat wayZ) ks x.pre h (w64 (h - c.height)) = false then (0, 12)
        else if (addF 0 [s, c.out.amount]).2 = 0 then insF ks h cs (addF 0 [s, c.out.amount]).1 r else (0, (addF 0 [s, c.out.amount]).2)
theorem wayA_good (w : Way_) : (wayA w).good = true := rfl
theorem wayA_agg (w : Way_) : (wayA w).isAgg = true := rfl
theorem wayA_csz (w : Way_) : (wayA w).csize = 35 := rfl
theorem nb_way1 {m : Nat} (w : Way_) : AV.nb m (wayA w) = True := by simp [wayA, AV.nb, AV.nbs, nb_sum, nb_vals]
theorem iA_p0 (t : Tx_) : (txA t).parts.getD 0 .undef = .sl 35 (insA t.ins) 0 := rfl
theorem iA_off0 (t : Tx_) : (txA t).partOff 0 = 0 := rfl
attribute [local go_sem] nb_u8s u8s_length nb_sum List.length_replicate zero_sum sum_h u8s_nil nb_ref refA_good refA_agg refA_csz sum_csz sum_agg sumA_good nbK_ref nbV_coin kk_ref k1_ref ins_len nb_ins nb_coin coinA_good coinA_agg coinA_csz txA_good txA_csz txA_agg nb_tx iA_p0 iA_off0 tA_len nb_vals vals_len ways_len nb_ways wayA_good wayA_agg wayA_csz nb_way1
theorem ins_spec (nx : Nat) (n : LN) (x : LS) (t : Tx_) (h : Int) (hn : n.ok nx) (hb : (bodyL true t).length < 2 ^ 38) (hk : ∀ o ∈ t.outs, ∀ w ∈ o.ways, w.keys.length < 2 ^ 32) (hsl : t.signs.length < 2 ^ 40) (hil : t.ins.length < 2 ^ 40)
    (hin : ∀ y ∈ t.ins, 0 ≤ y.way ∧ y.pre.length < 2 ^ 39) (hC : ∀ p ∈ x.coins, p.2.out.ways.length < 2 ^ 40 ∧ ∀ w ∈ p.2.out.ways, w.keys.length < 2 ^ 40) :
    FnSpec Tryz.prog 57 nx [.ref n.l 0 [], txA t, n64 h] [(n.l, some (.robj (ledA n x))), (n.v, some (.robj (.agg 1 [.map n.vm]))), (n.vm, some (.rmp (coinsE x.coins)))]
      (.tup [n64 (insF (keysF t t.signs) h x.coins 0 t.ins).1, n64 (insF (keysF t t.signs) h x.coins 0 t.ins).2]) [] 0 := by
  have xf := hn.xf
  have yf := hn.nf
  have hlt := hn.lt
  have b1 := hn.ne.2.1.1
  have hkl := keysF_len t t.signs
  obtain ⟨R, hR⟩ : ∃ R, R = insF (keysF t t.signs) h x.coins 0 t.ins := ⟨_, rfl⟩
  rw [← hR]
  generalize hks : keysF t t.signs = ks at *
  have hkeys := fun nc => keysA_spec nc t hb hk hsl
  rw [hks] at hkeys
  refine FnSpec.of_code (cx := cx) (an := {}) (rs := [.tmp 6, .tmp 7]) mo Tryz.func57 rfl rfl (by kernel_rfl) (by kernel_rfl) (by show 3 ≤ _; decide) (.inr ⟨_, rfl, by simp [AV.good]⟩) (by simp [allWr, keys, Res.wr]) ?_
  repeat' (first | omega | assumption | (show AL.ahead _ _ _ = true; rfl) | refine brF (fun _ => ?_) (fun _ => ?_) | refine brT (fun _ => ?_) (fun _ => ?_) | refine brVF (fun _ => ?_) (fun _ => ?_) | refine brVT (fun _ => ?_) (fun _ => ?_) | (with_reducible refine And.intro ?_ ?_) | (refine callK_by (hkeys _) ?_) | (simp -dsimp -implicitDefEqProofs only [go_sem, ↓reduceIte, Nat.reduceEqDiff, Nat.reduceAdd, Nat.reduceMul, Nat.reduceLeDiff, Nat.reduceLT, Nat.reduceBEq, Nat.reducePow, Int.reduceToNat, Int.reduceLE, Int.reduceLT, Int.reduceNeg, reduceCtorEq, Int.reduceEq, Int.reduceAdd, Int.reduceSub, Int.reduceMul, Nat.reduceSub, xf, yf]))
  apply loop_keep [0, 2, 9, 19, 20] (fun p : { p : Nat × Int // p.1 ≤ t.ins.length ∧ insF ks h x.coins p.2 (t.ins.drop p.1) = R } => [(8, n64 p.1.2), (21, n64 p.1.1)]) (fun p => [(n.l, some (.robj (ledA n x))), (n.v, some (.robj (.agg 1 [.map n.vm]))), (n.vm, some (.rmp (coinsE x.coins)))]) (fun p => t.ins.length - p.1.1) ⟨(0, 0), Nat.zero_le _, hR.symm⟩
  · simp -dsimp -implicitDefEqProofs only [go_sem, ↓reduceIte, Nat.reduceEqDiff, Nat.reduceAdd, Nat.reduceMul, Nat.reduceLeDiff, Nat.reduceLT, Nat.reduceBEq, Nat.reducePow, Int.reduceToNat, Int.reduceLE, Int.reduceLT, Int.reduceNeg, reduceCtorEq, Int.reduceEq, Int.reduceAdd, Int.reduceSub, Int.reduceMul, Nat.reduceSub]; try rfl
  · simp -dsimp -implicitDefEqProofs only [go_sem, ↓reduceIte, Nat.reduceEqDiff, Nat.reduceAdd, Nat.reduceMul, Nat.reduceLeDiff, Nat.reduceLT, Nat.reduceBEq, Nat.reducePow, Int.reduceToNat, Int.reduceLE, Int.reduceLT, Int.reduceNeg, reduceCtorEq, Int.reduceEq, Int.reduceAdd, Int.reduceSub, Int.reduceMul, Nat.reduceSub]; try rfl
  · simp -dsimp -implicitDefEqProofs only [go_sem, ↓reduceIte, Nat.reduceEqDiff, Nat.reduceAdd, Nat.reduceMul, Nat.reduceLeDiff, Nat.reduceLT, Nat.reduceBEq, Nat.reducePow, Int.reduceToNat, Int.reduceLE, Int.reduceLT, Int.reduceNeg, reduceCtorEq, Int.reduceEq, Int.reduceAdd, Int.reduceSub, Int.reduceMul, Nat.reduceSub, xf, yf]; try rfl
  · intro s
    simp -dsimp -implicitDefEqProofs only [go_sem, ↓reduceIte, Nat.reduceEqDiff, Nat.reduceAdd, Nat.reduceMul, Nat.reduceLeDiff, Nat.reduceLT, Nat.reduceBEq, Nat.reducePow, Int.reduceToNat, Int.reduceLE, Int.reduceLT, Int.reduceNeg, reduceCtorEq, Int.reduceEq, Int.reduceAdd, Int.reduceSub, Int.reduceMul, Nat.reduceSub, ledA, sums_len, nb_sums]
    try omega
  · rintro ⟨⟨i, s⟩, hi, hall⟩
    have hi : i ≤ t.ins.length := hi
    simp only at hall
    simp -dsimp -implicitDefEqProofs only [go_sem, ↓reduceIte, Nat.reduceEqDiff, Nat.reduceAdd, Nat.reduceMul, Nat.reduceLeDiff, Nat.reduceLT, Nat.reduceBEq, Nat.reducePow, Int.reduceToNat, Int.reduceLE, Int.reduceLT, Int.reduceNeg, reduceCtorEq, Int.reduceEq, Int.reduceAdd, Int.reduceSub, Int.reduceMul, Nat.reduceSub]
    refine brT (fun hc => ?_) (fun hc => ?_)
    · have hi2 : i < t.ins.length := by omega
      have q1 := ins_get hi2
      have hd := List.drop_eq_getElem_cons hi2
      rw [hd] at hall
      obtain ⟨y1, y2⟩ := hin _ (List.getElem_mem hi2)
      generalize t.ins[i] = y at *
      obtain ⟨wn, hwn⟩ : ∃ wn : Nat, y.way = (wn : Int) := ⟨y.way.toNat, by omega⟩
      have w1 : IntKind.i64.wrap ((i : Int) + 1) = ((i + 1 : Nat) : Int) := wrapE (by omega) (by omega)
      have hvg := fun nc (q1 : n.v < nc) (q2 : n.vm < nc) => vget_spec nc n.v n.vm x.coins y.ref q1 q2 b1
      cases hf : lookM y.ref x.coins with
      | none =>
        simp only [hf, optC, Option.isSome_none] at hvg
        simp only [insF, hf] at hall
        repeat' (first | omega | assumption | (show AL.ahead _ _ _ = true; rfl) | refine brF (fun _ => ?_) (fun _ => ?_) | refine brT (fun _ => ?_) (fun _ => ?_) | refine brVF (fun _ => ?_) (fun _ => ?_) | refine brVT (fun _ => ?_) (fun _ => ?_) | (with_reducible refine And.intro ?_ ?_) | (refine callK_by (hvg _ (by omega) (by omega)) ?_) | (simp -dsimp -implicitDefEqProofs only [go_sem, ↓reduceIte, Nat.reduceEqDiff, Nat.reduceAdd, Nat.reduceMul, Nat.reduceLeDiff, Nat.reduceLT, Nat.reduceBEq, Nat.reducePow, Int.reduceToNat, Int.reduceLE, Int.reduceLT, Int.reduceNeg, reduceCtorEq, Int.reduceEq, Int.reduceAdd, Int.reduceSub, Int.reduceMul, Nat.reduceSub, q1, w1, xf, yf, inA, ledA, sums_len, nb_sums]))
        all_goals first | (rw [← hall]; exact ⟨rfl, rfl⟩) | (rw [← hall]) | trace_state
      | some c =>
        simp only [hf, optC, Option.isSome_some] at hvg
        obtain ⟨c1, c2⟩ := hC _ (lookM_mem hf)
        simp only at c1 c2
        simp only [insF, hf] at hall
        by_cases hwl : (c.out.ways.length : Int) ≤ y.way
        · rw [if_pos (.inl hwl)] at hall
          rw [hwn] at hwl
          have hge : (c.out.ways.length ≤ wn) = True := eq_true (by omega)
          repeat' (first | omega | assumption | (show AL.ahead _ _ _ = true; rfl) | refine brF (fun _ => ?_) (fun _ => ?_) | refine brT (fun _ => ?_) (fun _ => ?_) | refine brVF (fun _ => ?_) (fun _ => ?_) | refine brVT (fun _ => ?_) (fun _ => ?_) | (with_reducible refine And.intro ?_ ?_) | (refine callK_by (hvg _ (by omega) (by omega)) ?_) | (simp -dsimp -implicitDefEqProofs only [go_sem, ↓reduceIte, Nat.reduceEqDiff, Nat.reduceAdd, Nat.reduceMul, Nat.reduceLeDiff, Nat.reduceLT, Nat.reduceBEq, Nat.reducePow, Int.reduceToNat, Int.reduceLE, Int.reduceLT, Int.reduceNeg, reduceCtorEq, Int.reduceEq, Int.reduceAdd, Int.reduceSub, Int.reduceMul, Nat.reduceSub, q1, w1, xf, yf, inA, ledA, coinA, outA, hwn, ge_iff_le, hge, sums_len, nb_sums]))
          all_goals first | (rw [← hall]; exact ⟨rfl, rfl⟩) | (rw [← hall]) | trace_state
        · have hwl2 : wn < c.out.ways.length := by omega
          have hge : (c.out.ways.length ≤ wn) = False := eq_false (by omega)
          have q2 := ways_get hwl2
          have q3 : c.out.ways.getD y.way.toNat wayZ = c.out.ways[wn] := by rw [hwn, Int.toNat_natCast, List.getD_eq_getElem?_getD, List.getElem?_eq_getElem hwl2]; rfl
          have hkw := c2 _ (List.getElem_mem hwl2)
          rw [q3] at hall
          generalize c.out.ways[wn] = wy at *
          have hop := fun nc => opens_spec nc 0 0 wy ks y.pre h (w64 (h - c.height)) hkw (by omega) y2 (.inl (by omega)) (.inl (by omega))
          have had := fun nc => add_spec nc [s, c.out.amount] (by simp)
          simp only [vals, List.map_cons, List.map_nil] at had
          rcases Bool.eq_false_or_eq_true (opensB wy ks y.pre h (w64 (h - c.height))) with ho | ho
          · rw [ho] at hop
            rw [if_neg (by rw [ho]; simp; omega)] at hall
            by_cases ha : (addF 0 [s, c.out.amount]).2 = 0
            · rw [if_pos ha] at hall
              rw [ha] at had
              repeat' (first | omega | assumption | (show AL.ahead _ _ _ = true; rfl) | refine brF (fun _ => ?_) (fun _ => ?_) | refine brT (fun _ => ?_) (fun _ => ?_) | refine brVF (fun _ => ?_) (fun _ => ?_) | refine brVT (fun _ => ?_) (fun _ => ?_) | (with_reducible refine And.intro ?_ ?_) | (refine callK_by (hvg _ (by omega) (by omega)) ?_) | (refine callK_by (hop _) ?_) | (refine callK_by (had _) ?_) | (simp -dsimp -implicitDefEqProofs only [go_sem, ↓reduceIte, Nat.reduceEqDiff, Nat.reduceAdd, Nat.reduceMul, Nat.reduceLeDiff, Nat.reduceLT, Nat.reduceBEq, Nat.reducePow, Int.reduceToNat, Int.reduceLE, Int.reduceLT, Int.reduceNeg, reduceCtorEq, Int.reduceEq, Int.reduceAdd, Int.reduceSub, Int.reduceMul, Nat.reduceSub, q1, q2, w1, xf, yf, inA, ledA, coinA, outA, hwn, ge_iff_le, hge, sums_len, nb_sums]))
              all_goals first
                | exact ⟨⟨(i + 1, (addF 0 [s, c.out.amount]).1), hi2, hall⟩, by show t.ins.length - (i + 1) < t.ins.length - i; omega, rfl, rfl⟩
                | trace_state
            · rw [if_neg ha] at hall
              repeat' (first | omega | assumption | (show AL.ahead _ _ _ = true; rfl) | refine brF (fun _ => ?_) (fun _ => ?_) | refine brT (fun _ => ?_) (fun _ => ?_) | refine brVF (fun _ => ?_) (fun _ => ?_) | refine brVT (fun _ => ?_) (fun _ => ?_) | (with_reducible refine And.intro ?_ ?_) | (refine callK_by (hvg _ (by omega) (by omega)) ?_) | (refine callK_by (hop _) ?_) | (refine callK_by (had _) ?_) | (simp -dsimp -implicitDefEqProofs only [go_sem, ↓reduceIte, Nat.reduceEqDiff, Nat.reduceAdd, Nat.reduceMul, Nat.reduceLeDiff, Nat.reduceLT, Nat.reduceBEq, Nat.reducePow, Int.reduceToNat, Int.reduceLE, Int.reduceLT, Int.reduceNeg, reduceCtorEq, Int.reduceEq, Int.reduceAdd, Int.reduceSub, Int.reduceMul, Nat.reduceSub, q1, q2, w1, xf, yf, inA, ledA, coinA, outA, hwn, ge_iff_le, hge, ha, sums_len, nb_sums]))
              all_goals first | (rw [← hall]; exact ⟨rfl, rfl⟩) | (rw [← hall]) | trace_state
          · rw [ho] at hop
            rw [if_pos (.inr ho)] at hall
            repeat' (first | omega | assumption | (show AL.ahead _ _ _ = true; rfl) | refine brF (fun _ => ?_) (fun _ => ?_) | refine brT (fun _ => ?_) (fun _ => ?_) | refine brVF (fun _ => ?_) (fun _ => ?_) | refine brVT (fun _ => ?_) (fun _ => ?_) | (with_reducible refine And.intro ?_ ?_) | (refine callK_by (hvg _ (by omega) (by omega)) ?_) | (refine callK_by (hop _) ?_) | (simp -dsimp -implicitDefEqProofs only [go_sem, ↓reduceIte, Nat.reduceEqDiff, Nat.reduceAdd, Nat.reduceMul, Nat.reduceLeDiff, Nat.reduceLT, Nat.reduceBEq, Nat.reducePow, Int.reduceToNat, Int.reduceLE, Int.reduceLT, Int.reduceNeg, reduceCtorEq, Int.reduceEq, Int.reduceAdd, Int.reduceSub, Int.reduceMul, Nat.reduceSub, q1, q2, w1, xf, yf, inA, ledA, coinA, outA, hwn, ge_iff_le, hge, sums_len, nb_sums]))
            all_goals first | (rw [← hall]; exact ⟨rfl, rfl⟩) | (rw [← hall]) | trace_state
    · have e : i = t.ins.length := by omega
      subst e
      rw [List.drop_length, insF] at hall
      repeat' (first | omega | assumption | (show AL.ahead _ _ _ = true; rfl) | refine brF (fun _ => ?_) (fun _ => ?_) | refine brT (fun _ => ?_) (fun _ => ?_) | refine brVF (fun _ => ?_) (fun _ => ?_) | refine brVT (fun _ => ?_) (fun _ => ?_) | (with_reducible refine And.intro ?_ ?_) | (simp -dsimp -implicitDefEqProofs only [go_sem, ↓reduceIte, Nat.reduceEqDiff, Nat.reduceAdd, Nat.reduceMul, Nat.reduceLeDiff, Nat.reduceLT, Nat.reduceBEq, Nat.reducePow, Int.reduceToNat, Int.reduceLE, Int.reduceLT, Int.reduceNeg, reduceCtorEq, Int.reduceEq, Int.reduceAdd, Int.reduceSub, Int.reduceMul, Nat.reduceSub]))
      all_goals first | (rw [← hall]; exact ⟨rfl, rfl⟩) | (rw [← hall]) | trace_state
end Go.Proofs.YthfoeaokfhbdaaaGreat

/-
  Amounts: what is left; and the op that is none.
-/
set_option linter.unusedSimpArgs false
set_option linter.unusedVariables false
set_option maxRecDepth 100000
set_option maxHeartbeats 2000000
namespace Go.Proofs.YthfoeaokfhbdaaaGreat
open Go Go.AL Go.Proofs.YthfoeaokfhbdaaaGreat.T
attribute [local go_sem] nb_u8s u8s_length nb_sum List.length_replicate zero_sum sum_h nb_vals vals_len u8s_nil txA_good txA_csz txA_agg nb_tx tA_len
theorem addG_spec (nx tok : Nat) (l : List Int) (hl : l.length < 2 ^ 40) (ht : tok < 2 ∨ tok - 2 < nx) : FnSpec Tryz.prog 60 nx [.sl 1 (vals .i64 l) tok] [] (.tup [n64 (addF 0 l).1, n64 (addF 0 l).2]) [] 0 := by
  obtain ⟨R, hR⟩ : ∃ R, R = addF 0 l := ⟨_, rfl⟩
  rw [← hR]
  refine FnSpec.of_code (cx := cx) (an := {}) (rs := [.tmp 2, .tmp 3]) mo Tryz.func60 rfl rfl (by kernel_rfl) (by kernel_rfl) (by show 1 ≤ _; decide) (.inr ⟨_, rfl, by simp [AV.good]⟩) (by simp [allWr, keys, Res.wr]) ?_
  repeat' (first | omega | assumption | (show AL.ahead _ _ _ = true; rfl) | refine brF (fun _ => ?_) (fun _ => ?_) | refine brT (fun _ => ?_) (fun _ => ?_) | refine brVF (fun _ => ?_) (fun _ => ?_) | refine brVT (fun _ => ?_) (fun _ => ?_) | (with_reducible refine And.intro ?_ ?_) | (simp -dsimp -implicitDefEqProofs only [go_sem, ↓reduceIte, Nat.reduceEqDiff, Nat.reduceAdd, Nat.reduceMul, Nat.reduceLeDiff, Nat.reduceLT, Nat.reduceBEq, Nat.reducePow, Int.reduceToNat, Int.reduceLE, Int.reduceLT, Int.reduceNeg, reduceCtorEq, Int.reduceEq, Int.reduceAdd, Int.reduceSub, Int.reduceMul, Nat.reduceSub]))
  apply loop_keep [7, 8] (fun p : { p : Nat × Int // p.1 ≤ l.length ∧ 0 ≤ p.2 ∧ p.2 ≤ 1125899906842624 ∧ addF p.2 (l.drop p.1) = R } => [(4, n64 p.1.2), (9, n64 p.1.1)]) (fun _ => []) (fun p => l.length - p.1.1) ⟨(0, 0), Nat.zero_le _, Int.le_refl _, by decide, by rw [hR]; rfl⟩
  · simp -dsimp -implicitDefEqProofs only [go_sem, ↓reduceIte, Nat.reduceEqDiff, Nat.reduceAdd, Nat.reduceMul, Nat.reduceLeDiff, Nat.reduceLT, Nat.reduceBEq, Nat.reducePow, Int.reduceToNat, Int.reduceLE, Int.reduceLT, Int.reduceNeg, reduceCtorEq, Int.reduceEq, Int.reduceAdd, Int.reduceSub, Int.reduceMul, Nat.reduceSub]; try rfl
  · simp -dsimp -implicitDefEqProofs only [go_sem, ↓reduceIte, Nat.reduceEqDiff, Nat.reduceAdd, Nat.reduceMul, Nat.reduceLeDiff, Nat.reduceLT, Nat.reduceBEq, Nat.reducePow, Int.reduceToNat, Int.reduceLE, Int.reduceLT, Int.reduceNeg, reduceCtorEq, Int.reduceEq, Int.reduceAdd, Int.reduceSub, Int.reduceMul, Nat.reduceSub]; try rfl
  · simp -dsimp -implicitDefEqProofs only [go_sem, ↓reduceIte, Nat.reduceEqDiff, Nat.reduceAdd, Nat.reduceMul, Nat.reduceLeDiff, Nat.reduceLT, Nat.reduceBEq, Nat.reducePow, Int.reduceToNat, Int.reduceLE, Int.reduceLT, Int.reduceNeg, reduceCtorEq, Int.reduceEq, Int.reduceAdd, Int.reduceSub, Int.reduceMul, Nat.reduceSub]; try rfl
  · intro s
    simp -dsimp -implicitDefEqProofs only [go_sem, ↓reduceIte, Nat.reduceEqDiff, Nat.reduceAdd, Nat.reduceMul, Nat.reduceLeDiff, Nat.reduceLT, Nat.reduceBEq, Nat.reducePow, Int.reduceToNat, Int.reduceLE, Int.reduceLT, Int.reduceNeg, reduceCtorEq, Int.reduceEq, Int.reduceAdd, Int.reduceSub, Int.reduceMul, Nat.reduceSub]
    try omega
  · rintro ⟨⟨i, x⟩, hi, hx0, hx1, hall⟩
    have hi : i ≤ l.length := hi
    simp only at hx0 hx1 hall
    simp -dsimp -implicitDefEqProofs only [go_sem, ↓reduceIte, Nat.reduceEqDiff, Nat.reduceAdd, Nat.reduceMul, Nat.reduceLeDiff, Nat.reduceLT, Nat.reduceBEq, Nat.reducePow, Int.reduceToNat, Int.reduceLE, Int.reduceLT, Int.reduceNeg, reduceCtorEq, Int.reduceEq, Int.reduceAdd, Int.reduceSub, Int.reduceMul, Nat.reduceSub]
    refine brT (fun hc => ?_) (fun hc => ?_)
    · have hi2 : i < l.length := by omega
      have q1 := vals_get (k := .i64) hi2
      have hd := List.drop_eq_getElem_cons hi2
      have hg : l.getD i 0 = l[i] := by rw [List.getD_eq_getElem?_getD, List.getElem?_eq_getElem hi2]; rfl
      rw [hd] at hall
      rw [hg] at q1
      generalize l[i] = y at *
      have w1 : IntKind.i64.wrap ((i : Int) + 1) = ((i + 1 : Nat) : Int) := wrapE (by omega) (by omega)
      by_cases hy : 0 ≤ y ∧ y ≤ 1125899906842624
      · have w2 : IntKind.i64.wrap (x + y) = x + y := by rw [IntKind.wrap_i64]; omega
        rw [addF, if_pos hy] at hall
        repeat' (first | omega | assumption | (show AL.ahead _ _ _ = true; rfl) | refine brF (fun _ => ?_) (fun _ => ?_) | refine brT (fun _ => ?_) (fun _ => ?_) | refine brVF (fun _ => ?_) (fun _ => ?_) | refine brVT (fun _ => ?_) (fun _ => ?_) | (with_reducible refine And.intro ?_ ?_) | (refine callK_by (coinRight_spec _ y) ?_) | (simp -dsimp -implicitDefEqProofs only [go_sem, ↓reduceIte, Nat.reduceEqDiff, Nat.reduceAdd, Nat.reduceMul, Nat.reduceLeDiff, Nat.reduceLT, Nat.reduceBEq, Nat.reducePow, Int.reduceToNat, Int.reduceLE, Int.reduceLT, Int.reduceNeg, reduceCtorEq, Int.reduceEq, Int.reduceAdd, Int.reduceSub, Int.reduceMul, Nat.reduceSub, q1, w1, w2, decide_eq_true hy]))
        · rename_i hx
          rw [if_pos hx] at hall
          rw [← hall]
        · rename_i hx
          rw [if_neg hx] at hall
          exact ⟨⟨(i + 1, x + y), hi2, by show 0 ≤ x + y; omega, by show x + y ≤ _; omega, hall⟩, by show l.length - (i + 1) < l.length - i; omega, ⟨rfl, rfl⟩⟩
      · rw [addF, if_neg hy] at hall
        repeat' (first | omega | assumption | (show AL.ahead _ _ _ = true; rfl) | refine brF (fun _ => ?_) (fun _ => ?_) | refine brT (fun _ => ?_) (fun _ => ?_) | refine brVF (fun _ => ?_) (fun _ => ?_) | refine brVT (fun _ => ?_) (fun _ => ?_) | (with_reducible refine And.intro ?_ ?_) | (refine callK_by (coinRight_spec _ y) ?_) | (simp -dsimp -implicitDefEqProofs only [go_sem, ↓reduceIte, Nat.reduceEqDiff, Nat.reduceAdd, Nat.reduceMul, Nat.reduceLeDiff, Nat.reduceLT, Nat.reduceBEq, Nat.reducePow, Int.reduceToNat, Int.reduceLE, Int.reduceLT, Int.reduceNeg, reduceCtorEq, Int.reduceEq, Int.reduceAdd, Int.reduceSub, Int.reduceMul, Nat.reduceSub, q1, w1, decide_eq_false hy]))
        rw [← hall]
    · have e : i = l.length := by omega
      subst e
      rw [List.drop_length, addF] at hall
      repeat' (first | omega | assumption | (show AL.ahead _ _ _ = true; rfl) | refine brF (fun _ => ?_) (fun _ => ?_) | refine brT (fun _ => ?_) (fun _ => ?_) | refine brVF (fun _ => ?_) (fun _ => ?_) | refine brVT (fun _ => ?_) (fun _ => ?_) | (with_reducible refine And.intro ?_ ?_) | (simp -dsimp -implicitDefEqProofs only [go_sem, ↓reduceIte, Nat.reduceEqDiff, Nat.reduceAdd, Nat.reduceMul, Nat.reduceLeDiff, Nat.reduceLT, Nat.reduceBEq, Nat.reducePow, Int.reduceToNat, Int.reduceLE, Int.reduceLT, Int.reduceNeg, reduceCtorEq, Int.reduceEq, Int.reduceAdd, Int.reduceSub, Int.reduceMul, Nat.reduceSub]))
      rw [← hall]
def subF (a : Int) (l : List Int) : Int × Int :=
  if ¬ (0 ≤ a ∧ a ≤ 1125899906842624) then (0, 5) else if (addF 0 l).2 ≠ 0 then (0, (addF 0 l).2) else if a < (addF 0 l).1 then (0, 14) else (w64 (a - (addF 0 l).1), 0)
theorem sub_spec (nx tok : Nat) (a : Int) (l : List Int) (hl : l.length < 2 ^ 40) (ht : tok < 2 ∨ tok - 2 < nx) : FnSpec Tryz.prog 61 nx [n64 a, .sl 1 (vals .i64 l) tok] [] (.tup [n64 (subF a l).1, n64 (subF a l).2]) [] 0 := by
  have had := fun nc (q : nx ≤ nc) => addG_spec nc tok l hl (by omega)
  have hcr := fun nc => coinRight_spec nc a
  by_cases h1 : 0 ≤ a ∧ a ≤ 1125899906842624
  · rw [decide_eq_true h1] at hcr
    by_cases h2 : (addF 0 l).2 = 0
    · rw [h2] at had
      by_cases h3 : a < (addF 0 l).1
      · have e : subF a l = (0, 14) := by unfold subF; rw [if_neg (fun q => q h1), if_neg (fun q => q h2), if_pos h3]
        rw [e]
        have e2 := eq_true h3
        refine FnSpec.of_code (cx := cx) (an := {}) (rs := [.tmp 4, .tmp 5]) mo Tryz.func61 rfl rfl (by kernel_rfl) (by kernel_rfl) (by show 2 ≤ _; decide) (.inr ⟨_, rfl, by simp [AV.good]⟩) (by simp [allWr, keys, Res.wr]) ?_
        repeat' (first | omega | assumption | (show AL.ahead _ _ _ = true; rfl) | refine brF (fun _ => ?_) (fun _ => ?_) | refine brT (fun _ => ?_) (fun _ => ?_) | refine brVF (fun _ => ?_) (fun _ => ?_) | refine brVT (fun _ => ?_) (fun _ => ?_) | (with_reducible refine And.intro ?_ ?_) | (refine callK_by (had _ (by omega)) ?_) | (refine callK_by (hcr _) ?_) | (simp -dsimp -implicitDefEqProofs only [go_sem, ↓reduceIte, Nat.reduceEqDiff, Nat.reduceAdd, Nat.reduceMul, Nat.reduceLeDiff, Nat.reduceLT, Nat.reduceBEq, Nat.reducePow, Int.reduceToNat, Int.reduceLE, Int.reduceLT, Int.reduceNeg, reduceCtorEq, Int.reduceEq, Int.reduceAdd, Int.reduceSub, Int.reduceMul, Nat.reduceSub, e2, gt_iff_lt]))
        all_goals trace_state
      · have e : subF a l = (w64 (a - (addF 0 l).1), 0) := by unfold subF; rw [if_neg (fun q => q h1), if_neg (fun q => q h2), if_neg h3]
        rw [e]
        have e2 := eq_false h3
        refine FnSpec.of_code (cx := cx) (an := {}) (rs := [.tmp 4, .tmp 5]) mo Tryz.func61 rfl rfl (by kernel_rfl) (by kernel_rfl) (by show 2 ≤ _; decide) (.inr ⟨_, rfl, by simp [AV.good]⟩) (by simp [allWr, keys, Res.wr]) ?_
        repeat' (first | omega | assumption | (show AL.ahead _ _ _ = true; rfl) | refine brF (fun _ => ?_) (fun _ => ?_) | refine brT (fun _ => ?_) (fun _ => ?_) | refine brVF (fun _ => ?_) (fun _ => ?_) | refine brVT (fun _ => ?_) (fun _ => ?_) | (with_reducible refine And.intro ?_ ?_) | (refine callK_by (had _ (by omega)) ?_) | (refine callK_by (hcr _) ?_) | (simp -dsimp -implicitDefEqProofs only [go_sem, ↓reduceIte, Nat.reduceEqDiff, Nat.reduceAdd, Nat.reduceMul, Nat.reduceLeDiff, Nat.reduceLT, Nat.reduceBEq, Nat.reducePow, Int.reduceToNat, Int.reduceLE, Int.reduceLT, Int.reduceNeg, reduceCtorEq, Int.reduceEq, Int.reduceAdd, Int.reduceSub, Int.reduceMul, Nat.reduceSub, e2, gt_iff_lt]))
        all_goals trace_state
    · have e : subF a l = (0, (addF 0 l).2) := by unfold subF; rw [if_neg (fun q => q h1), if_pos h2]
      rw [e]
      have e2 := eq_false h2
      refine FnSpec.of_code (cx := cx) (an := {}) (rs := [.tmp 4, .tmp 5]) mo Tryz.func61 rfl rfl (by kernel_rfl) (by kernel_rfl) (by show 2 ≤ _; decide) (.inr ⟨_, rfl, by simp [AV.good]⟩) (by simp [allWr, keys, Res.wr]) ?_
      repeat' (first | omega | assumption | (show AL.ahead _ _ _ = true; rfl) | refine brF (fun _ => ?_) (fun _ => ?_) | refine brT (fun _ => ?_) (fun _ => ?_) | refine brVF (fun _ => ?_) (fun _ => ?_) | refine brVT (fun _ => ?_) (fun _ => ?_) | (with_reducible refine And.intro ?_ ?_) | (refine callK_by (had _ (by omega)) ?_) | (refine callK_by (hcr _) ?_) | (simp -dsimp -implicitDefEqProofs only [go_sem, ↓reduceIte, Nat.reduceEqDiff, Nat.reduceAdd, Nat.reduceMul, Nat.reduceLeDiff, Nat.reduceLT, Nat.reduceBEq, Nat.reducePow, Int.reduceToNat, Int.reduceLE, Int.reduceLT, Int.reduceNeg, reduceCtorEq, Int.reduceEq, Int.reduceAdd, Int.reduceSub, Int.reduceMul, Nat.reduceSub, e2]))
      all_goals trace_state
  · have e : subF a l = (0, 5) := by unfold subF; rw [if_pos h1]
    rw [e]
    rw [decide_eq_false h1] at hcr
    refine FnSpec.of_code (cx := cx) (an := {}) (rs := [.tmp 4, .tmp 5]) mo Tryz.func61 rfl rfl (by kernel_rfl) (by kernel_rfl) (by show 2 ≤ _; decide) (.inr ⟨_, rfl, by simp [AV.good]⟩) (by simp [allWr, keys, Res.wr]) ?_
    repeat' (first | omega | assumption | (show AL.ahead _ _ _ = true; rfl) | refine brF (fun _ => ?_) (fun _ => ?_) | refine brT (fun _ => ?_) (fun _ => ?_) | refine brVF (fun _ => ?_) (fun _ => ?_) | refine brVT (fun _ => ?_) (fun _ => ?_) | (with_reducible refine And.intro ?_ ?_) | (refine callK_by (had _ (by omega)) ?_) | (refine callK_by (hcr _) ?_) | (simp -dsimp -implicitDefEqProofs only [go_sem, ↓reduceIte, Nat.reduceEqDiff, Nat.reduceAdd, Nat.reduceMul, Nat.reduceLeDiff, Nat.reduceLT, Nat.reduceBEq, Nat.reducePow, Int.reduceToNat, Int.reduceLE, Int.reduceLT, Int.reduceNeg, reduceCtorEq, Int.reduceEq, Int.reduceAdd, Int.reduceSub, Int.reduceMul, Nat.reduceSub]))
    all_goals trace_state
theorem oA_p2 (t : Tx_) : (txA t).parts.getD 2 .undef = opT t.op := rfl
theorem oA_off2 (t : Tx_) : (txA t).partOff 2 = 2 := rfl
/-- no op: nothing goes in, nothing comes out -/
theorem effNone_spec (nx : Nat) (n : LN) (x : LS) (t : Tx_) (h : Int) (b tm hm : Nat) (h0 : t.op.kind = 0) (ht : tm < nx) (hh : hm < nx) (hne : tm ≠ hm) :
    FnSpec Tryz.prog 59 nx [.ref n.l 0 [], .ref b 0 [], txA t, n64 h] [(tm, some (.mp (towsE x.towers))), (hm, some (.mp (holdsE x.holds)))] (.tup [n64 0, n64 0, n64 0]) [(tm, some (.mp (towsE x.towers))), (hm, some (.mp (holdsE x.holds)))] 0 := by
  have x1 := ltF ht
  have x2 := ltF hh
  have x3 := neF hne
  refine FnSpec.of_code (cx := cx) (an := {}) (rs := [.tmp 8, .tmp 9, .tmp 10]) mo Tryz.func59 rfl rfl (by kernel_rfl) (by kernel_rfl) (by show 4 ≤ _; decide) (.inr ⟨_, rfl, by simp [AV.good]⟩) (by simp [allWr, keys, Res.wr]) ?_
  repeat' (first | omega | assumption | (show AL.ahead _ _ _ = true; rfl) | refine brF (fun _ => ?_) (fun _ => ?_) | refine brT (fun _ => ?_) (fun _ => ?_) | refine brVF (fun _ => ?_) (fun _ => ?_) | refine brVT (fun _ => ?_) (fun _ => ?_) | (with_reducible refine And.intro ?_ ?_) | (simp -dsimp -implicitDefEqProofs only [go_sem, ↓reduceIte, Nat.reduceEqDiff, Nat.reduceAdd, Nat.reduceMul, Nat.reduceLeDiff, Nat.reduceLT, Nat.reduceBEq, Nat.reducePow, Int.reduceToNat, Int.reduceLE, Int.reduceLT, Int.reduceNeg, reduceCtorEq, Int.reduceEq, Int.reduceAdd, Int.reduceSub, Int.reduceMul, Nat.reduceSub, oA_p2, oA_off2, opT, h0, x1, x2, x3, nbK_int, nbK_pair, nbV_tow, nbV_hold]))
  all_goals trace_state
end Go.Proofs.YthfoeaokfhbdaaaGreat

/-
  Maps that are copied entry by entry; a view that is cloned.
-/
import Derived.Test.YthfoeaokfhbdaaaGreatDP78
set_option linter.unusedSimpArgs false
set_option linter.unusedVariables false
set_option maxRecDepth 100000
set_option maxHeartbeats 2000000
namespace Go.Proofs.YthfoeaokfhbdaaaGreat
open Go Go.AL Go.Proofs.YthfoeaokfhbdaaaGreat.T
theorem setM_new {K V : Type} {k : K} {v : V} : ∀ {l : List (K × V)}, lookM k l = none → setM k v l = l ++ [(k, v)]
  | [], _ => rfl
  | (a, u) :: r, h => by
    by_cases q : k = a
    · subst q; simp [lookM] at h
    · simp only [lookM, if_neg q] at h
      simp only [setM, if_neg q, setM_new h, List.cons_append]
section
variable {K V : Type} {kA : K → AV} {vA : V → AV}
/-- what a walk has copied -/
def grewL (l' : List (K × V)) (d : K × V) (se : List Nat) : List (K × V) := se.reverse.map fun j => l'.getD j d
theorem grew_cons (hk : InjA kA) (l' : List (K × V)) (d : K × V) (hn : NodK l') (se : List Nat) (hse : ∀ j ∈ se, j < l'.length) (i : Nat) (hi : i < l'.length) (hni : i ∉ se) :
    setA (kA (l'.getD i d).1) (vA (l'.getD i d).2) (encM kA vA (grewL l' d se)) = encM kA vA (grewL l' d (i :: se)) := by
  rw [setA_enc hk]
  congr 1
  have e : grewL l' d (i :: se) = grewL l' d se ++ [((l'.getD i d).1, (l'.getD i d).2)] := by simp [grewL]
  rw [e, setM_new]
  rw [lookM_none]
  intro hm
  obtain ⟨p, hp, hpe⟩ := List.mem_map.1 hm
  simp only [grewL, List.mem_map, List.mem_reverse] at hp
  obtain ⟨j, hj, rfl⟩ := hp
  have hjl := hse j hj
  have e1 : l'.getD j d = l'[j] := by rw [List.getD_eq_getElem?_getD, List.getElem?_eq_getElem hjl]; rfl
  have e2 : l'.getD i d = l'[i] := by rw [List.getD_eq_getElem?_getD, List.getElem?_eq_getElem hi]; rfl
  rw [e1, e2] at hpe
  have h3 : (l'.map (·.1))[j]'(by simpa using hjl) = (l'.map (·.1))[i]'(by simpa using hi) := by simpa using hpe
  have h4 := (List.getElem_inj hn).1 h3
  exact hni (h4 ▸ hj)
theorem grew_all (l l' : List (K × V)) (d : K × V) (hp : l'.Perm l) (se : List Nat) (h1 : se.Nodup) (h2 : ∀ i ∈ se, i < l'.length) (h3 : ∀ i, i < l'.length → i ∈ se) : (encM kA vA (grewL l' d se)).Perm (encM kA vA l) := by
  refine List.Perm.map _ (.trans ?_ hp)
  have q : (grewL l' d se).Perm ((List.range l'.length).map fun j => l'.getD j d) := ((List.reverse_perm se).trans (seen_perm h1 h2 h3)).map _
  refine q.trans (.of_eq ?_)
  refine List.ext_getElem (by simp) fun i a b => ?_
  simp only [List.getElem_map, List.getElem_range]
  rw [List.getD_eq_getElem?_getD, List.getElem?_eq_getElem b]; rfl
/-- the keys of a map that is pinned differ -/
theorem pin_nod {l l' : List (K × V)} (hp : l'.Perm l) (hn : ((l.map (fun p => (kA p.1, vA p.2))).map (·.1)).Nodup) : NodK l' := by
  have h1 : (l.map (·.1)).Nodup := by
    have e : (l.map (fun p => (kA p.1, vA p.2))).map (·.1) = (l.map (·.1)).map kA := by simp
    rw [e] at hn
    exact List.Pairwise.of_map kA (fun a b h e => h (congrArg kA e)) hn
  exact (hp.map (·.1)).nodup_iff.2 h1
end
attribute [local go_sem] nb_u8s u8s_length nb_sum List.length_replicate zero_sum sum_h u8s_nil nb_ref nb_out1 nb_coin refA_good refA_agg refA_csz outA_good outA_agg outA_csz coinA_good coinA_agg coinA_csz nbK_ref nbV_coin kk_ref k1_ref o_some o_none enc_len
theorem vclone_spec (nx v vm : Nat) (l : List (Ref_ × Coin_)) (hv : v < nx) (hm : vm < nx) (hne : v ≠ vm) :
    FnSpec Tryz.prog 67 nx [.ref v 0 []] (viewR v vm l) (.ref (nx + 64) 0 []) (viewH (nx + 64) (nx + 48) l) 400 := by
  have x1 := ltF hv
  have x2 := ltF hm
  have x3 := neF hne
  refine FnSpec.of_code (cx := cx) (an := {vw := [4, 8], nxt := [5]}) (rs := [.tmp 2]) mo Tryz.func67 rfl rfl (by kernel_rfl) (by kernel_rfl) (by show 1 ≤ _; decide) (.inl rfl) (by simp [allWr, keys, Res.wr]) ?_
  repeat' (first | omega | assumption | (show AL.ahead _ _ _ = true; rfl) | refine brF (fun _ => ?_) (fun _ => ?_) | refine brT (fun _ => ?_) (fun _ => ?_) | refine brVF (fun _ => ?_) (fun _ => ?_) | refine brVT (fun _ => ?_) (fun _ => ?_) | (with_reducible refine And.intro ?_ ?_) | (refine callK_by (vnone_spec _ v vm (by omega)) ?_) | (refine callK_by (newv_spec _) ?_) | (simp -dsimp -implicitDefEqProofs only [go_sem, ↓reduceIte, Nat.reduceEqDiff, Nat.reduceAdd, Nat.reduceMul, Nat.reduceLeDiff, Nat.reduceLT, Nat.reduceBEq, Nat.reducePow, Int.reduceToNat, Int.reduceLE, Int.reduceLT, Int.reduceNeg, reduceCtorEq, Int.reduceEq, Int.reduceAdd, Int.reduceSub, Int.reduceMul, Nat.reduceSub, x1, x2, x3]))
  refine view_pin vm (fun p : Ref_ × Coin_ => (refA p.1, coinA p.2)) l (by simp only [Heap.get, x2, x3, if_true, if_false]; rfl) (fun l' bs clk hp hnd hb => ?_)
  have hnk : NodK l' := pin_nod (kA := refA) (vA := coinA) hp hnd
  repeat' (first | omega | assumption | (show AL.ahead _ _ _ = true; rfl) | refine brF (fun _ => ?_) (fun _ => ?_) | refine brT (fun _ => ?_) (fun _ => ?_) | refine brVF (fun _ => ?_) (fun _ => ?_) | refine brVT (fun _ => ?_) (fun _ => ?_) | (with_reducible refine And.intro ?_ ?_) | (simp -dsimp -implicitDefEqProofs only [go_sem, ↓reduceIte, Nat.reduceEqDiff, Nat.reduceAdd, Nat.reduceMul, Nat.reduceLeDiff, Nat.reduceLT, Nat.reduceBEq, Nat.reducePow, Int.reduceToNat, Int.reduceLE, Int.reduceLT, Int.reduceNeg, reduceCtorEq, Int.reduceEq, Int.reduceAdd, Int.reduceSub, Int.reduceMul, Nat.reduceSub, x1, x2, x3]))
  apply loop_keep [3, 14] (fun se : Seen l'.length => []) (fun se => [(nx + 112, some (.itr vm bs clk se.1)), (vm, some (.xmp (coinsE l') bs clk)), (nx + 64, some (.obj (.agg 1 [.map (nx + 48)]))), (nx + 48, some (.mp (coinsE (grewL l' cn0 se.1))))]) (fun se => l'.length - se.1.length) Seen.nil
  · simp -dsimp -implicitDefEqProofs only [go_sem, ↓reduceIte, Nat.reduceEqDiff, Nat.reduceAdd, Nat.reduceMul, Nat.reduceLeDiff, Nat.reduceLT, Nat.reduceBEq, Nat.reducePow, Int.reduceToNat, Int.reduceLE, Int.reduceLT, Int.reduceNeg, reduceCtorEq, Int.reduceEq, Int.reduceAdd, Int.reduceSub, Int.reduceMul, Nat.reduceSub]; try rfl
  · simp -dsimp -implicitDefEqProofs only [go_sem, ↓reduceIte, Nat.reduceEqDiff, Nat.reduceAdd, Nat.reduceMul, Nat.reduceLeDiff, Nat.reduceLT, Nat.reduceBEq, Nat.reducePow, Int.reduceToNat, Int.reduceLE, Int.reduceLT, Int.reduceNeg, reduceCtorEq, Int.reduceEq, Int.reduceAdd, Int.reduceSub, Int.reduceMul, Nat.reduceSub]; try rfl
  · simp -dsimp -implicitDefEqProofs only [go_sem, ↓reduceIte, Nat.reduceEqDiff, Nat.reduceAdd, Nat.reduceMul, Nat.reduceLeDiff, Nat.reduceLT, Nat.reduceBEq, Nat.reducePow, Int.reduceToNat, Int.reduceLE, Int.reduceLT, Int.reduceNeg, reduceCtorEq, Int.reduceEq, Int.reduceAdd, Int.reduceSub, Int.reduceMul, Nat.reduceSub, x1, x2, x3]; try exact ⟨rfl, rfl, rfl⟩
  · intro s
    simp -dsimp -implicitDefEqProofs only [go_sem, ↓reduceIte, Nat.reduceEqDiff, Nat.reduceAdd, Nat.reduceMul, Nat.reduceLeDiff, Nat.reduceLT, Nat.reduceBEq, Nat.reducePow, Int.reduceToNat, Int.reduceLE, Int.reduceLT, Int.reduceNeg, reduceCtorEq, Int.reduceEq, Int.reduceAdd, Int.reduceSub, Int.reduceMul, Nat.reduceSub]
    try omega
  · intro se
    simp -dsimp -implicitDefEqProofs only [go_sem, ↓reduceIte, Nat.reduceEqDiff, Nat.reduceAdd, Nat.reduceMul, Nat.reduceLeDiff, Nat.reduceLT, Nat.reduceBEq, Nat.reducePow, Int.reduceToNat, Int.reduceLE, Int.reduceLT, Int.reduceNeg, reduceCtorEq, Int.reduceEq, Int.reduceAdd, Int.reduceSub, Int.reduceMul, Nat.reduceSub, x1, x2, x3]
    refine steps_by (fun j hj => se.2.2 j hj) (fun hall => ?_) (fun i hi hni => ?_)
    · repeat' (first | omega | assumption | (show AL.ahead _ _ _ = true; rfl) | refine brF (fun _ => ?_) (fun _ => ?_) | refine brT (fun _ => ?_) (fun _ => ?_) | refine brVF (fun _ => ?_) (fun _ => ?_) | refine brVT (fun _ => ?_) (fun _ => ?_) | (with_reducible refine And.intro ?_ ?_) | (simp -dsimp -implicitDefEqProofs only [go_sem, ↓reduceIte, Nat.reduceEqDiff, Nat.reduceAdd, Nat.reduceMul, Nat.reduceLeDiff, Nat.reduceLT, Nat.reduceBEq, Nat.reducePow, Int.reduceToNat, Int.reduceLE, Int.reduceLT, Int.reduceNeg, reduceCtorEq, Int.reduceEq, Int.reduceAdd, Int.reduceSub, Int.reduceMul, Nat.reduceSub, x1, x2, x3]))
      refine view_turn (nx + 48) (by simp only [Heap.get, x2, if_true, if_false, Nat.add_right_cancel_iff, Nat.add_left_cancel_iff, Nat.reduceEqDiff]) (grew_all (kA := refA) (vA := coinA) l l' cn0 hp se.1 se.2.1 se.2.2 hall) ?_
      repeat' (first | omega | assumption | (show AL.ahead _ _ _ = true; rfl) | refine brF (fun _ => ?_) (fun _ => ?_) | refine brT (fun _ => ?_) (fun _ => ?_) | refine brVF (fun _ => ?_) (fun _ => ?_) | refine brVT (fun _ => ?_) (fun _ => ?_) | (with_reducible refine And.intro ?_ ?_) | (simp -dsimp -implicitDefEqProofs only [go_sem, ↓reduceIte, Nat.reduceEqDiff, Nat.reduceAdd, Nat.reduceMul, Nat.reduceLeDiff, Nat.reduceLT, Nat.reduceBEq, Nat.reducePow, Int.reduceToNat, Int.reduceLE, Int.reduceLT, Int.reduceNeg, reduceCtorEq, Int.reduceEq, Int.reduceAdd, Int.reduceSub, Int.reduceMul, Nat.reduceSub, x1, x2, x3]))
      all_goals first | rfl | trace_state
    · have hg := enc_get (kA := refA) (vA := coinA) (d := cn0) hi
      have hgr := grew_cons (kA := refA) (vA := coinA) refA_inj l' cn0 hnk se.1 se.2.2 i hi hni
      have hlt := se.lt hi hni
      repeat' (first | omega | assumption | (show AL.ahead _ _ _ = true; rfl) | refine brF (fun _ => ?_) (fun _ => ?_) | refine brT (fun _ => ?_) (fun _ => ?_) | refine brVF (fun _ => ?_) (fun _ => ?_) | refine brVT (fun _ => ?_) (fun _ => ?_) | (with_reducible refine And.intro ?_ ?_) | (simp -dsimp -implicitDefEqProofs only [go_sem, ↓reduceIte, Nat.reduceEqDiff, Nat.reduceAdd, Nat.reduceMul, Nat.reduceLeDiff, Nat.reduceLT, Nat.reduceBEq, Nat.reducePow, Int.reduceToNat, Int.reduceLE, Int.reduceLT, Int.reduceNeg, reduceCtorEq, Int.reduceEq, Int.reduceAdd, Int.reduceSub, Int.reduceMul, Nat.reduceSub, x1, x2, x3, hg, hi, hgr]))
      all_goals first
        | exact ⟨se.cons i hi hni, by show l'.length - (se.1.length + 1) < l'.length - se.1.length; omega, rfl, rfl⟩
        | trace_state
end Go.Proofs.YthfoeaokfhbdaaaGreat

/-
  Ledgers: what a transaction that comes does.
-/
set_option linter.unusedSimpArgs false
set_option linter.unusedVariables false
set_option maxRecDepth 100000
set_option maxHeartbeats 2000000
namespace Go.Proofs.YthfoeaokfhbdaaaGreat
open Go Go.AL Go.Proofs.YthfoeaokfhbdaaaGreat.T
/-- coins that are taken out, one behind the other -/
noncomputable def takeAll : List In_ → List (Ref_ × Coin_) → List (Ref_ × Coin_)
  | [], cs => cs
  | y :: r, cs => takeAll r (delM y.ref cs)
/-- by what they are spent -/
noncomputable def spendAll (id : Sum) (h : Int) : List In_ → List (Ref_ × Spend_) → List (Ref_ × Spend_)
  | [], s => s
  | y :: r, s => spendAll id h r (setM y.ref ⟨id, y.way, h⟩ s)
theorem takeAll_snoc (y : In_) : ∀ (l : List In_) (cs : List (Ref_ × Coin_)), takeAll (l ++ [y]) cs = delM y.ref (takeAll l cs)
  | [], cs => rfl
  | a :: l, cs => by simp only [List.cons_append, takeAll]; exact takeAll_snoc y l _
theorem spendAll_snoc (id : Sum) (h : Int) (y : In_) : ∀ (l : List In_) (s : List (Ref_ × Spend_)), spendAll id h (l ++ [y]) s = setM y.ref ⟨id, y.way, h⟩ (spendAll id h l s)
  | [], s => rfl
  | a :: l, s => by simp only [List.cons_append, spendAll]; exact spendAll_snoc id h y l _
/-- what a ledger is behind a transaction that came -/
noncomputable def applyS (t : Tx_) (h fee : Int) (ts : List (Int × Tw_)) (hs : List ((Int × Int) × Hold_)) (x : LS) : LS :=
  comeS (txS t) t h { x with coins := takeAll t.ins x.coins, towers := ts, holds := hs, spent := spendAll (txS t) h t.ins x.spent, fees := w64 (x.fees + fee) }
/-- a transaction's lists are of lengths that there are -/
structure TxOk (t : Tx_) : Prop where
  l : txL t
  b : (bodyL true t).length < 2 ^ 38
  k : ∀ o ∈ t.outs, ∀ w ∈ o.ways, w.keys.length < 2 ^ 32
  p : ∀ y ∈ t.ins, y.pre.length < 2 ^ 39
/-- a ledger's coins have ways of lengths that there are -/
def CoOk (cs : List (Ref_ × Coin_)) : Prop := ∀ p ∈ cs, p.2.out.ways.length < 2 ^ 40 ∧ ∀ w ∈ p.2.out.ways, w.keys.length < 2 ^ 32
theorem setM_mem {K V : Type} {k : K} {v : V} : ∀ {l : List (K × V)} {p : K × V}, p ∈ setM k v l → p = (k, v) ∨ p ∈ l
  | [], p, h => by simp [setM] at h; exact .inl h
  | (a, u) :: r, p, h => by
    simp only [setM] at h
    split at h
    · rcases List.mem_cons.1 h with q | q
      · exact .inl q
      · exact .inr (List.mem_cons_of_mem _ q)
    · rcases List.mem_cons.1 h with q | q
      · exact .inr (by rw [q]; exact List.mem_cons_self)
      · rcases setM_mem q with q | q
        · exact .inl q
        · exact .inr (List.mem_cons_of_mem _ q)
theorem putAll_ok (id : Sum) (h : Int) : ∀ (os : List Out_) (i : Nat) (cs : List (Ref_ × Coin_)), CoOk cs → (∀ o ∈ os, o.ways.length < 2 ^ 40 ∧ ∀ w ∈ o.ways, w.keys.length < 2 ^ 32) → CoOk (putAll id h os i cs)
  | [], _, cs, h1, _ => h1
  | o :: r, i, cs, h1, h2 => by
    refine putAll_ok id h r (i + 1) _ (fun p hp => ?_) (fun q hq => h2 q (List.mem_cons_of_mem _ hq))
    unfold putL at hp
    split at hp
    · rcases setM_mem hp with q | q
      · rw [q]; exact h2 o List.mem_cons_self
      · exact h1 p q
    · exact h1 p hp
theorem takeAll_sub : ∀ (l : List In_) (cs : List (Ref_ × Coin_)) (p : Ref_ × Coin_), p ∈ takeAll l cs → p ∈ cs
  | [], _, _, h => h
  | y :: r, cs, p, h => (delM_sub cs).subset (takeAll_sub r _ p h)
theorem applyS_ok {t : Tx_} {h fee : Int} {ts : List (Int × Tw_)} {hs : List ((Int × Int) × Hold_)} {x : LS} (hx : CoOk x.coins) (ht : TxOk t) : CoOk (applyS t h fee ts hs x).coins :=
  putAll_ok _ _ _ _ _ (fun p hp => hx p (takeAll_sub _ _ _ hp)) (fun o ho => ⟨(ht.l.2.2.2.2.2 o ho).1, ht.k o ho⟩)
theorem applyS_order (t : Tx_) (h fee : Int) (ts : List (Int × Tw_)) (hs : List ((Int × Int) × Hold_)) (x : LS) : (applyS t h fee ts hs x).order = x.order ++ [txS t] := rfl
/-- what is read of a ledger, and a board of its own -/
abbrev effH (n : LN) (x : LS) (b tm hm : Nat) : Heap := [(n.l, some (.robj (ledA n x))), (n.d, some (.rmp (donesE x.done))), (n.s, some (.rmp (spentE x.spent))), (b, some (.robj (boardA tm hm))), (tm, some (.mp (towsE x.towers))), (hm, some (.mp (holdsE x.holds)))]
/-- what an op does: how much goes in, how much comes out, why not; and what becomes of the board -/
def EffSpec (t : Tx_) (h : Int) (x : LS) (i o e : Int) (ts : List (Int × Tw_)) (hs : List ((Int × Int) × Hold_)) : Prop :=
  ∀ nx n b tm hm, n.ok nx → b < nx → tm < nx → hm < nx → n.l < b ∧ n.d < b ∧ n.s < b ∧ b < tm ∧ tm < hm →
    FnSpec Tryz.prog 59 nx [.ref n.l 0 [], .ref b 0 [], txA t, n64 h] (effH n x b tm hm) (.tup [n64 i, n64 o, n64 e]) [(tm, some (.mp (towsE ts))), (hm, some (.mp (holdsE hs)))] 0
attribute [local go_sem] nb_u8s u8s_length nb_sum List.length_replicate zero_sum sum_h nb_vals vals_len u8s_nil txA_good txA_csz txA_agg nb_tx tA_len
theorem eff_none (t : Tx_) (h : Int) (x : LS) (h0 : t.op.kind = 0) : EffSpec t h x 0 0 0 x.towers x.holds := by
  intro nx n b tm hm hn hb ht hh hlt
  have xf := hn.xf
  have yf := hn.nf
  have x0 := ltF hb
  have x1 := ltF ht
  have x2 := ltF hh
  have z1 := neF (show tm ≠ hm by omega)
  have z2 := neF (show b ≠ hm by omega)
  have z3 := neF (show b ≠ tm by omega)
  have z4 := neF (show n.l ≠ b by omega)
  have z5 := neF (show n.l ≠ tm by omega)
  have z6 := neF (show n.l ≠ hm by omega)
  have z7 := neF (show n.d ≠ b by omega)
  have z8 := neF (show n.d ≠ tm by omega)
  have z9 := neF (show n.d ≠ hm by omega)
  have z10 := neF (show n.s ≠ b by omega)
  have z11 := neF (show n.s ≠ tm by omega)
  have z12 := neF (show n.s ≠ hm by omega)
  refine FnSpec.of_code (cx := cx) (an := {}) (rs := [.tmp 8, .tmp 9, .tmp 10]) mo Tryz.func59 rfl rfl (by kernel_rfl) (by kernel_rfl) (by show 4 ≤ _; decide) (.inr ⟨_, rfl, by simp [AV.good]⟩) (by simp [allWr, keys, Res.wr]) ?_
  repeat' (first | omega | assumption | (show AL.ahead _ _ _ = true; rfl) | refine brF (fun _ => ?_) (fun _ => ?_) | refine brT (fun _ => ?_) (fun _ => ?_) | refine brVF (fun _ => ?_) (fun _ => ?_) | refine brVT (fun _ => ?_) (fun _ => ?_) | (with_reducible refine And.intro ?_ ?_) | (simp -dsimp -implicitDefEqProofs only [go_sem, ↓reduceIte, Nat.reduceEqDiff, Nat.reduceAdd, Nat.reduceMul, Nat.reduceLeDiff, Nat.reduceLT, Nat.reduceBEq, Nat.reducePow, Int.reduceToNat, Int.reduceLE, Int.reduceLT, Int.reduceNeg, reduceCtorEq, Int.reduceEq, Int.reduceAdd, Int.reduceSub, Int.reduceMul, Nat.reduceSub, oA_p2, oA_off2, opT, h0, xf, yf, x0, x1, x2, z1, z2, z3, z4, z5, z6, z7, z8, z9, z10, z11, z12, nbK_int, nbK_pair, nbV_tow, nbV_hold]))
  all_goals trace_state
end Go.Proofs.YthfoeaokfhbdaaaGreat

/-
  Ledgers: a transaction that comes.
-/
set_option linter.unusedSimpArgs false
set_option linter.unusedVariables false
set_option maxRecDepth 100000
set_option maxHeartbeats 4000000
namespace Go.Proofs.YthfoeaokfhbdaaaGreat
open Go Go.AL Go.Proofs.YthfoeaokfhbdaaaGreat.T
def amts (os : List Out_) : List Int := os.map (·.amount)
theorem amts_snoc (os : List Out_) (o : Out_) : amts (os ++ [o]) = amts os ++ [o.amount] := by simp [amts]
theorem amts_len (os : List Out_) : (amts os).length = os.length := by simp [amts]
theorem txB_P {t : Tx_} (h : txB t = true) : txP t := by unfold txB at h; exact @of_decide_eq_true _ (Classical.propDecidable _) h
theorem txB_way {t : Tx_} (h : txB t = true) : ∀ y ∈ t.ins, 0 ≤ y.way := by
  have hp := txB_P h
  intro y hy
  obtain ⟨i, hi, rfl⟩ := List.getElem_of_mem hy
  have := (hp.2.2.2.2.2.1 i hi hi).1
  simp only [inR] at this
  omega
/-- a ledger whose board is only read -/
abbrev ledI (n : LN) (x : LS) : Heap := [(n.l, some (.obj (ledA n x))), (n.v, some (.obj (.agg 1 [.map n.vm]))), (n.vm, some (.mp (coinsE x.coins))), (n.b, some (.robj (boardA n.tm n.hm))), (n.tm, some (.rmp (towsE x.towers))), (n.hm, some (.rmp (holdsE x.holds))), (n.d, some (.mp (donesE x.done))), (n.s, some (.mp (spentE x.spent))), (n.o, some (.tail x.order.length))]
/-- the names behind a transaction that came -/
def apN (nx : Nat) (n : LN) : LN := { n with b := nx + 112, tm := nx + 152, hm := nx + 192 }
theorem apN_ok {n : LN} {nx N nc : Nat} (hn : n.ok nx) (h : nx ≤ N) (h2 : N + 192 < nc) : (apN N n).ok nc := by
  obtain ⟨a1, a2, a3, a4, a5, a6, a7, a8, a9⟩ := hn.lt
  refine ⟨by simp only [apN]; omega, by simp only [apN]; omega, by simp only [apN]; omega, by simp only [apN]; omega, by simp only [apN]; omega, by simp only [apN]; omega, by simp only [apN]; omega, by simp only [apN]; omega, by simp only [apN]; omega, ?_⟩
  have xf := (hn.up h).xf
  have yf := hn.nf
  simp [apN, xf, yf]
attribute [local go_sem] nb_u8s u8s_length nb_sum List.length_replicate zero_sum sum_h nb_vals vals_len u8s_nil txA_good txA_csz txA_agg nb_tx tA_len tA_p1 tA_off1 iA_p0 iA_off0 nb_ref refA_good refA_agg refA_csz sum_csz sum_agg sumA_good nbK_ref nbK_sum nbK_int nbK_pair nbV_coin nbV_done nbV_spend nbV_tow nbV_hold kk_ref k1_ref kk_sum k1_sum ins_len nb_ins outs_len nb_outs spendA_good spendA_agg spendA_csz nb_spend o_some o_none Option.getD_some Option.getD_none Option.isSome_some Option.isSome_none sums_len nb_sums
theorem applyOk_spec (nx : Nat) (n : LN) (x : LS) (t : Tx_) (h : Int) (hn : n.ok nx) (ht : TxOk t) (hB : txB t = true) (h0 : 0 ≤ h) (h1 : h ≤ 1073741824) (hC : CoOk x.coins) (hord : x.order.length < 2 ^ 40)
    (hd : lookM (txS t) x.done = none) (have_ : Int) (hI : insF (keysF t t.signs) h x.coins 0 t.ins = (have_, 0)) (into from_ : Int) (ts : List (Int × Tw_)) (hs : List ((Int × Int) × Hold_)) (hE : EffSpec t h x into from_ 0 ts hs)
    (hav : Int) (hA : addF 0 [have_, from_] = (hav, 0)) (fee : Int) (hS : subF hav (into :: amts t.outs) = (fee, 0)) :
    FnSpec Tryz.prog 12 nx [.ref n.l 0 [], txA t, n64 h] (ledI n x) (n64 0) (ledH (apN (nx + 408) n) (applyS t h fee ts hs x)) 3000 := by
  have hap : ledH (apN (nx + 408) n) (applyS t h fee ts hs x) = [(n.l, some (.obj (ledA (apN (nx + 408) n) (applyS t h fee ts hs x)))), (n.v, some (.obj (.agg 1 [.map n.vm]))), (n.vm, some (.mp (coinsE (applyS t h fee ts hs x).coins))), (nx + 520, some (.obj (boardA (nx + 560) (nx + 600)))), (nx + 560, some (.mp (towsE ts))), (nx + 600, some (.mp (holdsE hs))), (n.d, some (.mp (donesE (applyS t h fee ts hs x).done))), (n.s, some (.mp (spentE (applyS t h fee ts hs x).spent))), (n.o, some (.tail (applyS t h fee ts hs x).order.length))] := rfl
  rw [hap]
  have xf := hn.xf
  have yf := hn.nf
  have hlt := hn.lt
  have b1 := hn.ne.2.1.1
  have htb := fun nc => txR_spec nc t ht.l
  rw [hB] at htb
  have hsm := fun nc => txSum_spec nc t ht.b ht.k
  have hcl := fun nc (q1 : n.b < nc) (q2 : n.tm < nc) (q3 : n.hm < nc) => bclone_spec nc n.b n.tm n.hm x.towers x.holds q1 q2 q3 hn.ne.2.2.2.1.1 hn.ne.2.2.2.1.2.1 hn.ne.2.2.2.2.1.1
  have hin := fun nc (q : nx ≤ nc) => ins_spec nc n x t h (hn.up q) ht.b ht.k ht.l.2.2.2.2.1 ht.l.2.2.1 (fun y hy => ⟨txB_way hB y hy, ht.p y hy⟩) (fun p hp => ⟨(hC p hp).1, fun w hw => Nat.lt_trans ((hC p hp).2 w hw) (by decide)⟩)
  rw [hI] at hin
  have hef := fun nc (q : nx + 700 ≤ nc) => hE nc n (nx + 520) (nx + 560) (nx + 600) (hn.up (by omega)) (by omega) (by omega) (by omega) ⟨by omega, by omega, by omega, by omega, by omega⟩
  have hlen := ht.l.2.2.2.1
  have hil := ht.l.2.2.1
  have hol := (txB_P hB).2.1
  refine FnSpec.of_code (cx := cx) (an := {tk := [(76, [([], 1)])]}) (rs := [.tmp 6]) mo Tryz.func12 rfl rfl (by kernel_rfl) (by kernel_rfl) (by show 3 ≤ _; decide) (.inl rfl) (by simp [allWr, keys, Res.wr]) ?_
  repeat' (first | omega | assumption | (show AL.ahead _ _ _ = true; rfl) | refine brF (fun _ => ?_) (fun _ => ?_) | refine brT (fun _ => ?_) (fun _ => ?_) | refine brVF (fun _ => ?_) (fun _ => ?_) | refine brVT (fun _ => ?_) (fun _ => ?_) | (with_reducible refine And.intro ?_ ?_) | (refine callK_by (lnone_spec _ n x (by omega)) ?_) | (refine callK_by (htb _) ?_) | (refine callK_by (hsm _) ?_) | (refine callK_by (hin _ (by omega)) ?_) | (refine callK_by (hcl _ (by omega) (by omega) (by omega)) ?_) | (refine callK_by (hef _ (by omega)) ?_) | (simp -dsimp -implicitDefEqProofs only [go_sem, ↓reduceIte, Nat.reduceEqDiff, Nat.reduceAdd, Nat.reduceMul, Nat.reduceLeDiff, Nat.reduceLT, Nat.reduceBEq, Nat.reducePow, Int.reduceToNat, Int.reduceLE, Int.reduceLT, Int.reduceNeg, reduceCtorEq, Int.reduceEq, Int.reduceAdd, Int.reduceSub, Int.reduceMul, Nat.reduceSub, xf, yf, ledA, hd, lookA_enc sumA_inj]))
  apply loop_keep [0, 2, 4, 7, 10, 12, 14, 78, 79] (fun p : { p : Nat // p ≤ t.outs.length } => [(15, .sl 1 (vals .i64 (into :: amts (t.outs.take p.1))) (nx + 831)), (80, n64 p.1)])
    (fun p => [(nx + 829, some (.tail (1 + p.1))), (nx + 520, some (.obj (boardA (nx + 560) (nx + 600)))), (nx + 560, some (.mp (towsE ts))), (nx + 600, some (.mp (holdsE hs))), (nx + 152, some (.obj (sumA (txS t)))), (n.l, some (.obj (ledA n x))), (n.v, some (.obj (.agg 1 [.map n.vm]))), (n.vm, some (.mp (coinsE x.coins))), (n.d, some (.mp (donesE x.done))), (n.s, some (.mp (spentE x.spent))), (n.o, some (.tail x.order.length))])
    (fun p => t.outs.length - p.1) ⟨0, Nat.zero_le _⟩
  · simp -dsimp -implicitDefEqProofs only [go_sem, ↓reduceIte, Nat.reduceEqDiff, Nat.reduceAdd, Nat.reduceMul, Nat.reduceLeDiff, Nat.reduceLT, Nat.reduceBEq, Nat.reducePow, Int.reduceToNat, Int.reduceLE, Int.reduceLT, Int.reduceNeg, reduceCtorEq, Int.reduceEq, Int.reduceAdd, Int.reduceSub, Int.reduceMul, Nat.reduceSub]; try rfl
  · simp -dsimp -implicitDefEqProofs only [go_sem, ↓reduceIte, Nat.reduceEqDiff, Nat.reduceAdd, Nat.reduceMul, Nat.reduceLeDiff, Nat.reduceLT, Nat.reduceBEq, Nat.reducePow, Int.reduceToNat, Int.reduceLE, Int.reduceLT, Int.reduceNeg, reduceCtorEq, Int.reduceEq, Int.reduceAdd, Int.reduceSub, Int.reduceMul, Nat.reduceSub]; try rfl
  · simp -dsimp -implicitDefEqProofs only [go_sem, ↓reduceIte, Nat.reduceEqDiff, Nat.reduceAdd, Nat.reduceMul, Nat.reduceLeDiff, Nat.reduceLT, Nat.reduceBEq, Nat.reducePow, Int.reduceToNat, Int.reduceLE, Int.reduceLT, Int.reduceNeg, reduceCtorEq, Int.reduceEq, Int.reduceAdd, Int.reduceSub, Int.reduceMul, Nat.reduceSub, xf, yf, ledA]; try rfl
  · intro s
    simp -dsimp -implicitDefEqProofs only [go_sem, ↓reduceIte, Nat.reduceEqDiff, Nat.reduceAdd, Nat.reduceMul, Nat.reduceLeDiff, Nat.reduceLT, Nat.reduceBEq, Nat.reducePow, Int.reduceToNat, Int.reduceLE, Int.reduceLT, Int.reduceNeg, reduceCtorEq, Int.reduceEq, Int.reduceAdd, Int.reduceSub, Int.reduceMul, Nat.reduceSub, ledA, boardA]
    try omega
  · rintro ⟨i, hi⟩
    have hi : i ≤ t.outs.length := hi
    simp -dsimp -implicitDefEqProofs only [go_sem, ↓reduceIte, Nat.reduceEqDiff, Nat.reduceAdd, Nat.reduceMul, Nat.reduceLeDiff, Nat.reduceLT, Nat.reduceBEq, Nat.reducePow, Int.reduceToNat, Int.reduceLE, Int.reduceLT, Int.reduceNeg, reduceCtorEq, Int.reduceEq, Int.reduceAdd, Int.reduceSub, Int.reduceMul, Nat.reduceSub]
    refine brT (fun hc => ?_) (fun hc => ?_)
    · have hi2 : i < t.outs.length := by omega
      have q1 := outs_get hi2
      have htk : t.outs.take (i + 1) = t.outs.take i ++ [t.outs[i]] := by rw [List.take_succ_eq_append_getElem hi2]
      have hva : vals .i64 (into :: amts (t.outs.take i)) ++ [n64 t.outs[i].amount] = vals .i64 (into :: amts (t.outs.take (i + 1))) := by rw [htk, amts_snoc]; simp [vals]
      have hln : (into :: amts (t.outs.take i)).length = 1 + i := by simp only [List.length_cons, amts_len, List.length_take]; omega
      have htn : 1 + i + 1 = 1 + (i + 1) := by omega
      generalize t.outs[i] = y at *
      have w1 : IntKind.i64.wrap ((i : Int) + 1) = ((i + 1 : Nat) : Int) := wrapE (by omega) (by omega)
      repeat' (first | omega | assumption | (show AL.ahead _ _ _ = true; rfl) | refine brF (fun _ => ?_) (fun _ => ?_) | refine brT (fun _ => ?_) (fun _ => ?_) | refine brVF (fun _ => ?_) (fun _ => ?_) | refine brVT (fun _ => ?_) (fun _ => ?_) | (with_reducible refine And.intro ?_ ?_) | (simp -dsimp -implicitDefEqProofs only [go_sem, ↓reduceIte, Nat.reduceEqDiff, Nat.reduceAdd, Nat.reduceMul, Nat.reduceLeDiff, Nat.reduceLT, Nat.reduceBEq, Nat.reducePow, Int.reduceToNat, Int.reduceLE, Int.reduceLT, Int.reduceNeg, reduceCtorEq, Int.reduceEq, Int.reduceAdd, Int.reduceSub, Int.reduceMul, Nat.reduceSub, q1, w1, outA, hva, hln, htn, xf, yf, List.append_eq, List.cons_append, List.nil_append]))
      all_goals first
        | exact ⟨⟨i + 1, hi2⟩, by show t.outs.length - (i + 1) < t.outs.length - i; omega, ⟨rfl, rfl⟩, rfl⟩
        | trace_state
    · have e : t.outs.take i = t.outs := List.take_of_length_le (by omega)
      have had := fun nc => add_spec nc [have_, from_] (by simp)
      simp only [vals, List.map_cons, List.map_nil] at had
      rw [hA] at had
      have hsb := fun nc (q : nx + 829 < nc) => sub_spec nc (nx + 831) hav (into :: amts t.outs) (by simp only [List.length_cons, amts_len]; omega) (by omega)
      rw [hS] at hsb
      obtain ⟨X, hX⟩ : ∃ X : Nat → LS, X = fun i => { x with coins := takeAll (t.ins.take i) x.coins, towers := ts, holds := hs, spent := spendAll (txS t) h (t.ins.take i) x.spent, fees := w64 (x.fees + fee) } := ⟨_, rfl⟩
      have hap2 : ∀ j, ledA (apN (nx + 408) n) (X j) = .agg 6 [.ref n.v 0 [], .ref (nx + 520) 0 [], .map n.d, .map n.s, .sl 32 (sumsA x.order) (n.o + 2), n64 (w64 (x.fees + fee))] := fun j => by rw [hX]; rfl
      have hx0 : X 0 = { x with towers := ts, holds := hs, fees := w64 (x.fees + fee) } := by rw [hX]; simp [takeAll, spendAll]
      repeat' (first | omega | assumption | (show AL.ahead _ _ _ = true; rfl) | refine brF (fun _ => ?_) (fun _ => ?_) | refine brT (fun _ => ?_) (fun _ => ?_) | refine brVF (fun _ => ?_) (fun _ => ?_) | refine brVT (fun _ => ?_) (fun _ => ?_) | (with_reducible refine And.intro ?_ ?_) | (refine callK_by (had _) ?_) | (refine callK_by (hsb _ (by omega)) ?_) | (simp -dsimp -implicitDefEqProofs only [go_sem, ↓reduceIte, Nat.reduceEqDiff, Nat.reduceAdd, Nat.reduceMul, Nat.reduceLeDiff, Nat.reduceLT, Nat.reduceBEq, Nat.reducePow, Int.reduceToNat, Int.reduceLE, Int.reduceLT, Int.reduceNeg, reduceCtorEq, Int.reduceEq, Int.reduceAdd, Int.reduceSub, Int.reduceMul, Nat.reduceSub, e, xf, yf, ledA]))
      apply loop_keep [0, 2, 4, 7, 123, 124] (fun p : { p : Nat // p ≤ t.ins.length } => [(125, n64 p.1)])
        (fun p => [(n.l, some (.obj (ledA (apN (nx + 408) n) (X p.1)))), (n.v, some (.obj (.agg 1 [.map n.vm]))), (n.vm, some (.mp (coinsE (takeAll (t.ins.take p.1) x.coins)))), (nx + 520, some (.obj (boardA (nx + 560) (nx + 600)))), (nx + 560, some (.mp (towsE ts))), (nx + 600, some (.mp (holdsE hs))), (n.d, some (.mp (donesE x.done))), (n.s, some (.mp (spentE (spendAll (txS t) h (t.ins.take p.1) x.spent)))), (n.o, some (.tail x.order.length)), (nx + 152, some (.obj (sumA (txS t))))])
        (fun p => t.ins.length - p.1) ⟨0, Nat.zero_le _⟩
      · simp -dsimp -implicitDefEqProofs only [go_sem, ↓reduceIte, Nat.reduceEqDiff, Nat.reduceAdd, Nat.reduceMul, Nat.reduceLeDiff, Nat.reduceLT, Nat.reduceBEq, Nat.reducePow, Int.reduceToNat, Int.reduceLE, Int.reduceLT, Int.reduceNeg, reduceCtorEq, Int.reduceEq, Int.reduceAdd, Int.reduceSub, Int.reduceMul, Nat.reduceSub]; try rfl
      · simp -dsimp -implicitDefEqProofs only [go_sem, ↓reduceIte, Nat.reduceEqDiff, Nat.reduceAdd, Nat.reduceMul, Nat.reduceLeDiff, Nat.reduceLT, Nat.reduceBEq, Nat.reducePow, Int.reduceToNat, Int.reduceLE, Int.reduceLT, Int.reduceNeg, reduceCtorEq, Int.reduceEq, Int.reduceAdd, Int.reduceSub, Int.reduceMul, Nat.reduceSub]; try rfl
      · simp -dsimp -implicitDefEqProofs only [go_sem, ↓reduceIte, Nat.reduceEqDiff, Nat.reduceAdd, Nat.reduceMul, Nat.reduceLeDiff, Nat.reduceLT, Nat.reduceBEq, Nat.reducePow, Int.reduceToNat, Int.reduceLE, Int.reduceLT, Int.reduceNeg, reduceCtorEq, Int.reduceEq, Int.reduceAdd, Int.reduceSub, Int.reduceMul, Nat.reduceSub, xf, yf, hap2, List.take_zero, takeAll, spendAll]; try rfl
      · intro s
        simp -dsimp -implicitDefEqProofs only [go_sem, ↓reduceIte, Nat.reduceEqDiff, Nat.reduceAdd, Nat.reduceMul, Nat.reduceLeDiff, Nat.reduceLT, Nat.reduceBEq, Nat.reducePow, Int.reduceToNat, Int.reduceLE, Int.reduceLT, Int.reduceNeg, reduceCtorEq, Int.reduceEq, Int.reduceAdd, Int.reduceSub, Int.reduceMul, Nat.reduceSub, hap2, boardA]
        try omega
      · rintro ⟨j, hj⟩
        have hj : j ≤ t.ins.length := hj
        simp -dsimp -implicitDefEqProofs only [go_sem, ↓reduceIte, Nat.reduceEqDiff, Nat.reduceAdd, Nat.reduceMul, Nat.reduceLeDiff, Nat.reduceLT, Nat.reduceBEq, Nat.reducePow, Int.reduceToNat, Int.reduceLE, Int.reduceLT, Int.reduceNeg, reduceCtorEq, Int.reduceEq, Int.reduceAdd, Int.reduceSub, Int.reduceMul, Nat.reduceSub]
        refine brT (fun hc2 => ?_) (fun hc2 => ?_)
        · have hj2 : j < t.ins.length := by omega
          have q1 := ins_get hj2
          have htk : t.ins.take (j + 1) = t.ins.take j ++ [t.ins[j]] := by rw [List.take_succ_eq_append_getElem hj2]
          have hta := takeAll_snoc t.ins[j] (t.ins.take j) x.coins
          have hsa := spendAll_snoc (txS t) h t.ins[j] (t.ins.take j) x.spent
          rw [← htk] at hta hsa
          generalize t.ins[j] = y at *
          have w1 : IntKind.i64.wrap ((j : Int) + 1) = ((j + 1 : Nat) : Int) := wrapE (by omega) (by omega)
          have hvt := fun nc (q1 : n.v < nc) (q2 : n.vm < nc) => vtake_spec nc n.v n.vm (takeAll (t.ins.take j) x.coins) y.ref q1 q2 b1
          have hset : setA (refA y.ref) (.agg 34 [sumA (txS t), n64 y.way, n64 h]) (spentE (spendAll (txS t) h (t.ins.take j) x.spent)) = spentE (spendAll (txS t) h (t.ins.take (j + 1)) x.spent) := by
            rw [hsa]; exact setA_enc (vA := spendA) refA_inj y.ref (⟨txS t, y.way, h⟩ : Spend_) _
          repeat' (first | omega | assumption | (show AL.ahead _ _ _ = true; rfl) | refine brF (fun _ => ?_) (fun _ => ?_) | refine brT (fun _ => ?_) (fun _ => ?_) | refine brVF (fun _ => ?_) (fun _ => ?_) | refine brVT (fun _ => ?_) (fun _ => ?_) | (with_reducible refine And.intro ?_ ?_) | (refine callK_by (hvt _ (by omega) (by omega)) ?_) | (simp -dsimp -implicitDefEqProofs only [go_sem, ↓reduceIte, Nat.reduceEqDiff, Nat.reduceAdd, Nat.reduceMul, Nat.reduceLeDiff, Nat.reduceLT, Nat.reduceBEq, Nat.reducePow, Int.reduceToNat, Int.reduceLE, Int.reduceLT, Int.reduceNeg, reduceCtorEq, Int.reduceEq, Int.reduceAdd, Int.reduceSub, Int.reduceMul, Nat.reduceSub, q1, w1, inA, hset, hap2, xf, yf]))
          all_goals first
            | exact ⟨⟨j + 1, hj2⟩, by show t.ins.length - (j + 1) < t.ins.length - j; omega, rfl, by rw [hta], rfl⟩
            | trace_state
        · have e2 : t.ins.take j = t.ins := List.take_of_length_le (by omega)
          obtain ⟨Y, hY⟩ : ∃ Y : LS, Y = { x with coins := takeAll t.ins x.coins, towers := ts, holds := hs, spent := spendAll (txS t) h t.ins x.spent, fees := w64 (x.fees + fee) } := ⟨_, rfl⟩
          have hXY : X j = Y := by rw [hX, hY]; simp only [e2]
          have hYc : Y.coins = takeAll t.ins x.coins := by rw [hY]
          have hYd : Y.done = x.done := by rw [hY]
          have hYo : Y.order = x.order := by rw [hY]
          have hYa : applyS t h fee ts hs x = comeS (txS t) t h Y := by rw [hY]; rfl
          have hYs : (comeS (txS t) t h Y).spent = spendAll (txS t) h t.ins x.spent := by rw [hY]; rfl
          have hcm : ∀ nc, nx + 700 ≤ nc → FnSpec Tryz.prog 63 nc [.ref n.l 0 [], sumA (txS t), txA t, n64 h] [(n.l, some (.obj (ledA (apN (nx + 408) n) Y))), (n.v, some (.robj (.agg 1 [.map n.vm]))), (n.vm, some (.mp (coinsE Y.coins))), (n.d, some (.mp (donesE Y.done))), (n.o, some (.tail Y.order.length))] (.tup [])
              [(n.l, some (.obj (ledA (apN (nx + 408) n) (comeS (txS t) t h Y)))), (n.vm, some (.mp (coinsE (comeS (txS t) t h Y).coins))), (n.d, some (.mp (donesE (comeS (txS t) t h Y).done))), (n.o, some (.tail (comeS (txS t) t h Y).order.length))] 0 :=
            fun nc q => come_spec nc (apN (nx + 408) n) Y (txS t) t h (apN_ok hn (by omega) (by omega)) hlen (fun o ho => ⟨(ht.l.2.2.2.2.2 o ho).1, (ht.l.2.2.2.2.2 o ho).2⟩) (by rw [hYo]; exact hord)
          rw [hYc, hYd, hYo] at hcm
          rw [hYa, hYs]
          generalize comeS (txS t) t h Y = Z at *
          repeat' (first | omega | assumption | (show AL.ahead _ _ _ = true; rfl) | refine brF (fun _ => ?_) (fun _ => ?_) | refine brT (fun _ => ?_) (fun _ => ?_) | refine brVF (fun _ => ?_) (fun _ => ?_) | refine brVT (fun _ => ?_) (fun _ => ?_) | (with_reducible refine And.intro ?_ ?_) | (refine callK_by (hcm _ (by omega)) ?_) | (simp -dsimp -implicitDefEqProofs only [go_sem, ↓reduceIte, Nat.reduceEqDiff, Nat.reduceAdd, Nat.reduceMul, Nat.reduceLeDiff, Nat.reduceLT, Nat.reduceBEq, Nat.reducePow, Int.reduceToNat, Int.reduceLE, Int.reduceLT, Int.reduceNeg, reduceCtorEq, Int.reduceEq, Int.reduceAdd, Int.reduceSub, Int.reduceMul, Nat.reduceSub, e2, hXY, xf, yf]))
          all_goals first | rfl | (simp only [apN]; omega) | (simp only [boardA, AV.nb, AV.nbs, and_true]; omega) | trace_state
/-- what came comes no more -/
theorem applyTwice_spec (nx : Nat) (n : LN) (x : LS) (t : Tx_) (h : Int) (hn : n.ok nx) (ht : TxOk t) (hB : txB t = true) (h0 : 0 ≤ h) (h1 : h ≤ 1073741824) (d : Done_) (hd : lookM (txS t) x.done = some d) :
    FnSpec Tryz.prog 12 nx [.ref n.l 0 [], txA t, n64 h] [(n.l, some (.robj (ledA n x))), (n.d, some (.rmp (donesE x.done)))] (n64 8) [] 0 := by
  have xf := hn.xf
  have yf := hn.nf
  have hlt := hn.lt
  have htb := fun nc => txR_spec nc t ht.l
  rw [hB] at htb
  have hsm := fun nc => txSum_spec nc t ht.b ht.k
  refine FnSpec.of_code (cx := cx) (an := {}) (rs := [.tmp 6]) mo Tryz.func12 rfl rfl (by kernel_rfl) (by kernel_rfl) (by show 3 ≤ _; decide) (.inl rfl) (by simp [allWr, keys, Res.wr]) ?_
  repeat' (first | omega | assumption | (show AL.ahead _ _ _ = true; rfl) | refine brF (fun _ => ?_) (fun _ => ?_) | refine brT (fun _ => ?_) (fun _ => ?_) | refine brVF (fun _ => ?_) (fun _ => ?_) | refine brVT (fun _ => ?_) (fun _ => ?_) | (with_reducible refine And.intro ?_ ?_) | (refine callK_by (lnone_spec _ n x (by omega)) ?_) | (refine callK_by (htb _) ?_) | (refine callK_by (hsm _) ?_) | (simp -dsimp -implicitDefEqProofs only [go_sem, ↓reduceIte, Nat.reduceEqDiff, Nat.reduceAdd, Nat.reduceMul, Nat.reduceLeDiff, Nat.reduceLT, Nat.reduceBEq, Nat.reducePow, Int.reduceToNat, Int.reduceLE, Int.reduceLT, Int.reduceNeg, reduceCtorEq, Int.reduceEq, Int.reduceAdd, Int.reduceSub, Int.reduceMul, Nat.reduceSub, xf, yf, ledA, hd, doneA, lookA_enc sumA_inj]))
  all_goals first | omega | trace_state
end Go.Proofs.YthfoeaokfhbdaaaGreat

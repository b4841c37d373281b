/-
 Ledgers: a transaction that comes.
-/
import Derived.Test.YtaghcjbpjnpkbaaGreatEP94
import Derived.Test.YtaghcjbpjnpkbaaGreatEP108
import Derived.Test.YtaghcjbpjnpkbaaGreatEP24
import Derived.Test.YtaghcjbpjnpkbaaGreatEP12
import Derived.Test.YtaghcjbpjnpkbaaGreatEP71
import Derived.Test.YtaghcjbpjnpkbaaGreatEP20
set_option linter.unusedSimpArgs false
set_option linter.unusedVariables false
set_option maxRecDepth 100000
set_option maxHeartbeats 8000000
namespace Go.Proofs.YtaghcjbpjnpkbaaGreat
open Go Go.AL Go.Proofs.YtaghcjbpjnpkbaaGreat.T
def amts (os : List Out_) : List Int := os.map (·.amount)
theorem amts_snoc (os : List Out_) (o : Out_) : amts (os ++ [o]) = amts os ++ [o.amount] := by simp [amts]
theorem amts_len (os : List Out_) : (amts os).length = os.length := by simp [amts]
theorem txB_P {t : Tx_} (h : txB t = true) : txP t := by unfold txB at h; exact @of_decide_eq_true _ (Classical.propDecidable _) h
theorem txB_way {t : Tx_} (h : txB t = true) : ∀ y ∈ t.ins, 0 ≤ y.way := by
 have hp := txB_P h
 intro y hy
 obtain ⟨i, hi, rfl⟩ := List.getElem_of_mem hy
 have := (hp.2.2.2.2.2.1 i hi hi).1
 simp only [inR] at this
 omega
abbrev ledI (n : LN) (x : LS) : Heap := [(n.l, some (.obj (ledA n x))), (n.v, some (.obj (.agg 1 [.map n.vm]))), (n.vm, some (.mp (coinsE x.coins))), (n.b, some (.robj (boardA n.tm n.hm))), (n.tm, some (.rmp (towsE x.towers))), (n.hm, some (.rmp (holdsE x.holds))), (n.d, some (.mp (donesE x.done))), (n.s, some (.mp (spentE x.spent))), (n.o, some (.tail x.order.length))]
def apN (nx : Nat) (n : LN) : LN := { n with b := nx + 112, tm := nx + 152, hm := nx + 192 }
theorem apN_ok {n : LN} {nx N nc : Nat} (hn : n.ok nx) (h : nx ≤ N) (h2 : N + 192 < nc) : (apN N n).ok nc := by
 obtain ⟨a1, a2, a3, a4, a5, a6, a7, a8, a9⟩ := hn.lt
 refine ⟨by simp only [apN]; omega, by simp only [apN]; omega, by simp only [apN]; omega, by simp only [apN]; omega, by simp only [apN]; omega, by simp only [apN]; omega, by simp only [apN]; omega, by simp only [apN]; omega, by simp only [apN]; omega, ?_⟩
 have xf := (hn.up h).xf
 have yf := hn.nf
 simp [apN, xf, yf]
attribute [local go_sem] nb_u8s u8s_length nb_sum List.length_replicate zero_sum sum_h nb_vals vals_len u8s_nil txA_good txA_csz txA_agg nb_tx tA_len tA_p1 tA_off1 iA_p0 iA_off0 nb_ref refA_good refA_agg refA_csz sum_csz sum_agg sumA_good nbK_ref nbK_sum nbK_int nbK_pair nbV_coin nbV_done nbV_spend nbV_tow nbV_hold kk_ref k1_ref kk_sum k1_sum ins_len nb_ins outs_len nb_outs spendA_good spendA_agg spendA_csz nb_spend o_some o_none Option.getD_some Option.getD_none Option.isSome_some Option.isSome_none sums_len nb_sums
theorem applyOk_spec (nx : Nat) (n : LN) (x : LS) (t : Tx_) (h : Int) (hn : n.ok nx) (ht : TxOk t) (hB : txB t = true) (h0 : 0 ≤ h) (h1 : h ≤ 1073741824) (hC : CoOk x.coins) (hord : x.order.length < 2 ^ 40)
  (hd : lookM (txS t) x.done = none) (have_ : Int) (hI : insF (keysF t t.signs) h x.coins 0 t.ins = (have_, 0)) (into from_ : Int) (ts : List (Int × Tw_)) (hs : List ((Int × Int) × Hold_)) (hE : EffSpec t h x into from_ 0 ts hs)
  (hav : Int) (hA : addF 0 [have_, from_] = (hav, 0)) (fee : Int) (hS : subF hav (into :: amts t.outs) = (fee, 0)) :
  FnSpec Tryz.prog 18 nx [.ref n.l 0 [], txA t, n64 h] (ledI n x) (n64 0) (ledH (apN (nx + 408) n) (applyS t h fee ts hs x)) 3000 := by
 have hap : ledH (apN (nx + 408) n) (applyS t h fee ts hs x) = [(n.l, some (.obj (ledA (apN (nx + 408) n) (applyS t h fee ts hs x)))), (n.v, some (.obj (.agg 1 [.map n.vm]))), (n.vm, some (.mp (coinsE (applyS t h fee ts hs x).coins))), (nx + 520, some (.obj (boardA (nx + 560) (nx + 600)))), (nx + 560, some (.mp (towsE ts))), (nx + 600, some (.mp (holdsE hs))), (n.d, some (.mp (donesE (applyS t h fee ts hs x).done))), (n.s, some (.mp (spentE (applyS t h fee ts hs x).spent))), (n.o, some (.tail (applyS t h fee ts hs x).order.length))] := rfl
 rw [hap]
 have xf := hn.xf
 have yf := hn.nf
 have hlt := hn.lt
 have b1 := hn.ne.2.1.1
 have htb := fun nc => txR_spec nc t ht.l
 rw [hB] at htb
 have hsm := fun nc => txSum_spec nc t ht.b ht.k
 have hcl := fun nc (q1 : n.b < nc) (q2 : n.tm < nc) (q3 : n.hm < nc) => bclone_spec nc n.b n.tm n.hm x.towers x.holds q1 q2 q3 hn.ne.2.2.2.1.1 hn.ne.2.2.2.1.2.1 hn.ne.2.2.2.2.1.1
 have hin := fun nc (q : nx ≤ nc) => ins_spec nc n x t h (hn.up q) ht.b ht.k ht.l.2.2.2.2.1 ht.l.2.2.1 (fun y hy => ⟨txB_way hB y hy, ht.p y hy⟩) (fun p hp => ⟨(hC p hp).1, fun w hw => Nat.lt_trans ((hC p hp).2 w hw) (by decide)⟩)
 rw [hI] at hin
 have hef := fun nc (q : nx + 700 ≤ nc) => hE nc n (nx + 520) (nx + 560) (nx + 600) (hn.up (by omega)) (by omega) (by omega) (by omega) ⟨by omega, by omega, by omega, by omega, by omega⟩
 have hlen := ht.l.2.2.2.1
 have hil := ht.l.2.2.1
 have hol := (txB_P hB).2.1
 refine FnSpec.of_code (cx := cx) (an := {tk := [(76, [([], 1)])]}) (rs := [.tmp 6]) mo Tryz.func18 rfl rfl (by kernel_rfl) (by kernel_rfl) (by show 3 ≤ _; decide) (.inl rfl) (by simp [allWr, keys, Res.wr]) ?_
 repeat' (first | omega | assumption | (show AL.ahead _ _ _ = true; rfl) | (first | apply brF | apply brT | apply brVF | apply brVT) <;> intro _ | (with_reducible refine And.intro ?_ ?_) | (refine callK_by (lnone_spec _ n x (by omega)) ?_) | (refine callK_by (htb _) ?_) | (refine callK_by (hsm _) ?_) | (refine callK_by (hin _ (by omega)) ?_) | (refine callK_by (hcl _ (by omega) (by omega) (by omega)) ?_) | (refine callK_by (hef _ (by omega)) ?_) | (simp -dsimp -implicitDefEqProofs only [go_sem, xf, yf, ledA, hd, lookA_enc sumA_inj]))
 apply loop_keep [0, 2, 4, 7, 10, 12, 14, 78, 79] (fun p : { p : Nat // p ≤ t.outs.length } => [(15, .sl 1 (vals .i64 (into :: amts (t.outs.take p.1))) (nx + 831)), (80, n64 p.1)])
  (fun p => [(nx + 829, some (.tail (1 + p.1))), (nx + 520, some (.obj (boardA (nx + 560) (nx + 600)))), (nx + 560, some (.mp (towsE ts))), (nx + 600, some (.mp (holdsE hs))), (nx + 152, some (.obj (sumA (txS t)))), (n.l, some (.obj (ledA n x))), (n.v, some (.obj (.agg 1 [.map n.vm]))), (n.vm, some (.mp (coinsE x.coins))), (n.d, some (.mp (donesE x.done))), (n.s, some (.mp (spentE x.spent))), (n.o, some (.tail x.order.length))])
  (fun p => t.outs.length - p.1) ⟨0, Nat.zero_le _⟩
 ·simp -dsimp -implicitDefEqProofs only [go_sem]; try rfl
 ·simp -dsimp -implicitDefEqProofs only [go_sem]; try rfl
 ·simp -dsimp -implicitDefEqProofs only [go_sem, xf, yf, ledA]; try rfl
 ·intro s
  simp -dsimp -implicitDefEqProofs only [go_sem, ledA, boardA]
  try omega
 ·rintro ⟨i, hi⟩
  have hi : i ≤ t.outs.length := hi
  simp -dsimp -implicitDefEqProofs only [go_sem]
  refine brT (fun hc => ?_) (fun hc => ?_)
  ·have hi2 : i < t.outs.length := by omega
   have q1 := outs_get hi2
   have htk : t.outs.take (i + 1) = t.outs.take i ++ [t.outs[i]] := by rw [List.take_succ_eq_append_getElem hi2]
   have hva : vals .i64 (into :: amts (t.outs.take i)) ++ [n64 t.outs[i].amount] = vals .i64 (into :: amts (t.outs.take (i + 1))) := by rw [htk, amts_snoc]; simp [vals]
   have hln : (into :: amts (t.outs.take i)).length = 1 + i := by simp only [List.length_cons, amts_len, List.length_take]; omega
   have htn : 1 + i + 1 = 1 + (i + 1) := by omega
   generalize t.outs[i] = y at *
   have w1 : IntKind.i64.wrap ((i : Int) + 1) = ((i + 1 : Nat) : Int) := wrapE (by omega) (by omega)
   repeat' (first | omega | assumption | (show AL.ahead _ _ _ = true; rfl) | (first | apply brF | apply brT | apply brVF | apply brVT) <;> intro _ | (with_reducible refine And.intro ?_ ?_) | (simp -dsimp -implicitDefEqProofs only [go_sem, q1, w1, outA, hva, hln, htn, xf, yf, List.append_eq, List.cons_append, List.nil_append]))
   all_goals first
    | exact ⟨⟨i + 1, hi2⟩, by show t.outs.length - (i + 1) < t.outs.length - i; omega, ⟨rfl, rfl⟩, rfl⟩
    
  ·have e : t.outs.take i = t.outs := List.take_of_length_le (by omega)
   have had := fun nc => add_spec nc [have_, from_] (by simp)
   simp only [vals, List.map_cons, List.map_nil] at had
   rw [hA] at had
   have hsb := fun nc (q : nx + 829 < nc) => sub_spec nc (nx + 831) hav (into :: amts t.outs) (by simp only [List.length_cons, amts_len]; omega) (by omega)
   rw [hS] at hsb
   obtain ⟨X, hX⟩ : ∃ X : Nat → LS, X = fun i => { x with coins := takeAll (t.ins.take i) x.coins, towers := ts, holds := hs, spent := spendAll (txS t) h (t.ins.take i) x.spent, fees := w64 (x.fees + fee) } := ⟨_, rfl⟩
   have hap2 : ∀ j, ledA (apN (nx + 408) n) (X j) = .agg 6 [.ref n.v 0 [], .ref (nx + 520) 0 [], .map n.d, .map n.s, .sl 32 (sumsA x.order) (n.o + 2), n64 (w64 (x.fees + fee))] := fun j => by rw [hX]; rfl
   have hx0 : X 0 = { x with towers := ts, holds := hs, fees := w64 (x.fees + fee) } := by rw [hX]; simp [takeAll, spendAll]
   repeat' (first | omega | assumption | (show AL.ahead _ _ _ = true; rfl) | (first | apply brF | apply brT | apply brVF | apply brVT) <;> intro _ | (with_reducible refine And.intro ?_ ?_) | (refine callK_by (had _) ?_) | (refine callK_by (hsb _ (by omega)) ?_) | (simp -dsimp -implicitDefEqProofs only [go_sem, e, xf, yf, ledA]))
   apply loop_keep [0, 2, 4, 7, 123, 124] (fun p : { p : Nat // p ≤ t.ins.length } => [(125, n64 p.1)])
    (fun p => [(n.l, some (.obj (ledA (apN (nx + 408) n) (X p.1)))), (n.v, some (.obj (.agg 1 [.map n.vm]))), (n.vm, some (.mp (coinsE (takeAll (t.ins.take p.1) x.coins)))), (nx + 520, some (.obj (boardA (nx + 560) (nx + 600)))), (nx + 560, some (.mp (towsE ts))), (nx + 600, some (.mp (holdsE hs))), (n.d, some (.mp (donesE x.done))), (n.s, some (.mp (spentE (spendAll (txS t) h (t.ins.take p.1) x.spent)))), (n.o, some (.tail x.order.length)), (nx + 152, some (.obj (sumA (txS t))))])
    (fun p => t.ins.length - p.1) ⟨0, Nat.zero_le _⟩
   ·simp -dsimp -implicitDefEqProofs only [go_sem]; try rfl
   ·simp -dsimp -implicitDefEqProofs only [go_sem]; try rfl
   ·simp -dsimp -implicitDefEqProofs only [go_sem, xf, yf, hap2, List.take_zero, takeAll, spendAll]; try rfl
   ·intro s
    simp -dsimp -implicitDefEqProofs only [go_sem, hap2, boardA]
    try omega
   ·rintro ⟨j, hj⟩
    have hj : j ≤ t.ins.length := hj
    simp -dsimp -implicitDefEqProofs only [go_sem]
    refine brT (fun hc2 => ?_) (fun hc2 => ?_)
    ·have hj2 : j < t.ins.length := by omega
     have q1 := ins_get hj2
     have htk : t.ins.take (j + 1) = t.ins.take j ++ [t.ins[j]] := by rw [List.take_succ_eq_append_getElem hj2]
     have hta := takeAll_snoc t.ins[j] (t.ins.take j) x.coins
     have hsa := spendAll_snoc (txS t) h t.ins[j] (t.ins.take j) x.spent
     rw [← htk] at hta hsa
     generalize t.ins[j] = y at *
     have w1 : IntKind.i64.wrap ((j : Int) + 1) = ((j + 1 : Nat) : Int) := wrapE (by omega) (by omega)
     have hvt := fun nc (q1 : n.v < nc) (q2 : n.vm < nc) => vtake_spec nc n.v n.vm (takeAll (t.ins.take j) x.coins) y.ref q1 q2 b1
     have hset : setA (refA y.ref) (.agg 34 [sumA (txS t), n64 y.way, n64 h]) (spentE (spendAll (txS t) h (t.ins.take j) x.spent)) = spentE (spendAll (txS t) h (t.ins.take (j + 1)) x.spent) := by
      rw [hsa]; exact setA_enc (vA := spendA) refA_inj y.ref (⟨txS t, y.way, h⟩ : Spend_) _
     repeat' (first | omega | assumption | (show AL.ahead _ _ _ = true; rfl) | (first | apply brF | apply brT | apply brVF | apply brVT) <;> intro _ | (with_reducible refine And.intro ?_ ?_) | (refine callK_by (hvt _ (by omega) (by omega)) ?_) | (simp -dsimp -implicitDefEqProofs only [go_sem, q1, w1, inA, hset, hap2, xf, yf]))
     all_goals first
      | exact ⟨⟨j + 1, hj2⟩, by show t.ins.length - (j + 1) < t.ins.length - j; omega, rfl, by rw [hta], rfl⟩
      
    ·have e2 : t.ins.take j = t.ins := List.take_of_length_le (by omega)
     obtain ⟨Y, hY⟩ : ∃ Y : LS, Y = { x with coins := takeAll t.ins x.coins, towers := ts, holds := hs, spent := spendAll (txS t) h t.ins x.spent, fees := w64 (x.fees + fee) } := ⟨_, rfl⟩
     have hXY : X j = Y := by rw [hX, hY]; simp only [e2]
     have hYc : Y.coins = takeAll t.ins x.coins := by rw [hY]
     have hYd : Y.done = x.done := by rw [hY]
     have hYo : Y.order = x.order := by rw [hY]
     have hYa : applyS t h fee ts hs x = comeS (txS t) t h Y := by rw [hY]; rfl
     have hYs : (comeS (txS t) t h Y).spent = spendAll (txS t) h t.ins x.spent := by rw [hY]; rfl
     have hcm : ∀ nc, nx + 700 ≤ nc → FnSpec Tryz.prog 47 nc [.ref n.l 0 [], sumA (txS t), txA t, n64 h] [(n.l, some (.obj (ledA (apN (nx + 408) n) Y))), (n.v, some (.robj (.agg 1 [.map n.vm]))), (n.vm, some (.mp (coinsE Y.coins))), (n.d, some (.mp (donesE Y.done))), (n.o, some (.tail Y.order.length))] (.tup [])
       [(n.l, some (.obj (ledA (apN (nx + 408) n) (comeS (txS t) t h Y)))), (n.vm, some (.mp (coinsE (comeS (txS t) t h Y).coins))), (n.d, some (.mp (donesE (comeS (txS t) t h Y).done))), (n.o, some (.tail (comeS (txS t) t h Y).order.length))] 0 :=
      fun nc q => come_spec nc (apN (nx + 408) n) Y (txS t) t h (apN_ok hn (by omega) (by omega)) hlen (fun o ho => ⟨(ht.l.2.2.2.2.2 o ho).1, (ht.l.2.2.2.2.2 o ho).2⟩) (by rw [hYo]; exact hord)
     rw [hYc, hYd, hYo] at hcm
     rw [hYa, hYs]
     generalize comeS (txS t) t h Y = Z at *
     repeat' (first | omega | assumption | (show AL.ahead _ _ _ = true; rfl) | (first | apply brF | apply brT | apply brVF | apply brVT) <;> intro _ | (with_reducible refine And.intro ?_ ?_) | (refine callK_by (hcm _ (by omega)) ?_) | (simp -dsimp -implicitDefEqProofs only [go_sem, e2, hXY, xf, yf]))
     all_goals first | rfl | (simp only [apN]; omega) | (simp only [boardA, AV.nb, AV.nbs, and_true]; omega)
end Go.Proofs.YtaghcjbpjnpkbaaGreat

namespace Go.Proofs.YtaghcjbpjnpkbaaGreat
open Go Go.AL Go.Proofs.YtaghcjbpjnpkbaaGreat.T
def sumO : Int → List Int → Int × Int
  | s, [] => (s, 0)
  | s, a :: r => if (addF 0 [s, a]).2 ≠ 0 then (0, (addF 0 [s, a]).2) else sumO (addF 0 [s, a]).1 r
def inZ : In_ := ⟨⟨zeroS, 0⟩, 0, []⟩
def outZ : Out_ := ⟨0, []⟩
noncomputable def jcF (c : Chan) (t j : Tx_) : Int :=
  if ownF c t < 0 ∨ txB j = false ∨ j.ins.length ≠ 1 ∨ j.op.kind ≠ 0 then 1
  else @ite _ ((j.ins.getD 0 inZ).ref ≠ ⟨txS t, 0⟩ ∨ (j.ins.getD 0 inZ).way ≠ 1) (Classical.propDecidable _) 13
    (if opensB ((t.outs.getD 0 outZ).ways.getD 1 wayZ) (keysF j j.signs) (j.ins.getD 0 inZ).pre 0 0 = false then 12
     else if (sumO 0 (amts j.outs)).2 ≠ 0 then (sumO 0 (amts j.outs)).2
     else if (t.outs.getD 0 outZ).amount < (sumO 0 (amts j.outs)).1 then 14 else 0)
theorem ownF_shape {c : Chan} {t : Tx_} (h : ¬ ownF c t < 0) : ∃ x am own take o1 op sg, t = ⟨[x], [⟨am, [own, take]⟩, o1], op, sg⟩ := by
  obtain ⟨ins, outs, op, sg⟩ := t
  unfold ownF at h
  simp only at h
  split at h
  · rename_i x o0 o1
    split at h
    · rename_i own take e3
      refine ⟨x, o0.amount, own, take, o1, op, sg, ?_⟩
      cases o0
      simp only at e3
      rw [e3]
    · exact absurd (by decide) h
  · exact absurd (by decide) h
theorem nbo {m : Nat} (l : List Out_) : AV.nbs m (List.map outA l) = True := nb_outs l
attribute [local go_sem] nb_u8s u8s_length nb_sum List.length_replicate zero_sum sum_h u8s_nil txA_good txA_csz txA_agg nb_tx sumA nb_vals vals_len ways_len nb_ways outA_good outA_agg outA_csz nb_out1 ins_len outs_len nb_ins nb_outs nb_signs tA_len tA_p1 tA_off1 iA_p0 iA_off0 oA_p2 oA_off2 wayA_good wayA_agg wayA_csz nb_way1 nbo nbw
section
variable (nx : Nat) (c : Chan) (t j : Tx_)
theorem jcArg_spec (ht : TxOk t) (hj : TxOk j) (hb : ownF c t < 0 ∨ txB j = false ∨ j.ins.length ≠ 1 ∨ j.op.kind ≠ 0) : FnSpec Tryz.prog 167 nx [chanA c, txA t, txA j] [] (n64 1) [] 0 := by
  have ho := fun nc => owner_spec nc c t ht.l.2.2.1 ht.l.2.2.2.1 ht.l.2.2.2.2.2
  have hr := fun nc => txR_spec nc j hj.l
  have hjl := hj.l.2.2.1
  simp only [chanA, refA, sumA] at ho
  by_cases c1 : ownF c t < 0
  · refine FnSpec.of_code (cx := cx) (an := {}) (rs := [.tmp 6]) mo Tryz.func167 rfl rfl (by kernel_rfl) (by kernel_rfl) (by show 3 ≤ _; decide) (.inl rfl) (by simp [allWr, keys, Res.wr]) ?_
    repeat' (first | omega | assumption | (show AL.ahead _ _ _ = true; rfl) | (first | apply brF | apply brT | apply brVF | apply brVT) <;> intro _ | (with_reducible refine And.intro ?_ ?_) | (refine callK_by (ho _) ?_) | (simp -dsimp -implicitDefEqProofs only [go_sem, chanA, refA, c1]))
    all_goals rfl
  · rcases Bool.eq_false_or_eq_true (txB j) with c2 | c2
    · rw [c2] at hr
      by_cases c3 : j.ins.length = 1
      · have c4 : j.op.kind ≠ 0 := ((hb.resolve_left c1).resolve_left (by rw [c2]; decide)).resolve_left (fun q => q c3)
        have e3 : ((j.ins.length : Int) = 1) = True := eq_true (by omega)
        refine FnSpec.of_code (cx := cx) (an := {}) (rs := [.tmp 6]) mo Tryz.func167 rfl rfl (by kernel_rfl) (by kernel_rfl) (by show 3 ≤ _; decide) (.inl rfl) (by simp [allWr, keys, Res.wr]) ?_
        repeat' (first | omega | assumption | (show AL.ahead _ _ _ = true; rfl) | (first | apply brF | apply brT | apply brVF | apply brVT) <;> intro _ | (with_reducible refine And.intro ?_ ?_) | (refine callK_by (ho _) ?_) | (refine callK_by (hr _) ?_) | (simp -dsimp -implicitDefEqProofs only [go_sem, chanA, refA, c1, e3, c4, opT]))
        all_goals rfl
      · have e3 : ((j.ins.length : Int) = 1) = False := eq_false (by omega)
        refine FnSpec.of_code (cx := cx) (an := {}) (rs := [.tmp 6]) mo Tryz.func167 rfl rfl (by kernel_rfl) (by kernel_rfl) (by show 3 ≤ _; decide) (.inl rfl) (by simp [allWr, keys, Res.wr]) ?_
        repeat' (first | omega | assumption | (show AL.ahead _ _ _ = true; rfl) | (first | apply brF | apply brT | apply brVF | apply brVT) <;> intro _ | (with_reducible refine And.intro ?_ ?_) | (refine callK_by (ho _) ?_) | (refine callK_by (hr _) ?_) | (simp -dsimp -implicitDefEqProofs only [go_sem, chanA, refA, c1, e3]))
        all_goals rfl
    · rw [c2] at hr
      refine FnSpec.of_code (cx := cx) (an := {}) (rs := [.tmp 6]) mo Tryz.func167 rfl rfl (by kernel_rfl) (by kernel_rfl) (by show 3 ≤ _; decide) (.inl rfl) (by simp [allWr, keys, Res.wr]) ?_
      repeat' (first | omega | assumption | (show AL.ahead _ _ _ = true; rfl) | (first | apply brF | apply brT | apply brVF | apply brVT) <;> intro _ | (with_reducible refine And.intro ?_ ?_) | (refine callK_by (ho _) ?_) | (refine callK_by (hr _) ?_) | (simp -dsimp -implicitDefEqProofs only [go_sem, chanA, refA, c1]))
      all_goals rfl
theorem jc_spec (ht : TxOk t) (hj : TxOk j) : FnSpec Tryz.prog 167 nx [chanA c, txA t, txA j] [] (n64 (jcF c t j)) [] 0 := by
  by_cases hb : ownF c t < 0 ∨ txB j = false ∨ j.ins.length ≠ 1 ∨ j.op.kind ≠ 0
  · have e : jcF c t j = 1 := by unfold jcF; rw [if_pos hb]
    rw [e]
    exact jcArg_spec nx c t j ht hj hb
  · have b1 : ¬ ownF c t < 0 := fun q => hb (.inl q)
    have b2 : txB j = true := by
      rcases Bool.eq_false_or_eq_true (txB j) with q | q
      · exact q
      · exact absurd (.inr (.inl q)) hb
    have b3 : j.ins.length = 1 := Classical.byContradiction fun q => hb (.inr (.inr (.inl q)))
    have b4 : j.op.kind = 0 := Classical.byContradiction fun q => hb (.inr (.inr (.inr q)))
    have ho := fun nc => owner_spec nc c t ht.l.2.2.1 ht.l.2.2.2.1 ht.l.2.2.2.2.2
    have hr := fun nc => txR_spec nc j hj.l
    rw [b2] at hr
    have hcr := fun nc => cref_spec nc t ht.b ht.k
    have hky := fun nc => keysA_spec nc j hj.b hj.k hj.l.2.2.2.2.1
    have hkl := keysF_len j j.signs
    have hsl := hj.l.2.2.2.2.1
    have hol := hj.l.2.2.2.1
    obtain ⟨K, hK⟩ : ∃ K, K = keysF j j.signs := ⟨_, rfl⟩
    have hJ : jcF c t j = @ite _ ((j.ins.getD 0 inZ).ref ≠ ⟨txS t, 0⟩ ∨ (j.ins.getD 0 inZ).way ≠ 1) (Classical.propDecidable _) 13
        (if opensB ((t.outs.getD 0 outZ).ways.getD 1 wayZ) K (j.ins.getD 0 inZ).pre 0 0 = false then 12
         else if (sumO 0 (amts j.outs)).2 ≠ 0 then (sumO 0 (amts j.outs)).2
         else if (t.outs.getD 0 outZ).amount < (sumO 0 (amts j.outs)).1 then 14 else 0) := by rw [hK]; unfold jcF; rw [if_neg hb]
    rw [hJ]
    clear hJ
    rw [← hK] at hky hkl
    clear hK
    obtain ⟨ji, jo, jop, jsg⟩ := j
    simp only at b3 b4 hsl hol hkl
    obtain ⟨y, rfl⟩ := one_list b3
    obtain ⟨F, hF⟩ : ∃ F, F = ownF c t := ⟨_, rfl⟩
    rw [← hF] at ho b1
    obtain ⟨Z, hZ⟩ : ∃ Z, Z = txS t := ⟨_, rfl⟩
    have hsh := ownF_shape (c := c) (t := t) (by rw [← hF]; exact b1)
    rw [← hZ] at hcr
    rw [← hZ]
    clear hF hZ
    obtain ⟨x, am, own, take, o1, op, sg, rfl⟩ := hsh
    have htk := (ht.l.2.2.2.2.2 ⟨am, [own, take]⟩ (by simp)).2 take (by simp)
    have hop := fun nc => opens_spec nc 0 0 take K y.pre 0 0 htk (by omega) (hj.p y (by simp)) (.inl (by omega)) (.inl (by omega))
    simp only [chanA, refA, sumA, txA, insA, inA, outsA, outA, waysA, opT, b4, List.map_cons, List.map_nil] at ho hr hcr hky
    have hl0 : ([y] : List In_).length = 1 := rfl
    simp only [List.getD_cons_zero, List.getD_cons_succ]
    by_cases c1 : y.ref = ⟨Z, 0⟩
    · have er : eqB (.agg 33 [.vec 1 (u8s y.ref.tx.b), n64 y.ref.at_]) (.agg 33 [.vec 1 (u8s Z.b), n64 0]) = true := by rw [c1]; exact eqB_yes rfl
      by_cases c2 : y.way = 1
      · rw [if_neg (by rintro (q | q); exact q c1; exact q c2)]
        simp only [c2] at hr hky
        rcases Bool.eq_false_or_eq_true (opensB take K y.pre 0 0) with c3 | c3
        · rw [if_neg (by rw [c3]; decide)]
          rw [c3] at hop
          refine FnSpec.of_code (cx := cx) (an := {}) (rs := [.tmp 6]) mo Tryz.func167 rfl rfl (by kernel_rfl) (by kernel_rfl) (by show 3 ≤ _; decide) (.inl rfl) (by simp [allWr, keys, Res.wr]) ?_
          repeat' (first | omega | assumption | (show AL.ahead _ _ _ = true; rfl) | (first | apply brF | apply brT | apply brVF | apply brVT) <;> intro _ | (with_reducible refine And.intro ?_ ?_) | (refine callK_by (ho _) ?_) | (refine callK_by (hr _) ?_) | (refine callK_by (hcr _) ?_) | (refine callK_by (hky _) ?_) | (refine callK_by (hop _) ?_) | (simp -dsimp -implicitDefEqProofs only [go_sem, chanA, refA, txA, insA, inA, outsA, outA, waysA, opT, List.map_cons, List.map_nil, List.length_cons, List.length_nil, List.length_map, List.getD_cons_zero, List.getD_cons_succ, b1, b4, er, c2, ↓cmp_sum7, ↓cmp_sum, isSumT]))
          have hjo : jo.length < 2 ^ 40 := hol
          obtain ⟨SO, hSO⟩ : ∃ SO, SO = sumO 0 (amts jo) := ⟨_, rfl⟩
          rw [← hSO]
          obtain ⟨G, hG⟩ : ∃ G, G = (if SO.2 ≠ 0 then SO.2 else if am < SO.1 then 14 else (0 : Int)) := ⟨_, rfl⟩
          rw [← hG]
          apply loop_keep [4, 63, 64] (fun p : { p : Nat × Int // p.1 ≤ jo.length ∧ sumO p.2 ((amts jo).drop p.1) = SO } => [(8, n64 p.1.2), (65, n64 p.1.1)])
            (fun _ => []) (fun p => jo.length - p.1.1) ⟨(0, 0), Nat.zero_le _, hSO.symm⟩
          · simp -dsimp -implicitDefEqProofs only [go_sem]; try rfl
          · simp -dsimp -implicitDefEqProofs only [go_sem]; try rfl
          · simp -dsimp -implicitDefEqProofs only [go_sem, List.length_map]; try rfl
          · intro s
            simp -dsimp -implicitDefEqProofs only [go_sem]
            try omega
          · rintro ⟨⟨i, sm⟩, hi, hall⟩
            have hi : i ≤ jo.length := hi
            simp only at hall
            simp -dsimp -implicitDefEqProofs only [go_sem]
            refine brT (fun hc => ?_) (fun hc => ?_)
            · have hi2 : i < jo.length := by omega
              have q1 : (List.map outA jo).getD i .undef = outA jo[i] := outs_get hi2
              have hd : (amts jo).drop i = jo[i].amount :: (amts jo).drop (i + 1) := by
                have h2 : i < (amts jo).length := by rw [amts_len]; exact hi2
                rw [List.drop_eq_getElem_cons h2]; simp [amts]
              rw [hd] at hall
              generalize jo[i] = yo at *
              have w1 : IntKind.i64.wrap ((i : Int) + 1) = ((i + 1 : Nat) : Int) := wrapE (by omega) (by omega)
              have had := fun nc => add_spec nc [sm, yo.amount] (by simp)
              simp only [vals, List.map_cons, List.map_nil] at had
              simp only [sumO] at hall
              by_cases ha : (addF 0 [sm, yo.amount]).2 = 0
              · rw [if_neg (fun q => q ha)] at hall
                rw [ha] at had
                repeat' (first | omega | assumption | (show AL.ahead _ _ _ = true; rfl) | (first | apply brF | apply brT | apply brVF | apply brVT) <;> intro _ | (with_reducible refine And.intro ?_ ?_) | (refine callK_by (had _) ?_) | (simp -dsimp -implicitDefEqProofs only [go_sem, q1, w1, outA, List.length_map]))
                all_goals first
                  | exact ⟨⟨(i + 1, (addF 0 [sm, yo.amount]).1), hi2, hall⟩, by show jo.length - (i + 1) < jo.length - i; omega, rfl, rfl⟩
                 
              · rw [if_pos ha] at hall
                rw [← hall, if_pos ha] at hG
                repeat' (first | omega | assumption | (show AL.ahead _ _ _ = true; rfl) | (first | apply brF | apply brT | apply brVF | apply brVT) <;> intro _ | (with_reducible refine And.intro ?_ ?_) | (refine callK_by (had _) ?_) | (simp -dsimp -implicitDefEqProofs only [go_sem, q1, w1, outA, ha, List.length_map]))
                all_goals first | (rw [hG]) | omega
            · have e : i = jo.length := by omega
              subst e
              rw [show (amts jo).drop jo.length = [] from List.drop_eq_nil_of_le (by rw [amts_len]; exact Nat.le_refl _), sumO] at hall
              rw [← hall, if_neg (fun q => q rfl)] at hG
              by_cases hg : am < sm
              · rw [if_pos hg] at hG
                repeat' (first | omega | assumption | (show AL.ahead _ _ _ = true; rfl) | (first | apply brF | apply brT | apply brVF | apply brVT) <;> intro _ | (with_reducible refine And.intro ?_ ?_) | (simp -dsimp -implicitDefEqProofs only [go_sem, hg, gt_iff_lt, List.getD_cons_zero, List.length_cons]))
                all_goals first | (rw [hG])
              · rw [if_neg hg] at hG
                repeat' (first | omega | assumption | (show AL.ahead _ _ _ = true; rfl) | (first | apply brF | apply brT | apply brVF | apply brVT) <;> intro _ | (with_reducible refine And.intro ?_ ?_) | (simp -dsimp -implicitDefEqProofs only [go_sem, hg, gt_iff_lt, List.getD_cons_zero, List.length_cons]))
                all_goals first | (rw [hG])
        · rw [if_pos c3]
          rw [c3] at hop
          refine FnSpec.of_code (cx := cx) (an := {}) (rs := [.tmp 6]) mo Tryz.func167 rfl rfl (by kernel_rfl) (by kernel_rfl) (by show 3 ≤ _; decide) (.inl rfl) (by simp [allWr, keys, Res.wr]) ?_
          repeat' (first | omega | assumption | (show AL.ahead _ _ _ = true; rfl) | (first | apply brF | apply brT | apply brVF | apply brVT) <;> intro _ | (with_reducible refine And.intro ?_ ?_) | (refine callK_by (ho _) ?_) | (refine callK_by (hr _) ?_) | (refine callK_by (hcr _) ?_) | (refine callK_by (hky _) ?_) | (refine callK_by (hop _) ?_) | (simp -dsimp -implicitDefEqProofs only [go_sem, chanA, refA, txA, insA, inA, outsA, outA, waysA, opT, List.map_cons, List.map_nil, List.length_cons, List.length_nil, List.length_map, List.getD_cons_zero, List.getD_cons_succ, b1, b4, er, c2, ↓cmp_sum7, ↓cmp_sum, isSumT]))
          all_goals rfl
      · rw [if_pos (.inr c2)]
        refine FnSpec.of_code (cx := cx) (an := {}) (rs := [.tmp 6]) mo Tryz.func167 rfl rfl (by kernel_rfl) (by kernel_rfl) (by show 3 ≤ _; decide) (.inl rfl) (by simp [allWr, keys, Res.wr]) ?_
        repeat' (first | omega | assumption | (show AL.ahead _ _ _ = true; rfl) | (first | apply brF | apply brT | apply brVF | apply brVT) <;> intro _ | (with_reducible refine And.intro ?_ ?_) | (refine callK_by (ho _) ?_) | (refine callK_by (hr _) ?_) | (refine callK_by (hcr _) ?_) | (simp -dsimp -implicitDefEqProofs only [go_sem, chanA, refA, txA, insA, inA, outsA, outA, waysA, opT, List.map_cons, List.map_nil, List.length_cons, List.length_nil, List.length_map, List.getD_cons_zero, List.getD_cons_succ, b1, b4, er, c2, ↓cmp_sum7, ↓cmp_sum, isSumT]))
        all_goals rfl
    · have er : eqB (.agg 33 [.vec 1 (u8s y.ref.tx.b), n64 y.ref.at_]) (.agg 33 [.vec 1 (u8s Z.b), n64 0]) = false := eqB_no (fun q => c1 (refA_inj _ _ q))
      rw [if_pos (.inl c1)]
      refine FnSpec.of_code (cx := cx) (an := {}) (rs := [.tmp 6]) mo Tryz.func167 rfl rfl (by kernel_rfl) (by kernel_rfl) (by show 3 ≤ _; decide) (.inl rfl) (by simp [allWr, keys, Res.wr]) ?_
      repeat' (first | omega | assumption | (show AL.ahead _ _ _ = true; rfl) | (first | apply brF | apply brT | apply brVF | apply brVT) <;> intro _ | (with_reducible refine And.intro ?_ ?_) | (refine callK_by (ho _) ?_) | (refine callK_by (hr _) ?_) | (refine callK_by (hcr _) ?_) | (simp -dsimp -implicitDefEqProofs only [go_sem, chanA, refA, txA, insA, inA, outsA, outA, waysA, opT, List.map_cons, List.map_nil, List.length_cons, List.length_nil, List.getD_cons_zero, List.getD_cons_succ, b1, b4, er, ↓cmp_sum7, ↓cmp_sum, isSumT]))
      all_goals rfl
end
end Go.Proofs.YtaghcjbpjnpkbaaGreat

namespace Go.Proofs.YtaghcjbpjnpkbaaGreat
open Go Go.AL Go.Proofs.YtaghcjbpjnpkbaaGreat.T
attribute [local go_sem] nb_u8s u8s_length nb_sum sumA List.length_replicate u8_wrap take32 List.drop_zero zero_sum sum_h u8s_cons u8s_one u8_gc u8_gd1 u8_cs1 u8s_app penA nb_vals vals_len u8s_nil ways_len outs_len ins_len signs_len nb_ways nb_outs nb_ins nb_signs
def signL (s : Sign_) : List UInt8 := numI s.key ++ s.of_.b
def bytL (t : Tx_) : List UInt8 := bodyL true t ++ numI t.signs.length ++ t.signs.flatMap signL
theorem txA_p3 (t : Tx_) : (txA t).parts.getD 3 .undef = .sl 33 (signsA t.signs) 0 := rfl
theorem txA_len (t : Tx_) : (txA t).parts.length = 4 := rfl
theorem txA_off (t : Tx_) : (txA t).partOff 3 = 39 := rfl
theorem bytesBad_spec (nx : Nat) (t : Tx_) (hL : txL t) (h : txB t = false) : FnSpec Tryz.prog 71 nx [txA t] [] (.tup [.sl 0 [] 1, n64 1]) [] 0 := by
 have hr := fun nc => txR_spec nc t hL
 rw [h] at hr
 refine FnSpec.of_code (cx := cx) (an := {}) (rs := [.tmp 2, .tmp 3]) mo Tryz.func71 rfl rfl (by kernel_rfl) (by kernel_rfl) (by show 1 ≤ _; decide) (.inr ⟨_, rfl, by simp [AV.good]⟩) (by simp [allWr, keys, Res.wr]) ?_
 repeat' (first | omega | assumption | (show AL.ahead _ _ _ = true; rfl) | (first | apply brF | apply brT | apply brVF | apply brVT) <;> intro _ | (with_reducible refine And.intro ?_ ?_) | (refine callK_by (hr _) ?_) | (simp -dsimp -implicitDefEqProofs only [go_sem, txA_good, txA_csz, txA_agg, nb_tx]))
theorem bytesT_spec (nx : Nat) (t : Tx_) (hL : txL t) (h : txB t = true) (hb : (bytL t).length < 2 ^ 38) (hk : ∀ o ∈ t.outs, ∀ w ∈ o.ways, w.keys.length < 2 ^ 32) :
  FnSpec Tryz.prog 71 nx [txA t] [] (.tup [.sl 1 (u8s (bytL t)) (nx + 226), n64 0]) [(nx + 224, some (.tail (bytL t).length))] 2000 := by
 have hr := fun nc => txR_spec nc t hL
 rw [h] at hr
 have hs1 := hL.2.2.2.2.1
 have hb' := hb
 simp only [bytL, List.length_append] at hb'
 have n1 := numI_len t.signs.length
 have hbs := fun mm (h1 : nx + 48 < mm) (h2 : nx + 49 < mm) => body_spec mm (nx + 48) (nx + 49) [] t true (by simp; omega) hk h1 h2 (by omega)
 simp only [List.nil_append] at hbs
 obtain ⟨A, hA⟩ : ∃ A, A = bodyL true t ++ numI t.signs.length := ⟨_, rfl⟩
 have hAl := congrArg List.length hA
 rw [List.length_append] at hAl
 refine FnSpec.of_code (cx := cx) (an := {tk := [(4, [([0], 1)])]}) (rs := [.tmp 2, .tmp 3]) mo Tryz.func71 rfl rfl (by kernel_rfl) (by kernel_rfl) (by show 1 ≤ _; decide) (.inr ⟨_, rfl, by simp [AV.good]⟩) (by simp [allWr, keys, Res.wr]) ?_
 repeat' (first | omega | assumption | (show AL.ahead _ _ _ = true; rfl) | (first | apply brF | apply brT | apply brVF | apply brVT) <;> intro _ | (with_reducible refine And.intro ?_ ?_) | (refine callK_by (hr _) ?_) | (refine callK_by (hbs _ (by omega) (by omega)) ?_) | (refine callK_by (num_spec _ (nx + 48) (nx + 49) (bodyL true t) t.signs.length (by omega) (by omega) (by omega) (by omega)) ?_) | (simp -dsimp -implicitDefEqProofs only [go_sem, txA_good, txA_csz, txA_agg, nb_tx, txA_p3, txA_len, txA_off]))
 rw [← hA]
 apply loop_keep [4, 17, 18] (fun i : { i : Nat // i ≤ t.signs.length } => [(19, n64 i.1)]) (fun i => penH (nx + 48) (nx + 49) (A ++ (t.signs.take i.1).flatMap signL)) (fun i => t.signs.length - i.1) ⟨0, Nat.zero_le _⟩
 ·simp -dsimp -implicitDefEqProofs only [go_sem]; try rfl
 ·simp -dsimp -implicitDefEqProofs only [go_sem]; try rfl
 ·simp -dsimp -implicitDefEqProofs only [go_sem, List.take_zero, List.flatMap_nil, List.append_nil, hAl]; try rfl
 ·intro s
  simp -dsimp -implicitDefEqProofs only [go_sem]
  try omega
 ·rintro ⟨i, hi⟩
  have hi : i ≤ t.signs.length := hi
  have hle := flat_le signL t.signs i
  simp -dsimp -implicitDefEqProofs only [go_sem]
  refine brT (fun h => ?_) (fun h => ?_)
  ·have hi2 : i < t.signs.length := by omega
   have w1 : IntKind.i64.wrap ((i : Int) + 1) = ((i + 1 : Nat) : Int) := wrapE (by omega) (by omega)
   have hg := signs_get hi2
   have hsn := flat_take_snoc signL hi2
   have hle2 := flat_le signL t.signs (i + 1)
   rw [hsn, List.length_append] at hle2
   generalize t.signs[i] = x at *
   simp only [signL, List.length_append] at hle2
   have n2 := numI_len x.key
   obtain ⟨B, hB⟩ : ∃ B, B = A ++ (t.signs.take i).flatMap signL := ⟨_, rfl⟩
   have hBl := congrArg List.length hB
   rw [List.length_append] at hBl
   rw [← hB]
   repeat' (first | omega | assumption | (show AL.ahead _ _ _ = true; rfl) | (first | apply brF | apply brT | apply brVF | apply brVT) <;> intro _ | (with_reducible refine And.intro ?_ ?_) | (refine callK_by (num_spec _ (nx + 48) (nx + 49) B x.key (by omega) (by omega) (by omega) (by omega)) ?_) | (refine callK_by (psum_spec _ (nx + 48) (nx + 49) (B ++ numI x.key) x.of_ (by rw [List.length_append]; omega) (by omega) (by omega) (by omega)) ?_) | (simp -dsimp -implicitDefEqProofs only [go_sem, hg, signA, w1]))
   refine ⟨⟨i + 1, hi2⟩, by show t.signs.length - (i + 1) < t.signs.length - i; omega, rfl, ?_, ?_⟩
   ·simp only [hsn, signL, hB, List.append_assoc]
   ·simp only [hsn, signL, hB, List.length_append, sum_h]
    congr 2; omega
  ·have e : i = t.signs.length := by omega
   subst e
   have hfin : bytL t = A ++ t.signs.flatMap signL := by rw [hA, bytL]
   rw [hfin]
   repeat' (first | omega | assumption | (show AL.ahead _ _ _ = true; rfl) | (first | apply brF | apply brT | apply brVF | apply brVT) <;> intro _ | (with_reducible refine And.intro ?_ ?_) | (refine callK_by (bytes_spec _ (nx + 48) (nx + 51) (A ++ t.signs.flatMap signL) (by rw [List.length_append]; omega) (by omega) (by omega)) ?_) | (simp -dsimp -implicitDefEqProofs only [go_sem, List.take_length, List.length_append]))
theorem bytesOk_spec (nx : Nat) (t : Tx_) (hL : txL t) (h : txB t = true) (hb : (bytL t).length < 2 ^ 38) (hk : ∀ o ∈ t.outs, ∀ w ∈ o.ways, w.keys.length < 2 ^ 32) :
  FnSpec Tryz.prog 71 nx [txA t] [] (.tup [.sl 1 (u8s (bytL t)) 0, n64 0]) [] 0 :=
 ((bytesT_spec nx t hL h hb hk).outle (av' := .tup [.sl 1 (u8s (bytL t)) 0, n64 0]) ⟨_, _, rfl, ⟨_, _, rfl, AV.les_refl _, .inr (.inl rfl)⟩, AV.les_refl _⟩).forget0 ⟨rfl, fun i x y h1 h2 => .inl (by rw [h1] at h2; exact Option.some.inj h2)⟩ (by simp [AV.nb, AV.nbs, nb_u8s]) (by simp [keys])
end Go.Proofs.YtaghcjbpjnpkbaaGreat

namespace Go.Proofs.YtaghcjbpjnpkbaaGreat
open Go Go.AL Go.Proofs.YtaghcjbpjnpkbaaGreat.T
attribute [local go_sem] nb_u8s u8s_length
theorem bytes_ext {a b : List UInt8} (hl : a.length = b.length) (h : ∀ j, j < a.length → a.getD j 0 = b.getD j 0) : a = b := by
  apply List.ext_getElem hl
  intro j h1 h2
  have := h j h1
  simpa [List.getD_eq_getElem?_getD, List.getElem?_eq_getElem h1, List.getElem?_eq_getElem h2] using this
theorem u8_injP {a b : UInt8} (h : (a.toNat : Int) = (b.toNat : Int)) : a = b := UInt8.toNat_inj.1 (by omega)
theorem equal_spec (nx : Nat) (a b : List UInt8) (ta tb : Nat) (ha : a.length < 2 ^ 40) (hb : b.length < 2 ^ 40) (h1 : ta < 2 ∨ ta - 2 < nx) (h2 : tb < 2 ∨ tb - 2 < nx) :
    FnSpec Tryz.prog 72 nx [.sl 1 (u8s a) ta, .sl 1 (u8s b) tb] [] (bA (decide (a = b))) [] 0 := by
  refine FnSpec.of_code (cx := cx) (an := {}) (rs := [.tmp 4]) mo Tryz.func72 rfl rfl (by kernel_rfl) (by kernel_rfl) (by show 2 ≤ _; decide) (.inl rfl) (by simp [allWr, keys, Res.wr]) ?_
  repeat' (first | omega | assumption | (show AL.ahead _ _ _ = true; rfl) | (first | apply brF | apply brT | apply brVF | apply brVT) <;> intro _ | (with_reducible refine And.intro ?_ ?_) | (simp -dsimp -implicitDefEqProofs only [go_sem]))
  · rename_i hne
    have e : decide (a = b) = false := decide_eq_false (fun e => by subst e; omega)
    rw [e]
  rename_i heq
  have heq : a.length = b.length := by omega
  apply loop_keep [0, 1, 12] (fun i : { i : Nat // i ≤ a.length ∧ ∀ j, j < i → a.getD j 0 = b.getD j 0 } => [(13, n64 i.1)]) (fun _ => []) (fun i => a.length - i.1) ⟨0, Nat.zero_le _, fun j hj => absurd hj (Nat.not_lt_zero _)⟩
  · simp -dsimp -implicitDefEqProofs only [go_sem]; rfl
  · simp -dsimp -implicitDefEqProofs only [go_sem]; try rfl
  · simp -dsimp -implicitDefEqProofs only [go_sem]; try rfl
  · intro s
    simp -dsimp -implicitDefEqProofs only [go_sem]
    try omega
  · rintro ⟨i, hi, hall⟩
    have hi : i ≤ a.length := hi
    simp -dsimp -implicitDefEqProofs only [go_sem]
    refine brT (fun hc => ?_) (fun hc => ?_)
    · have hi2 : i < a.length := by omega
      have hi3 : i < b.length := by omega
      have q1 := u8s_get hi2
      have q2 := u8s_get hi3
      have w1 : IntKind.i64.wrap ((i : Int) + 1) = ((i + 1 : Nat) : Int) := wrapE (by omega) (by omega)
      repeat' (first | omega | assumption | (show AL.ahead _ _ _ = true; rfl) | (first | apply brF | apply brT | apply brVF | apply brVT) <;> intro _ | (with_reducible refine And.intro ?_ ?_) | (simp -dsimp -implicitDefEqProofs only [go_sem, q1, q2, w1]))
      all_goals first
        | (rename_i hx
           have e : decide (a = b) = false := decide_eq_false (fun e => hx (by rw [e]))
           rw [e])
        | (rename_i hx
           refine ⟨⟨i + 1, hi2, fun j hj => ?_⟩, by show a.length - (i + 1) < a.length - i; omega, rfl⟩
           by_cases hj3 : j < i
           · exact hall j hj3
           · have e : j = i := by omega
             subst e
             exact u8_injP (by omega))
       
    · have e : i = a.length := by omega
      subst e
      repeat' (first | omega | assumption | (show AL.ahead _ _ _ = true; rfl) | (first | apply brF | apply brT | apply brVF | apply brVT) <;> intro _ | (with_reducible refine And.intro ?_ ?_) | (simp -dsimp -implicitDefEqProofs only [go_sem]))
      have e : decide (a = b) = true := decide_eq_true (bytes_ext heq hall)
      rw [e]
end Go.Proofs.YtaghcjbpjnpkbaaGreat

namespace Go.Proofs.YtaghcjbpjnpkbaaGreat
open Go Go.AL Go.Proofs.YtaghcjbpjnpkbaaGreat.T
attribute [local go_sem] nb_u8s u8s_length nb_sum sumA List.length_replicate zero_sum sum_h nb_vals vals_len u8s_nil ways_len nb_ways ins_len outs_len signs_len nb_ins nb_outs nb_signs
theorem sameT_spec (nx : Nat) (t : Tx_) (hL : txL t) (hb : (bytL t).length < 2 ^ 38) (hk : ∀ o ∈ t.outs, ∀ w ∈ o.ways, w.keys.length < 2 ^ 32) : FnSpec Tryz.prog 33 nx [txA t, txA t] [] (bA (txB t)) [] 0 := by
 cases hB : txB t with
 | true =>
  have h1 := fun nc => bytesOk_spec nc t hL hB hb hk
  have h2 := fun nc => equal_spec nc (bytL t) (bytL t) 0 0 (by omega) (by omega) (by omega) (by omega)
  simp only [decide_true] at h2
  refine FnSpec.of_code (cx := cx) (an := {}) (rs := [.tmp 4]) mo Tryz.func33 rfl rfl (by kernel_rfl) (by kernel_rfl) (by show 2 ≤ _; decide) (.inl rfl) (by simp [allWr, keys, Res.wr]) ?_
  repeat' (first | omega | assumption | (show AL.ahead _ _ _ = true; rfl) | (first | apply brF | apply brT | apply brVF | apply brVT) <;> intro _ | (with_reducible refine And.intro ?_ ?_) | (refine callK_by (h1 _) ?_) | (refine callK_by (h2 _) ?_) | (simp -dsimp -implicitDefEqProofs only [go_sem, txA_good, txA_csz, txA_agg, nb_tx]))
 | false =>
  have h1 := fun nc => bytesBad_spec nc t hL hB
  refine FnSpec.of_code (cx := cx) (an := {}) (rs := [.tmp 4]) mo Tryz.func33 rfl rfl (by kernel_rfl) (by kernel_rfl) (by show 2 ≤ _; decide) (.inl rfl) (by simp [allWr, keys, Res.wr]) ?_
  repeat' (first | omega | assumption | (show AL.ahead _ _ _ = true; rfl) | (first | apply brF | apply brT | apply brVF | apply brVT) <;> intro _ | (with_reducible refine And.intro ?_ ?_) | (refine callK_by (h1 _) ?_) | (simp -dsimp -implicitDefEqProofs only [go_sem, txA_good, txA_csz, txA_agg, nb_tx]))
theorem body_byt (t : Tx_) : (bodyL true t).length ≤ (bytL t).length := by simp only [bytL, List.length_append]; omega
theorem lawSame_spec (nx : Nat) (t : Tx_) (hL : txL t) (hb : (bytL t).length < 2 ^ 38) (hk : ∀ o ∈ t.outs, ∀ w ∈ o.ways, w.keys.length < 2 ^ 32) : FnSpec Tryz.prog 12 nx [txA t, txA t] [] (bA true) [] 0 := by
 have hbb := body_byt t
 have h1 := fun nc => sameT_spec nc t hL hb hk
 have h2 := fun nc => txR_spec nc t hL
 have h3 := fun nc => txSum_spec nc t (by omega) hk
 cases hB : txB t with
 | true =>
  rw [hB] at h1 h2
  refine FnSpec.of_code (cx := cx) (an := {}) (rs := [.tmp 4]) mo Tryz.func12 rfl rfl (by kernel_rfl) (by kernel_rfl) (by show 2 ≤ _; decide) (.inl rfl) (by simp [allWr, keys, Res.wr]) ?_
  repeat' (first | omega | assumption | (show AL.ahead _ _ _ = true; rfl) | (first | apply brF | apply brT | apply brVF | apply brVT) <;> intro _ | (with_reducible refine And.intro ?_ ?_) | (refine callK_by (h1 _) ?_) | (refine callK_by (h2 _) ?_) | (refine callK_by (h3 _) ?_) | (simp -dsimp -implicitDefEqProofs only [go_sem, txA_good, txA_csz, txA_agg, nb_tx, ↓cmp_sum, isSumT, decide_eq_true_eq, Bool.and_self, eqB_self]))
 | false =>
  rw [hB] at h1 h2
  refine FnSpec.of_code (cx := cx) (an := {}) (rs := [.tmp 4]) mo Tryz.func12 rfl rfl (by kernel_rfl) (by kernel_rfl) (by show 2 ≤ _; decide) (.inl rfl) (by simp [allWr, keys, Res.wr]) ?_
  repeat' (first | omega | assumption | (show AL.ahead _ _ _ = true; rfl) | (first | apply brF | apply brT | apply brVF | apply brVT) <;> intro _ | (with_reducible refine And.intro ?_ ?_) | (refine callK_by (h1 _) ?_) | (refine callK_by (h2 _) ?_) | (refine callK_by (h3 _) ?_) | (simp -dsimp -implicitDefEqProofs only [go_sem, txA_good, txA_csz, txA_agg, nb_tx, ↓cmp_sum, isSumT, decide_eq_true_eq, Bool.and_self, eqB_self]))
end Go.Proofs.YtaghcjbpjnpkbaaGreat

namespace Go.Proofs.YtaghcjbpjnpkbaaGreat
open Go Go.AL Go.Proofs.YtaghcjbpjnpkbaaGreat.T
def buildA (c : Chan) (me other mine hers : Int) (h : Sum) : AV :=
 .agg 40 [.sl 35 [.agg 35 [refA c.fund, n64 0, .sl 1 [] 1]] 1, .sl 2 [.agg 2 [n64 mine, .sl 35 [.agg 35 [.sl 1 [n64 me] 1, sumA zeroS, n64 0, n64 c.wait], .agg 35 [.sl 1 [n64 other] 1, sumA h, n64 0, n64 0]] 1], outA (toO other hers)] 1, .agg 37 [n64 0, n64 0, n64 0, n64 0, sumA zeroS, .sl 1 [] 1], .sl 33 [] 1]
def txZA : AV := .agg 40 [.sl 35 [] 1, .sl 2 [] 1, .agg 37 [n64 0, n64 0, n64 0, n64 0, sumA zeroS, .sl 1 [] 1], .sl 33 [] 1]
end Go.Proofs.YtaghcjbpjnpkbaaGreat

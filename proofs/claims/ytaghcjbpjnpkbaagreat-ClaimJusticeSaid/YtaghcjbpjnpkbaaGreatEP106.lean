/-
 What the ops of a ledger do.
-/
import Derived.Test.YtaghcjbpjnpkbaaGreatEP94
import Derived.Test.YtaghcjbpjnpkbaaGreatEP104
import Derived.Test.YtaghcjbpjnpkbaaGreatEP108
import Derived.Test.YtaghcjbpjnpkbaaGreatEP111
set_option linter.unusedSimpArgs false
set_option linter.unusedVariables false
set_option maxRecDepth 100000
set_option maxHeartbeats 8000000
namespace Go.Proofs.YtaghcjbpjnpkbaaGreat
open Go Go.AL Go.Proofs.YtaghcjbpjnpkbaaGreat.T
attribute [local go_sem] nb_u8s u8s_length nb_sum List.length_replicate zero_sum sum_h nb_vals vals_len u8s_nil txA_good txA_csz txA_agg nb_tx tA_len nbK_int nbK_pair nbV_tow nbV_hold nb_tow nb_hold holdA_good holdA_agg holdA_csz sum_csz sum_agg sumA_good
theorem sgn_spec (nx : Nat) (t : Tx_) (k : Int) (hT : TxOk t) : FnSpec Tryz.prog 98 nx [n64 k, .cref (txA t)] [] (bA (decide (k ∈ keysF t t.signs))) [] 0 := by
 have hkl := keysF_len t t.signs
 have hs := hT.l.2.2.2.2.1
 have hk := fun nc => keysA_spec nc t hT.b hT.k hs
 have hc := fun nc => contN_spec nc 0 (keysF t t.signs) k (by omega) (.inl (by omega))
 refine FnSpec.of_code (cx := cx) (an := {}) (rs := [.tmp 3]) mo Tryz.func98 rfl rfl (by kernel_rfl) (by kernel_rfl) (by show 2 ≤ _; decide) (.inl rfl) (by simp [allWr, keys, Res.wr]) ?_
 repeat' (first | omega | assumption | (show AL.ahead _ _ _ = true; rfl) | (first | apply brF | apply brT | apply brVF | apply brVT) <;> intro _ | (with_reducible refine And.intro ?_ ?_) | (refine callK_by (hk _) ?_) | (refine callK_by (hc _) ?_) | (simp -dsimp -implicitDefEqProofs only [go_sem]))
 all_goals rfl
def twS (t : Tx_) : Prop := w64 (100 + t.op.tower) ∈ keysF t t.signs
theorem eff_tower (t : Tx_) (h : Int) (x : LS) (hT : TxOk t) (hk : t.op.kind = 1 ∨ t.op.kind = 2 ∨ t.op.kind = 4 ∨ t.op.kind = 5) (hs : ¬ twS t) : EffSpec t h x 0 0 11 x.towers x.holds := by
 intro nx n b tm hm hn hb ht hh hlt
 have xf := hn.xf
 have yf := hn.nf
 have x0 := ltF hb
 have x1 := ltF ht
 have x2 := ltF hh
 have z1 := neF (show tm ≠ hm by omega)
 have z2 := neF (show b ≠ hm by omega)
 have z3 := neF (show b ≠ tm by omega)
 have z4 := neF (show n.l ≠ b by omega)
 have z5 := neF (show n.l ≠ tm by omega)
 have z6 := neF (show n.l ≠ hm by omega)
 have z7 := neF (show n.d ≠ b by omega)
 have z8 := neF (show n.d ≠ tm by omega)
 have z9 := neF (show n.d ≠ hm by omega)
 have z10 := neF (show n.s ≠ b by omega)
 have z11 := neF (show n.s ≠ tm by omega)
 have z12 := neF (show n.s ≠ hm by omega)
 have hsg := fun nc k => sgn_spec nc t k hT
 have hsg2 := hsg
 have hdec : decide (w64 (100 + t.op.tower) ∈ keysF t t.signs) = false := decide_eq_false hs
 have hs1 := fun nc => hsg nc (w64 (100 + t.op.tower))
 rw [hdec] at hs1
 have hj := fun nc => jkeyW_spec nc t.op.tower
 rcases hk with hk | hk | hk | hk
 ·refine FnSpec.of_code (cx := cx) (an := {}) (rs := [.tmp 8, .tmp 9, .tmp 10]) mo Tryz.func50 rfl rfl (by kernel_rfl) (by kernel_rfl) (by show 4 ≤ _; decide) (.inr ⟨_, rfl, by simp [AV.good]⟩) (by simp [allWr, keys, Res.wr]) ?_
  repeat' (first | omega | assumption | (show AL.ahead _ _ _ = true; rfl) | (first | apply brF | apply brT | apply brVF | apply brVT) <;> intro _ | (with_reducible refine And.intro ?_ ?_) | (refine callK_by (hj _) ?_) | (refine callK_by (hs1 _) ?_) | (simp -dsimp -implicitDefEqProofs only [go_sem, oA_p2, oA_off2, opT, hk, xf, yf, x0, x1, x2, z1, z2, z3, z4, z5, z6, z7, z8, z9, z10, z11, z12]))
  all_goals rfl
 ·refine FnSpec.of_code (cx := cx) (an := {}) (rs := [.tmp 8, .tmp 9, .tmp 10]) mo Tryz.func50 rfl rfl (by kernel_rfl) (by kernel_rfl) (by show 4 ≤ _; decide) (.inr ⟨_, rfl, by simp [AV.good]⟩) (by simp [allWr, keys, Res.wr]) ?_
  repeat' (first | omega | assumption | (show AL.ahead _ _ _ = true; rfl) | (first | apply brF | apply brT | apply brVF | apply brVT) <;> intro _ | (with_reducible refine And.intro ?_ ?_) | (refine callK_by (hj _) ?_) | (refine callK_by (hs1 _) ?_) | (simp -dsimp -implicitDefEqProofs only [go_sem, oA_p2, oA_off2, opT, hk, xf, yf, x0, x1, x2, z1, z2, z3, z4, z5, z6, z7, z8, z9, z10, z11, z12]))
  all_goals rfl
 ·refine FnSpec.of_code (cx := cx) (an := {}) (rs := [.tmp 8, .tmp 9, .tmp 10]) mo Tryz.func50 rfl rfl (by kernel_rfl) (by kernel_rfl) (by show 4 ≤ _; decide) (.inr ⟨_, rfl, by simp [AV.good]⟩) (by simp [allWr, keys, Res.wr]) ?_
  repeat' (first | omega | assumption | (show AL.ahead _ _ _ = true; rfl) | (first | apply brF | apply brT | apply brVF | apply brVT) <;> intro _ | (with_reducible refine And.intro ?_ ?_) | (refine callK_by (hj _) ?_) | (refine callK_by (hs1 _) ?_) | (simp -dsimp -implicitDefEqProofs only [go_sem, oA_p2, oA_off2, opT, hk, xf, yf, x0, x1, x2, z1, z2, z3, z4, z5, z6, z7, z8, z9, z10, z11, z12]))
  all_goals rfl
 ·refine FnSpec.of_code (cx := cx) (an := {}) (rs := [.tmp 8, .tmp 9, .tmp 10]) mo Tryz.func50 rfl rfl (by kernel_rfl) (by kernel_rfl) (by show 4 ≤ _; decide) (.inr ⟨_, rfl, by simp [AV.good]⟩) (by simp [allWr, keys, Res.wr]) ?_
  repeat' (first | omega | assumption | (show AL.ahead _ _ _ = true; rfl) | (first | apply brF | apply brT | apply brVF | apply brVT) <;> intro _ | (with_reducible refine And.intro ?_ ?_) | (refine callK_by (hj _) ?_) | (refine callK_by (hs1 _) ?_) | (simp -dsimp -implicitDefEqProofs only [go_sem, oA_p2, oA_off2, opT, hk, xf, yf, x0, x1, x2, z1, z2, z3, z4, z5, z6, z7, z8, z9, z10, z11, z12]))
  all_goals rfl
theorem eff_bond (t : Tx_) (h : Int) (x : LS) (hT : TxOk t) (hk : t.op.kind = 1) (hs : twS t) : EffSpec t h x t.op.amount 0 (lockF t.op.tower t.op.amount t.op.root x.towers).1 (lockF t.op.tower t.op.amount t.op.root x.towers).2 x.holds := by
 intro nx n b tm hm hn hb ht hh hlt
 have xf := hn.xf
 have yf := hn.nf
 have x0 := ltF hb
 have x1 := ltF ht
 have x2 := ltF hh
 have z1 := neF (show tm ≠ hm by omega)
 have z2 := neF (show b ≠ hm by omega)
 have z3 := neF (show b ≠ tm by omega)
 have z4 := neF (show n.l ≠ b by omega)
 have z5 := neF (show n.l ≠ tm by omega)
 have z6 := neF (show n.l ≠ hm by omega)
 have z7 := neF (show n.d ≠ b by omega)
 have z8 := neF (show n.d ≠ tm by omega)
 have z9 := neF (show n.d ≠ hm by omega)
 have z10 := neF (show n.s ≠ b by omega)
 have z11 := neF (show n.s ≠ tm by omega)
 have z12 := neF (show n.s ≠ hm by omega)
 have hsg := fun nc k => sgn_spec nc t k hT
 have hdec : decide (w64 (100 + t.op.tower) ∈ keysF t t.signs) = true := decide_eq_true hs
 have hs1 := fun nc => hsg nc (w64 (100 + t.op.tower))
 rw [hdec] at hs1
 have hj := fun nc => jkeyW_spec nc t.op.tower
 have hl := fun nc (q : nx ≤ nc) => lock_spec nc b tm hm x.towers x.holds (by omega) (by omega) (by omega) hlt.2.2.2.1 hlt.2.2.2.2 t.op.tower t.op.amount t.op.root
 refine FnSpec.of_code (cx := cx) (an := {}) (rs := [.tmp 8, .tmp 9, .tmp 10]) mo Tryz.func50 rfl rfl (by kernel_rfl) (by kernel_rfl) (by show 4 ≤ _; decide) (.inr ⟨_, rfl, by simp [AV.good]⟩) (by simp [allWr, keys, Res.wr]) ?_
 repeat' (first | omega | assumption | (show AL.ahead _ _ _ = true; rfl) | (first | apply brF | apply brT | apply brVF | apply brVT) <;> intro _ | (with_reducible refine And.intro ?_ ?_) | (refine callK_by (hj _) ?_) | (refine callK_by (hs1 _) ?_) | (refine callK_by (hl _ (by omega)) ?_) | (simp -dsimp -implicitDefEqProofs only [go_sem, oA_p2, oA_off2, opT, hk, xf, yf, x0, x1, x2, z1, z2, z3, z4, z5, z6, z7, z8, z9, z10, z11, z12]))
 all_goals rfl
theorem eff_ask (t : Tx_) (h : Int) (x : LS) (hT : TxOk t) (hk : t.op.kind = 4) (hs : twS t) : EffSpec t h x 0 0 (askF t.op.tower t.op.amount h x.towers x.holds).1 (askF t.op.tower t.op.amount h x.towers x.holds).2 x.holds := by
 intro nx n b tm hm hn hb ht hh hlt
 have xf := hn.xf
 have yf := hn.nf
 have x0 := ltF hb
 have x1 := ltF ht
 have x2 := ltF hh
 have z1 := neF (show tm ≠ hm by omega)
 have z2 := neF (show b ≠ hm by omega)
 have z3 := neF (show b ≠ tm by omega)
 have z4 := neF (show n.l ≠ b by omega)
 have z5 := neF (show n.l ≠ tm by omega)
 have z6 := neF (show n.l ≠ hm by omega)
 have z7 := neF (show n.d ≠ b by omega)
 have z8 := neF (show n.d ≠ tm by omega)
 have z9 := neF (show n.d ≠ hm by omega)
 have z10 := neF (show n.s ≠ b by omega)
 have z11 := neF (show n.s ≠ tm by omega)
 have z12 := neF (show n.s ≠ hm by omega)
 have hsg := fun nc k => sgn_spec nc t k hT
 have hdec : decide (w64 (100 + t.op.tower) ∈ keysF t t.signs) = true := decide_eq_true hs
 have hs1 := fun nc => hsg nc (w64 (100 + t.op.tower))
 rw [hdec] at hs1
 have hj := fun nc => jkeyW_spec nc t.op.tower
 have hl := fun nc (q : nx ≤ nc) => ask_spec nc b tm hm x.towers x.holds (by omega) (by omega) (by omega) hlt.2.2.2.1 hlt.2.2.2.2 t.op.tower t.op.amount h
 refine FnSpec.of_code (cx := cx) (an := {}) (rs := [.tmp 8, .tmp 9, .tmp 10]) mo Tryz.func50 rfl rfl (by kernel_rfl) (by kernel_rfl) (by show 4 ≤ _; decide) (.inr ⟨_, rfl, by simp [AV.good]⟩) (by simp [allWr, keys, Res.wr]) ?_
 repeat' (first | omega | assumption | (show AL.ahead _ _ _ = true; rfl) | (first | apply brF | apply brT | apply brVF | apply brVT) <;> intro _ | (with_reducible refine And.intro ?_ ?_) | (refine callK_by (hj _) ?_) | (refine callK_by (hs1 _) ?_) | (refine callK_by (hl _ (by omega)) ?_) | (simp -dsimp -implicitDefEqProofs only [go_sem, oA_p2, oA_off2, opT, hk, xf, yf, x0, x1, x2, z1, z2, z3, z4, z5, z6, z7, z8, z9, z10, z11, z12]))
 all_goals rfl
theorem eff_take (t : Tx_) (h : Int) (x : LS) (hT : TxOk t) (hk : t.op.kind = 5) (hs : twS t) : EffSpec t h x 0 (takeF t.op.tower h x.towers).1.1 (takeF t.op.tower h x.towers).1.2 (takeF t.op.tower h x.towers).2 x.holds := by
 intro nx n b tm hm hn hb ht hh hlt
 have xf := hn.xf
 have yf := hn.nf
 have x0 := ltF hb
 have x1 := ltF ht
 have x2 := ltF hh
 have z1 := neF (show tm ≠ hm by omega)
 have z2 := neF (show b ≠ hm by omega)
 have z3 := neF (show b ≠ tm by omega)
 have z4 := neF (show n.l ≠ b by omega)
 have z5 := neF (show n.l ≠ tm by omega)
 have z6 := neF (show n.l ≠ hm by omega)
 have z7 := neF (show n.d ≠ b by omega)
 have z8 := neF (show n.d ≠ tm by omega)
 have z9 := neF (show n.d ≠ hm by omega)
 have z10 := neF (show n.s ≠ b by omega)
 have z11 := neF (show n.s ≠ tm by omega)
 have z12 := neF (show n.s ≠ hm by omega)
 have hsg := fun nc k => sgn_spec nc t k hT
 have hdec : decide (w64 (100 + t.op.tower) ∈ keysF t t.signs) = true := decide_eq_true hs
 have hs1 := fun nc => hsg nc (w64 (100 + t.op.tower))
 rw [hdec] at hs1
 have hj := fun nc => jkeyW_spec nc t.op.tower
 have hl := fun nc (q : nx ≤ nc) => take_spec nc b tm hm x.towers x.holds (by omega) (by omega) (by omega) hlt.2.2.2.1 hlt.2.2.2.2 t.op.tower h
 refine FnSpec.of_code (cx := cx) (an := {}) (rs := [.tmp 8, .tmp 9, .tmp 10]) mo Tryz.func50 rfl rfl (by kernel_rfl) (by kernel_rfl) (by show 4 ≤ _; decide) (.inr ⟨_, rfl, by simp [AV.good]⟩) (by simp [allWr, keys, Res.wr]) ?_
 repeat' (first | omega | assumption | (show AL.ahead _ _ _ = true; rfl) | (first | apply brF | apply brT | apply brVF | apply brVT) <;> intro _ | (with_reducible refine And.intro ?_ ?_) | (refine callK_by (hj _) ?_) | (refine callK_by (hs1 _) ?_) | (refine callK_by (hl _ (by omega)) ?_) | (simp -dsimp -implicitDefEqProofs only [go_sem, oA_p2, oA_off2, opT, hk, xf, yf, x0, x1, x2, z1, z2, z3, z4, z5, z6, z7, z8, z9, z10, z11, z12]))
 all_goals rfl
theorem eff_hold1 (t : Tx_) (h : Int) (x : LS) (hT : TxOk t) (hk : t.op.kind = 2) (hs : twS t) (he : (rdC t.op.data).2 ≠ 0) : EffSpec t h x 0 0 (rdC t.op.data).2 x.towers x.holds := by
 intro nx n b tm hm hn hb ht hh hlt
 have xf := hn.xf
 have yf := hn.nf
 have x0 := ltF hb
 have x1 := ltF ht
 have x2 := ltF hh
 have z1 := neF (show tm ≠ hm by omega)
 have z2 := neF (show b ≠ hm by omega)
 have z3 := neF (show b ≠ tm by omega)
 have z4 := neF (show n.l ≠ b by omega)
 have z5 := neF (show n.l ≠ tm by omega)
 have z6 := neF (show n.l ≠ hm by omega)
 have z7 := neF (show n.d ≠ b by omega)
 have z8 := neF (show n.d ≠ tm by omega)
 have z9 := neF (show n.d ≠ hm by omega)
 have z10 := neF (show n.s ≠ b by omega)
 have z11 := neF (show n.s ≠ tm by omega)
 have z12 := neF (show n.s ≠ hm by omega)
 have hsg := fun nc k => sgn_spec nc t k hT
 have hdec : decide (w64 (100 + t.op.tower) ∈ keysF t t.signs) = true := decide_eq_true hs
 have hs1 := fun nc => hsg nc (w64 (100 + t.op.tower))
 rw [hdec] at hs1
 have hj := fun nc => jkeyW_spec nc t.op.tower
 obtain ⟨R, hR⟩ : ∃ R, R = rdC t.op.data := ⟨_, rfl⟩
 have hrd := fun nc => rchan_spec nc t.op.data hT.l.2.1
 rw [← hR] at hrd
 rw [← hR] at he
 simp only [chanA, refA] at hrd
 rw [← hR]
 refine FnSpec.of_code (cx := cx) (an := {}) (rs := [.tmp 8, .tmp 9, .tmp 10]) mo Tryz.func50 rfl rfl (by kernel_rfl) (by kernel_rfl) (by show 4 ≤ _; decide) (.inr ⟨_, rfl, by simp [AV.good]⟩) (by simp [allWr, keys, Res.wr]) ?_
 repeat' (first | omega | assumption | (show AL.ahead _ _ _ = true; rfl) | (first | apply brF | apply brT | apply brVF | apply brVT) <;> intro _ | (with_reducible refine And.intro ?_ ?_) | (refine callK_by (hj _) ?_) | (refine callK_by (hs1 _) ?_) | (refine callK_by (hrd _) ?_) | (simp -dsimp -implicitDefEqProofs only [go_sem, oA_p2, oA_off2, opT, hk, xf, yf, x0, x1, x2, z1, z2, z3, z4, z5, z6, z7, z8, z9, z10, z11, z12, he]))
 all_goals rfl
theorem eff_hold2 (t : Tx_) (h : Int) (x : LS) (hT : TxOk t) (hk : t.op.kind = 2) (hs : twS t) (he : (rdC t.op.data).2 = 0) (hi : (rdC t.op.data).1.id ≠ t.op.channel) : EffSpec t h x 0 0 1 x.towers x.holds := by
 intro nx n b tm hm hn hb ht hh hlt
 have xf := hn.xf
 have yf := hn.nf
 have x0 := ltF hb
 have x1 := ltF ht
 have x2 := ltF hh
 have z1 := neF (show tm ≠ hm by omega)
 have z2 := neF (show b ≠ hm by omega)
 have z3 := neF (show b ≠ tm by omega)
 have z4 := neF (show n.l ≠ b by omega)
 have z5 := neF (show n.l ≠ tm by omega)
 have z6 := neF (show n.l ≠ hm by omega)
 have z7 := neF (show n.d ≠ b by omega)
 have z8 := neF (show n.d ≠ tm by omega)
 have z9 := neF (show n.d ≠ hm by omega)
 have z10 := neF (show n.s ≠ b by omega)
 have z11 := neF (show n.s ≠ tm by omega)
 have z12 := neF (show n.s ≠ hm by omega)
 have hsg := fun nc k => sgn_spec nc t k hT
 have hdec : decide (w64 (100 + t.op.tower) ∈ keysF t t.signs) = true := decide_eq_true hs
 have hs1 := fun nc => hsg nc (w64 (100 + t.op.tower))
 rw [hdec] at hs1
 have hj := fun nc => jkeyW_spec nc t.op.tower
 obtain ⟨R, hR⟩ : ∃ R, R = rdC t.op.data := ⟨_, rfl⟩
 have hrd := fun nc => rchan_spec nc t.op.data hT.l.2.1
 rw [← hR] at hrd
 rw [← hR] at he
 simp only [chanA, refA] at hrd
 rw [← hR] at hi
 rw [he] at hrd
 refine FnSpec.of_code (cx := cx) (an := {}) (rs := [.tmp 8, .tmp 9, .tmp 10]) mo Tryz.func50 rfl rfl (by kernel_rfl) (by kernel_rfl) (by show 4 ≤ _; decide) (.inr ⟨_, rfl, by simp [AV.good]⟩) (by simp [allWr, keys, Res.wr]) ?_
 repeat' (first | omega | assumption | (show AL.ahead _ _ _ = true; rfl) | (first | apply brF | apply brT | apply brVF | apply brVT) <;> intro _ | (with_reducible refine And.intro ?_ ?_) | (refine callK_by (hj _) ?_) | (refine callK_by (hs1 _) ?_) | (refine callK_by (hrd _) ?_) | (simp -dsimp -implicitDefEqProofs only [go_sem, oA_p2, oA_off2, opT, hk, xf, yf, x0, x1, x2, z1, z2, z3, z4, z5, z6, z7, z8, z9, z10, z11, z12, hi]))
 all_goals rfl
theorem eff_hold3 (t : Tx_) (h : Int) (x : LS) (hT : TxOk t) (hk : t.op.kind = 2) (hs : twS t) (he : (rdC t.op.data).2 = 0) (hi : (rdC t.op.data).1.id = t.op.channel) : EffSpec t h x 0 0 (holdF t.op.tower (rdC t.op.data).1 x.towers x.holds).1 x.towers (holdF t.op.tower (rdC t.op.data).1 x.towers x.holds).2 := by
 intro nx n b tm hm hn hb ht hh hlt
 have xf := hn.xf
 have yf := hn.nf
 have x0 := ltF hb
 have x1 := ltF ht
 have x2 := ltF hh
 have z1 := neF (show tm ≠ hm by omega)
 have z2 := neF (show b ≠ hm by omega)
 have z3 := neF (show b ≠ tm by omega)
 have z4 := neF (show n.l ≠ b by omega)
 have z5 := neF (show n.l ≠ tm by omega)
 have z6 := neF (show n.l ≠ hm by omega)
 have z7 := neF (show n.d ≠ b by omega)
 have z8 := neF (show n.d ≠ tm by omega)
 have z9 := neF (show n.d ≠ hm by omega)
 have z10 := neF (show n.s ≠ b by omega)
 have z11 := neF (show n.s ≠ tm by omega)
 have z12 := neF (show n.s ≠ hm by omega)
 have hsg := fun nc k => sgn_spec nc t k hT
 have hdec : decide (w64 (100 + t.op.tower) ∈ keysF t t.signs) = true := decide_eq_true hs
 have hs1 := fun nc => hsg nc (w64 (100 + t.op.tower))
 rw [hdec] at hs1
 have hj := fun nc => jkeyW_spec nc t.op.tower
 obtain ⟨R, hR⟩ : ∃ R, R = rdC t.op.data := ⟨_, rfl⟩
 have hrd := fun nc => rchan_spec nc t.op.data hT.l.2.1
 rw [← hR] at hrd
 rw [← hR] at he
 simp only [chanA, refA] at hrd
 rw [← hR] at hi
 rw [← hR]
 rw [he] at hrd
 have hl := fun nc (q : nx ≤ nc) => hold_spec nc b tm hm x.towers x.holds (by omega) (by omega) (by omega) hlt.2.2.2.1 hlt.2.2.2.2 t.op.tower R.1
 simp only [chanA, refA, hi] at hl
 refine FnSpec.of_code (cx := cx) (an := {}) (rs := [.tmp 8, .tmp 9, .tmp 10]) mo Tryz.func50 rfl rfl (by kernel_rfl) (by kernel_rfl) (by show 4 ≤ _; decide) (.inr ⟨_, rfl, by simp [AV.good]⟩) (by simp [allWr, keys, Res.wr]) ?_
 repeat' (first | omega | assumption | (show AL.ahead _ _ _ = true; rfl) | (first | apply brF | apply brT | apply brVF | apply brVT) <;> intro _ | (with_reducible refine And.intro ?_ ?_) | (refine callK_by (hj _) ?_) | (refine callK_by (hs1 _) ?_) | (refine callK_by (hrd _) ?_) | (refine callK_by (hl _ (by omega)) ?_) | (simp -dsimp -implicitDefEqProofs only [go_sem, oA_p2, oA_off2, opT, hk, xf, yf, x0, x1, x2, z1, z2, z3, z4, z5, z6, z7, z8, z9, z10, z11, z12, hi]))
 all_goals rfl
noncomputable abbrev hdT (t : Tx_) (x : LS) : Hold_ := hdO t.op.tower t.op.channel x.holds
noncomputable def clS (t : Tx_) (x : LS) : Prop := (hdT t x).chan.client ∈ keysF t t.signs
theorem eff_noHold (t : Tx_) (h : Int) (x : LS) (hT : TxOk t) (hk : t.op.kind = 3 ∨ t.op.kind = 6 ∨ t.op.kind = 7) (hn0 : (lookM (t.op.tower, t.op.channel) x.holds).isSome = false) : EffSpec t h x 0 0 7 x.towers x.holds := by
 intro nx n b tm hm hn hb ht hh hlt
 have xf := hn.xf
 have yf := hn.nf
 have x0 := ltF hb
 have x1 := ltF ht
 have x2 := ltF hh
 have z1 := neF (show tm ≠ hm by omega)
 have z2 := neF (show b ≠ hm by omega)
 have z3 := neF (show b ≠ tm by omega)
 have z4 := neF (show n.l ≠ b by omega)
 have z5 := neF (show n.l ≠ tm by omega)
 have z6 := neF (show n.l ≠ hm by omega)
 have z7 := neF (show n.d ≠ b by omega)
 have z8 := neF (show n.d ≠ tm by omega)
 have z9 := neF (show n.d ≠ hm by omega)
 have z10 := neF (show n.s ≠ b by omega)
 have z11 := neF (show n.s ≠ tm by omega)
 have z12 := neF (show n.s ≠ hm by omega)
 have hsg := fun nc k => sgn_spec nc t k hT
 have hho := fun nc (q1 : b < nc) (q2 : hm < nc) => bholds_spec nc b tm hm x.holds t.op.tower t.op.channel q1 q2 (by omega)
 simp only [optH_eq] at hho
 rcases hk with hk | hk | hk
 ·refine FnSpec.of_code (cx := cx) (an := {}) (rs := [.tmp 8, .tmp 9, .tmp 10]) mo Tryz.func50 rfl rfl (by kernel_rfl) (by kernel_rfl) (by show 4 ≤ _; decide) (.inr ⟨_, rfl, by simp [AV.good]⟩) (by simp [allWr, keys, Res.wr]) ?_
  repeat' (first | omega | assumption | (show AL.ahead _ _ _ = true; rfl) | (first | apply brF | apply brT | apply brVF | apply brVT) <;> intro _ | (with_reducible refine And.intro ?_ ?_) | (refine callK_by (hho _ (by omega) (by omega)) ?_) | (simp -dsimp -implicitDefEqProofs only [go_sem, oA_p2, oA_off2, opT, hk, xf, yf, x0, x1, x2, z1, z2, z3, z4, z5, z6, z7, z8, z9, z10, z11, z12, holdA, chanA, refA, hn0]))
  all_goals rfl
 ·refine FnSpec.of_code (cx := cx) (an := {}) (rs := [.tmp 8, .tmp 9, .tmp 10]) mo Tryz.func50 rfl rfl (by kernel_rfl) (by kernel_rfl) (by show 4 ≤ _; decide) (.inr ⟨_, rfl, by simp [AV.good]⟩) (by simp [allWr, keys, Res.wr]) ?_
  repeat' (first | omega | assumption | (show AL.ahead _ _ _ = true; rfl) | (first | apply brF | apply brT | apply brVF | apply brVT) <;> intro _ | (with_reducible refine And.intro ?_ ?_) | (refine callK_by (hho _ (by omega) (by omega)) ?_) | (simp -dsimp -implicitDefEqProofs only [go_sem, oA_p2, oA_off2, opT, hk, xf, yf, x0, x1, x2, z1, z2, z3, z4, z5, z6, z7, z8, z9, z10, z11, z12, holdA, chanA, refA, hn0]))
  all_goals rfl
 ·refine FnSpec.of_code (cx := cx) (an := {}) (rs := [.tmp 8, .tmp 9, .tmp 10]) mo Tryz.func50 rfl rfl (by kernel_rfl) (by kernel_rfl) (by show 4 ≤ _; decide) (.inr ⟨_, rfl, by simp [AV.good]⟩) (by simp [allWr, keys, Res.wr]) ?_
  repeat' (first | omega | assumption | (show AL.ahead _ _ _ = true; rfl) | (first | apply brF | apply brT | apply brVF | apply brVT) <;> intro _ | (with_reducible refine And.intro ?_ ?_) | (refine callK_by (hho _ (by omega) (by omega)) ?_) | (simp -dsimp -implicitDefEqProofs only [go_sem, oA_p2, oA_off2, opT, hk, xf, yf, x0, x1, x2, z1, z2, z3, z4, z5, z6, z7, z8, z9, z10, z11, z12, holdA, chanA, refA, hn0]))
  all_goals rfl
theorem eff_noClient (t : Tx_) (h : Int) (x : LS) (hT : TxOk t) (hk : t.op.kind = 3 ∨ t.op.kind = 6 ∨ t.op.kind = 7) (hn0 : (lookM (t.op.tower, t.op.channel) x.holds).isSome = true) (hs : ¬ clS t x) : EffSpec t h x 0 0 11 x.towers x.holds := by
 intro nx n b tm hm hn hb ht hh hlt
 have xf := hn.xf
 have yf := hn.nf
 have x0 := ltF hb
 have x1 := ltF ht
 have x2 := ltF hh
 have z1 := neF (show tm ≠ hm by omega)
 have z2 := neF (show b ≠ hm by omega)
 have z3 := neF (show b ≠ tm by omega)
 have z4 := neF (show n.l ≠ b by omega)
 have z5 := neF (show n.l ≠ tm by omega)
 have z6 := neF (show n.l ≠ hm by omega)
 have z7 := neF (show n.d ≠ b by omega)
 have z8 := neF (show n.d ≠ tm by omega)
 have z9 := neF (show n.d ≠ hm by omega)
 have z10 := neF (show n.s ≠ b by omega)
 have z11 := neF (show n.s ≠ tm by omega)
 have z12 := neF (show n.s ≠ hm by omega)
 have hsg := fun nc k => sgn_spec nc t k hT
 have hho := fun nc (q1 : b < nc) (q2 : hm < nc) => bholds_spec nc b tm hm x.holds t.op.tower t.op.channel q1 q2 (by omega)
 simp only [optH_eq] at hho
 have hdec : decide ((hdT t x).chan.client ∈ keysF t t.signs) = false := decide_eq_false hs
 have hs1 := fun nc => hsg nc (hdT t x).chan.client
 rw [hdec] at hs1
 rcases hk with hk | hk | hk
 ·refine FnSpec.of_code (cx := cx) (an := {}) (rs := [.tmp 8, .tmp 9, .tmp 10]) mo Tryz.func50 rfl rfl (by kernel_rfl) (by kernel_rfl) (by show 4 ≤ _; decide) (.inr ⟨_, rfl, by simp [AV.good]⟩) (by simp [allWr, keys, Res.wr]) ?_
  repeat' (first | omega | assumption | (show AL.ahead _ _ _ = true; rfl) | (first | apply brF | apply brT | apply brVF | apply brVT) <;> intro _ | (with_reducible refine And.intro ?_ ?_) | (refine callK_by (hho _ (by omega) (by omega)) ?_) | (refine callK_by (hs1 _) ?_) | (simp -dsimp -implicitDefEqProofs only [go_sem, oA_p2, oA_off2, opT, hk, xf, yf, x0, x1, x2, z1, z2, z3, z4, z5, z6, z7, z8, z9, z10, z11, z12, holdA, chanA, refA, hn0]))
  all_goals rfl
 ·refine FnSpec.of_code (cx := cx) (an := {}) (rs := [.tmp 8, .tmp 9, .tmp 10]) mo Tryz.func50 rfl rfl (by kernel_rfl) (by kernel_rfl) (by show 4 ≤ _; decide) (.inr ⟨_, rfl, by simp [AV.good]⟩) (by simp [allWr, keys, Res.wr]) ?_
  repeat' (first | omega | assumption | (show AL.ahead _ _ _ = true; rfl) | (first | apply brF | apply brT | apply brVF | apply brVT) <;> intro _ | (with_reducible refine And.intro ?_ ?_) | (refine callK_by (hho _ (by omega) (by omega)) ?_) | (refine callK_by (hs1 _) ?_) | (simp -dsimp -implicitDefEqProofs only [go_sem, oA_p2, oA_off2, opT, hk, xf, yf, x0, x1, x2, z1, z2, z3, z4, z5, z6, z7, z8, z9, z10, z11, z12, holdA, chanA, refA, hn0]))
  all_goals rfl
 ·refine FnSpec.of_code (cx := cx) (an := {}) (rs := [.tmp 8, .tmp 9, .tmp 10]) mo Tryz.func50 rfl rfl (by kernel_rfl) (by kernel_rfl) (by show 4 ≤ _; decide) (.inr ⟨_, rfl, by simp [AV.good]⟩) (by simp [allWr, keys, Res.wr]) ?_
  repeat' (first | omega | assumption | (show AL.ahead _ _ _ = true; rfl) | (first | apply brF | apply brT | apply brVF | apply brVT) <;> intro _ | (with_reducible refine And.intro ?_ ?_) | (refine callK_by (hho _ (by omega) (by omega)) ?_) | (refine callK_by (hs1 _) ?_) | (simp -dsimp -implicitDefEqProofs only [go_sem, oA_p2, oA_off2, opT, hk, xf, yf, x0, x1, x2, z1, z2, z3, z4, z5, z6, z7, z8, z9, z10, z11, z12, holdA, chanA, refA, hn0]))
  all_goals rfl
theorem eff_free (t : Tx_) (h : Int) (x : LS) (hT : TxOk t) (hk : t.op.kind = 3) (hn0 : (lookM (t.op.tower, t.op.channel) x.holds).isSome = true) (hs : clS t x) : EffSpec t h x 0 0 (letF t.op.tower t.op.channel x.holds).1 x.towers (letF t.op.tower t.op.channel x.holds).2 := by
 intro nx n b tm hm hn hb ht hh hlt
 have xf := hn.xf
 have yf := hn.nf
 have x0 := ltF hb
 have x1 := ltF ht
 have x2 := ltF hh
 have z1 := neF (show tm ≠ hm by omega)
 have z2 := neF (show b ≠ hm by omega)
 have z3 := neF (show b ≠ tm by omega)
 have z4 := neF (show n.l ≠ b by omega)
 have z5 := neF (show n.l ≠ tm by omega)
 have z6 := neF (show n.l ≠ hm by omega)
 have z7 := neF (show n.d ≠ b by omega)
 have z8 := neF (show n.d ≠ tm by omega)
 have z9 := neF (show n.d ≠ hm by omega)
 have z10 := neF (show n.s ≠ b by omega)
 have z11 := neF (show n.s ≠ tm by omega)
 have z12 := neF (show n.s ≠ hm by omega)
 have hsg := fun nc k => sgn_spec nc t k hT
 have hho := fun nc (q1 : b < nc) (q2 : hm < nc) => bholds_spec nc b tm hm x.holds t.op.tower t.op.channel q1 q2 (by omega)
 simp only [optH_eq] at hho
 have hdec : decide ((hdT t x).chan.client ∈ keysF t t.signs) = true := decide_eq_true hs
 have hs1 := fun nc => hsg nc (hdT t x).chan.client
 rw [hdec] at hs1
 have hl := fun nc (q : nx ≤ nc) => let_spec nc b tm hm x.towers x.holds (by omega) (by omega) (by omega) hlt.2.2.2.1 hlt.2.2.2.2 t.op.tower t.op.channel
 refine FnSpec.of_code (cx := cx) (an := {}) (rs := [.tmp 8, .tmp 9, .tmp 10]) mo Tryz.func50 rfl rfl (by kernel_rfl) (by kernel_rfl) (by show 4 ≤ _; decide) (.inr ⟨_, rfl, by simp [AV.good]⟩) (by simp [allWr, keys, Res.wr]) ?_
 repeat' (first | omega | assumption | (show AL.ahead _ _ _ = true; rfl) | (first | apply brF | apply brT | apply brVF | apply brVT) <;> intro _ | (with_reducible refine And.intro ?_ ?_) | (refine callK_by (hho _ (by omega) (by omega)) ?_) | (refine callK_by (hs1 _) ?_) | (refine callK_by (hl _ (by omega)) ?_) | (simp -dsimp -implicitDefEqProofs only [go_sem, oA_p2, oA_off2, opT, hk, xf, yf, x0, x1, x2, z1, z2, z3, z4, z5, z6, z7, z8, z9, z10, z11, z12, holdA, chanA, refA, hn0]))
 all_goals rfl
theorem eff_settle (t : Tx_) (h : Int) (x : LS) (hT : TxOk t) (hk : t.op.kind = 7) (hn0 : (lookM (t.op.tower, t.op.channel) x.holds).isSome = true) (hs : clS t x) : EffSpec t h x 0 (setlF t h x.towers x.holds).1 (setlF t h x.towers x.holds).2 (settleF t.op.tower t.op.channel h x.towers x.holds).2.1 (settleF t.op.tower t.op.channel h x.towers x.holds).2.2 := by
 intro nx n b tm hm hn hb ht hh hlt
 have xf := hn.xf
 have yf := hn.nf
 have x0 := ltF hb
 have x1 := ltF ht
 have x2 := ltF hh
 have z1 := neF (show tm ≠ hm by omega)
 have z2 := neF (show b ≠ hm by omega)
 have z3 := neF (show b ≠ tm by omega)
 have z4 := neF (show n.l ≠ b by omega)
 have z5 := neF (show n.l ≠ tm by omega)
 have z6 := neF (show n.l ≠ hm by omega)
 have z7 := neF (show n.d ≠ b by omega)
 have z8 := neF (show n.d ≠ tm by omega)
 have z9 := neF (show n.d ≠ hm by omega)
 have z10 := neF (show n.s ≠ b by omega)
 have z11 := neF (show n.s ≠ tm by omega)
 have z12 := neF (show n.s ≠ hm by omega)
 have hsg := fun nc k => sgn_spec nc t k hT
 have hho := fun nc (q1 : b < nc) (q2 : hm < nc) => bholds_spec nc b tm hm x.holds t.op.tower t.op.channel q1 q2 (by omega)
 simp only [optH_eq] at hho
 have hdec : decide ((hdT t x).chan.client ∈ keysF t t.signs) = true := decide_eq_true hs
 have hs1 := fun nc => hsg nc (hdT t x).chan.client
 rw [hdec] at hs1
 have hl := fun nc (q : nx ≤ nc) => setl_spec nc n.l b tm hm x.towers x.holds (hn.up q).l (by omega) (by omega) (by omega) hlt.2.2.2.1 hlt.2.2.2.2 t h hT.l.2.2.2.1 hT.l.2.2.2.2.2
 refine FnSpec.of_code (cx := cx) (an := {}) (rs := [.tmp 8, .tmp 9, .tmp 10]) mo Tryz.func50 rfl rfl (by kernel_rfl) (by kernel_rfl) (by show 4 ≤ _; decide) (.inr ⟨_, rfl, by simp [AV.good]⟩) (by simp [allWr, keys, Res.wr]) ?_
 repeat' (first | omega | assumption | (show AL.ahead _ _ _ = true; rfl) | (first | apply brF | apply brT | apply brVF | apply brVT) <;> intro _ | (with_reducible refine And.intro ?_ ?_) | (refine callK_by (hho _ (by omega) (by omega)) ?_) | (refine callK_by (hs1 _) ?_) | (refine callK_by (hl _ (by omega)) ?_) | (simp -dsimp -implicitDefEqProofs only [go_sem, oA_p2, oA_off2, opT, hk, xf, yf, x0, x1, x2, z1, z2, z3, z4, z5, z6, z7, z8, z9, z10, z11, z12, holdA, chanA, refA, hn0]))
 all_goals rfl
def PrvSpec (t : Tx_) (h : Int) (x : LS) (e : Int) (hs : List ((Int × Int) × Hold_)) : Prop :=
 ∀ nx n b tm hm, n.ok nx → b < nx → tm < nx → hm < nx → n.l < b ∧ n.d < b ∧ n.s < b ∧ b < tm ∧ tm < hm →
  FnSpec Tryz.prog 107 nx [.ref n.l 0 [], .ref b 0 [], txA t, n64 h] (effH n x b tm hm) (n64 e) [(tm, some (.mp (towsE x.towers))), (hm, some (.mp (holdsE hs)))] 0
theorem eff_prove (t : Tx_) (h : Int) (x : LS) (hT : TxOk t) (hk : t.op.kind = 6) (hn0 : (lookM (t.op.tower, t.op.channel) x.holds).isSome = true) (hs : clS t x) (e : Int) (hs2 : List ((Int × Int) × Hold_)) (hP : PrvSpec t h x e hs2) : EffSpec t h x 0 0 e x.towers hs2 := by
 intro nx n b tm hm hn hb ht hh hlt
 have xf := hn.xf
 have yf := hn.nf
 have x0 := ltF hb
 have x1 := ltF ht
 have x2 := ltF hh
 have z1 := neF (show tm ≠ hm by omega)
 have z2 := neF (show b ≠ hm by omega)
 have z3 := neF (show b ≠ tm by omega)
 have z4 := neF (show n.l ≠ b by omega)
 have z5 := neF (show n.l ≠ tm by omega)
 have z6 := neF (show n.l ≠ hm by omega)
 have z7 := neF (show n.d ≠ b by omega)
 have z8 := neF (show n.d ≠ tm by omega)
 have z9 := neF (show n.d ≠ hm by omega)
 have z10 := neF (show n.s ≠ b by omega)
 have z11 := neF (show n.s ≠ tm by omega)
 have z12 := neF (show n.s ≠ hm by omega)
 have hsg := fun nc k => sgn_spec nc t k hT
 have hho := fun nc (q1 : b < nc) (q2 : hm < nc) => bholds_spec nc b tm hm x.holds t.op.tower t.op.channel q1 q2 (by omega)
 simp only [optH_eq] at hho
 have hdec : decide ((hdT t x).chan.client ∈ keysF t t.signs) = true := decide_eq_true hs
 have hs1 := fun nc => hsg nc (hdT t x).chan.client
 rw [hdec] at hs1
 have hl := fun nc (q : nx ≤ nc) => hP nc n b tm hm (hn.up q) (by omega) (by omega) (by omega) hlt
 refine FnSpec.of_code (cx := cx) (an := {}) (rs := [.tmp 8, .tmp 9, .tmp 10]) mo Tryz.func50 rfl rfl (by kernel_rfl) (by kernel_rfl) (by show 4 ≤ _; decide) (.inr ⟨_, rfl, by simp [AV.good]⟩) (by simp [allWr, keys, Res.wr]) ?_
 repeat' (first | omega | assumption | (show AL.ahead _ _ _ = true; rfl) | (first | apply brF | apply brT | apply brVF | apply brVT) <;> intro _ | (with_reducible refine And.intro ?_ ?_) | (refine callK_by (hho _ (by omega) (by omega)) ?_) | (refine callK_by (hs1 _) ?_) | (refine callK_by (hl _ (by omega)) ?_) | (simp -dsimp -implicitDefEqProofs only [go_sem, oA_p2, oA_off2, opT, hk, xf, yf, x0, x1, x2, z1, z2, z3, z4, z5, z6, z7, z8, z9, z10, z11, z12, holdA, chanA, refA, hn0]))
 all_goals rfl
end Go.Proofs.YtaghcjbpjnpkbaaGreat

namespace Go.Proofs.YtaghcjbpjnpkbaaGreat
open Go Go.AL Go.Proofs.YtaghcjbpjnpkbaaGreat.T
section
variable {K V : Type} {kA : K → AV} {vA : V → AV}
end
end Go.Proofs.YtaghcjbpjnpkbaaGreat

namespace Go.Proofs.YtaghcjbpjnpkbaaGreat
open Go Go.AL Go.Proofs.YtaghcjbpjnpkbaaGreat.T
abbrev ledR (n : LN) (x : LS) : Heap := [(n.l, some (.robj (ledA n x))), (n.v, some (.robj (.agg 1 [.map n.vm]))), (n.vm, some (.rmp (coinsE x.coins))), (n.b, some (.robj (boardA n.tm n.hm))), (n.tm, some (.rmp (towsE x.towers))), (n.hm, some (.rmp (holdsE x.holds))), (n.d, some (.rmp (donesE x.done))), (n.s, some (.rmp (spentE x.spent)))]
end Go.Proofs.YtaghcjbpjnpkbaaGreat

namespace Go.Proofs.YtaghcjbpjnpkbaaGreat
open Go Go.AL Go.Proofs.YtaghcjbpjnpkbaaGreat.T
attribute [local go_sem] nb_u8s u8s_length nb_sum List.length_replicate zero_sum sum_h nb_vals vals_len u8s_nil txA_good txA_csz txA_agg nb_tx tA_len tA_p1 tA_off1 iA_p0 iA_off0 nb_ref refA_good refA_agg refA_csz sum_csz sum_agg sumA_good nbK_ref nbK_sum nbK_int nbK_pair nbV_coin nbV_done nbV_spend nbV_tow nbV_hold kk_ref k1_ref kk_sum k1_sum ins_len nb_ins outs_len nb_outs o_some o_none Option.getD_some Option.getD_none Option.isSome_some Option.isSome_none sums_len nb_sums
section
variable (nx : Nat) (n : LN) (x : LS) (t : Tx_) (h : Int)
theorem apArg_spec (hn : n.ok nx) (ht : TxOk t) (hb : txB t = false ∨ h < 0 ∨ 1073741824 < h) : FnSpec Tryz.prog 18 nx [.ref n.l 0 [], txA t, n64 h] (ledR n x) (n64 1) [] 0 := by
 have xf := hn.xf
 have yf := hn.nf
 have hlt := hn.lt
 have htb := fun nc => txR_spec nc t ht.l
 rcases Bool.eq_false_or_eq_true (txB t) with c | c
 ·rw [c] at htb
  by_cases c2 : h < 0
  ·refine FnSpec.of_code (cx := cx) (an := {}) (rs := [.tmp 6]) mo Tryz.func18 rfl rfl (by kernel_rfl) (by kernel_rfl) (by show 3 ≤ _; decide) (.inl rfl) (by simp [allWr, keys, Res.wr]) ?_
   repeat' (first | omega | assumption | (show AL.ahead _ _ _ = true; rfl) | (first | apply brF | apply brT | apply brVF | apply brVT) <;> intro _ | (with_reducible refine And.intro ?_ ?_) | (refine callK_by (lnone_spec _ n x (by omega)) ?_) | (refine callK_by (htb _) ?_) | (simp -dsimp -implicitDefEqProofs only [go_sem, xf, yf, c2]))
   all_goals rfl
  ·have c3 : 1073741824 < h := (hb.resolve_left (by rw [c]; decide)).resolve_left c2
   refine FnSpec.of_code (cx := cx) (an := {}) (rs := [.tmp 6]) mo Tryz.func18 rfl rfl (by kernel_rfl) (by kernel_rfl) (by show 3 ≤ _; decide) (.inl rfl) (by simp [allWr, keys, Res.wr]) ?_
   repeat' (first | omega | assumption | (show AL.ahead _ _ _ = true; rfl) | (first | apply brF | apply brT | apply brVF | apply brVT) <;> intro _ | (with_reducible refine And.intro ?_ ?_) | (refine callK_by (lnone_spec _ n x (by omega)) ?_) | (refine callK_by (htb _) ?_) | (simp -dsimp -implicitDefEqProofs only [go_sem, xf, yf, c2, c3, gt_iff_lt]))
   all_goals rfl
 ·rw [c] at htb
  refine FnSpec.of_code (cx := cx) (an := {}) (rs := [.tmp 6]) mo Tryz.func18 rfl rfl (by kernel_rfl) (by kernel_rfl) (by show 3 ≤ _; decide) (.inl rfl) (by simp [allWr, keys, Res.wr]) ?_
  repeat' (first | omega | assumption | (show AL.ahead _ _ _ = true; rfl) | (first | apply brF | apply brT | apply brVF | apply brVT) <;> intro _ | (with_reducible refine And.intro ?_ ?_) | (refine callK_by (lnone_spec _ n x (by omega)) ?_) | (refine callK_by (htb _) ?_) | (simp -dsimp -implicitDefEqProofs only [go_sem, xf, yf]))
  all_goals rfl
theorem apIns_spec (hn : n.ok nx) (ht : TxOk t) (hB : txB t = true) (h0 : 0 ≤ h) (h1 : h ≤ 1073741824) (hC : CoOk x.coins) (hd : lookM (txS t) x.done = none) (hI : (insF (keysF t t.signs) h x.coins 0 t.ins).2 ≠ 0) :
  FnSpec Tryz.prog 18 nx [.ref n.l 0 [], txA t, n64 h] (ledR n x) (n64 (insF (keysF t t.signs) h x.coins 0 t.ins).2) [] 0 := by
 have xf := hn.xf
 have yf := hn.nf
 have hlt := hn.lt
 have b1 := hn.ne.2.1.1
 have htb := fun nc => txR_spec nc t ht.l
 rw [hB] at htb
 have hsm := fun nc => txSum_spec nc t ht.b ht.k
 have hin := fun nc (q : nx ≤ nc) => ins_spec nc n x t h (hn.up q) ht.b ht.k ht.l.2.2.2.2.1 ht.l.2.2.1 (fun y hy => ⟨txB_way hB y hy, ht.p y hy⟩) (fun p hp => ⟨(hC p hp).1, fun w hw => Nat.lt_trans ((hC p hp).2 w hw) (by decide)⟩)
 obtain ⟨R, hR⟩ : ∃ R, R = insF (keysF t t.signs) h x.coins 0 t.ins := ⟨_, rfl⟩
 rw [← hR] at hin hI
 rw [← hR]
 have c2 : ¬ h < 0 := by omega
 have c3 : ¬ 1073741824 < h := by omega
 refine FnSpec.of_code (cx := cx) (an := {tk := [(76, [([], 1)])]}) (rs := [.tmp 6]) mo Tryz.func18 rfl rfl (by kernel_rfl) (by kernel_rfl) (by show 3 ≤ _; decide) (.inl rfl) (by simp [allWr, keys, Res.wr]) ?_
 repeat' (first | omega | assumption | (show AL.ahead _ _ _ = true; rfl) | (first | apply brF | apply brT | apply brVF | apply brVT) <;> intro _ | (with_reducible refine And.intro ?_ ?_) | (refine callK_by (lnone_spec _ n x (by omega)) ?_) | (refine callK_by (htb _) ?_) | (refine callK_by (hsm _) ?_) | (refine callK_by (hin _ (by omega)) ?_) | (simp -dsimp -implicitDefEqProofs only [go_sem, xf, yf, ledA, hd, c2, c3, hI, gt_iff_lt, lookA_enc sumA_inj]))
 all_goals rfl
theorem apEff_spec (hn : n.ok nx) (ht : TxOk t) (hB : txB t = true) (h0 : 0 ≤ h) (h1 : h ≤ 1073741824) (hC : CoOk x.coins) (hd : lookM (txS t) x.done = none) (have_ : Int) (hI : insF (keysF t t.signs) h x.coins 0 t.ins = (have_, 0)) (into from_ e : Int) (ts : List (Int × Tw_)) (hs : List ((Int × Int) × Hold_)) (hE : EffSpec t h x into from_ e ts hs) (he : e ≠ 0) :
  FnSpec Tryz.prog 18 nx [.ref n.l 0 [], txA t, n64 h] (ledR n x) (n64 e) [] 0 := by
 have xf := hn.xf
 have yf := hn.nf
 have hlt := hn.lt
 have b1 := hn.ne.2.1.1
 have htb := fun nc => txR_spec nc t ht.l
 rw [hB] at htb
 have hsm := fun nc => txSum_spec nc t ht.b ht.k
 have hcl := fun nc (q1 : n.b < nc) (q2 : n.tm < nc) (q3 : n.hm < nc) => bclone_spec nc n.b n.tm n.hm x.towers x.holds q1 q2 q3 hn.ne.2.2.2.1.1 hn.ne.2.2.2.1.2.1 hn.ne.2.2.2.2.1.1
 have hin := fun nc (q : nx ≤ nc) => ins_spec nc n x t h (hn.up q) ht.b ht.k ht.l.2.2.2.2.1 ht.l.2.2.1 (fun y hy => ⟨txB_way hB y hy, ht.p y hy⟩) (fun p hp => ⟨(hC p hp).1, fun w hw => Nat.lt_trans ((hC p hp).2 w hw) (by decide)⟩)
 rw [hI] at hin
 have hef := fun nc (q : nx + 700 ≤ nc) => hE nc n (nx + 520) (nx + 560) (nx + 600) (hn.up (by omega)) (by omega) (by omega) (by omega) ⟨by omega, by omega, by omega, by omega, by omega⟩
 have c2 : ¬ h < 0 := by omega
 have c3 : ¬ 1073741824 < h := by omega
 refine FnSpec.of_code (cx := cx) (an := {tk := [(76, [([], 1)])]}) (rs := [.tmp 6]) mo Tryz.func18 rfl rfl (by kernel_rfl) (by kernel_rfl) (by show 3 ≤ _; decide) (.inl rfl) (by simp [allWr, keys, Res.wr]) ?_
 repeat' (first | omega | assumption | (show AL.ahead _ _ _ = true; rfl) | (first | apply brF | apply brT | apply brVF | apply brVT) <;> intro _ | (with_reducible refine And.intro ?_ ?_) | (refine callK_by (lnone_spec _ n x (by omega)) ?_) | (refine callK_by (htb _) ?_) | (refine callK_by (hsm _) ?_) | (refine callK_by (hin _ (by omega)) ?_) | (refine callK_by (hcl _ (by omega) (by omega) (by omega)) ?_) | (refine callK_by (hef _ (by omega)) ?_) | (simp -dsimp -implicitDefEqProofs only [go_sem, xf, yf, ledA, hd, c2, c3, he, gt_iff_lt, lookA_enc sumA_inj]))
 all_goals rfl
theorem apAmt_spec (hn : n.ok nx) (ht : TxOk t) (hB : txB t = true) (h0 : 0 ≤ h) (h1 : h ≤ 1073741824) (hC : CoOk x.coins) (hd : lookM (txS t) x.done = none) (have_ : Int) (hI : insF (keysF t t.signs) h x.coins 0 t.ins = (have_, 0)) (into from_ : Int) (ts : List (Int × Tw_)) (hs : List ((Int × Int) × Hold_)) (hE : EffSpec t h x into from_ 0 ts hs) (hbad : (addF 0 [have_, from_]).2 ≠ 0 ∨ (subF (addF 0 [have_, from_]).1 (into :: amts t.outs)).2 ≠ 0) :
  FnSpec Tryz.prog 18 nx [.ref n.l 0 [], txA t, n64 h] (ledR n x) (n64 (if (addF 0 [have_, from_]).2 ≠ 0 then (addF 0 [have_, from_]).2 else (subF (addF 0 [have_, from_]).1 (into :: amts t.outs)).2)) [] 0 := by
 have xf := hn.xf
 have yf := hn.nf
 have hlt := hn.lt
 have b1 := hn.ne.2.1.1
 have htb := fun nc => txR_spec nc t ht.l
 rw [hB] at htb
 have hsm := fun nc => txSum_spec nc t ht.b ht.k
 have hcl := fun nc (q1 : n.b < nc) (q2 : n.tm < nc) (q3 : n.hm < nc) => bclone_spec nc n.b n.tm n.hm x.towers x.holds q1 q2 q3 hn.ne.2.2.2.1.1 hn.ne.2.2.2.1.2.1 hn.ne.2.2.2.2.1.1
 have hin := fun nc (q : nx ≤ nc) => ins_spec nc n x t h (hn.up q) ht.b ht.k ht.l.2.2.2.2.1 ht.l.2.2.1 (fun y hy => ⟨txB_way hB y hy, ht.p y hy⟩) (fun p hp => ⟨(hC p hp).1, fun w hw => Nat.lt_trans ((hC p hp).2 w hw) (by decide)⟩)
 rw [hI] at hin
 have hef := fun nc (q : nx + 700 ≤ nc) => hE nc n (nx + 520) (nx + 560) (nx + 600) (hn.up (by omega)) (by omega) (by omega) (by omega) ⟨by omega, by omega, by omega, by omega, by omega⟩
 have c2 : ¬ h < 0 := by omega
 have c3 : ¬ 1073741824 < h := by omega
 have hlen := ht.l.2.2.2.1
 have hol := (txB_P hB).2.1
 obtain ⟨A, hA⟩ : ∃ A, A = addF 0 [have_, from_] := ⟨_, rfl⟩
 rw [← hA] at hbad
 rw [← hA]
 obtain ⟨S, hS⟩ : ∃ S, S = subF A.1 (into :: amts t.outs) := ⟨_, rfl⟩
 rw [← hS] at hbad
 rw [← hS]
 refine FnSpec.of_code (cx := cx) (an := {tk := [(76, [([], 1)])]}) (rs := [.tmp 6]) mo Tryz.func18 rfl rfl (by kernel_rfl) (by kernel_rfl) (by show 3 ≤ _; decide) (.inl rfl) (by simp [allWr, keys, Res.wr]) ?_
 repeat' (first | omega | assumption | (show AL.ahead _ _ _ = true; rfl) | (first | apply brF | apply brT | apply brVF | apply brVT) <;> intro _ | (with_reducible refine And.intro ?_ ?_) | (refine callK_by (lnone_spec _ n x (by omega)) ?_) | (refine callK_by (htb _) ?_) | (refine callK_by (hsm _) ?_) | (refine callK_by (hin _ (by omega)) ?_) | (refine callK_by (hcl _ (by omega) (by omega) (by omega)) ?_) | (refine callK_by (hef _ (by omega)) ?_) | (simp -dsimp -implicitDefEqProofs only [go_sem, xf, yf, ledA, hd, c2, c3, gt_iff_lt, lookA_enc sumA_inj]))
 apply loop_keep [0, 2, 4, 7, 10, 12, 14, 78, 79] (fun p : { p : Nat // p ≤ t.outs.length } => [(15, .sl 1 (vals .i64 (into :: amts (t.outs.take p.1))) (nx + 831)), (80, n64 p.1)])
  (fun p => [(nx + 829, some (.tail (1 + p.1))), (nx + 520, some (.obj (boardA (nx + 560) (nx + 600)))), (nx + 560, some (.mp (towsE ts))), (nx + 600, some (.mp (holdsE hs))), (nx + 152, some (.obj (sumA (txS t)))), (n.l, some (.robj (ledA n x)))])
  (fun p => t.outs.length - p.1) ⟨0, Nat.zero_le _⟩
 ·simp -dsimp -implicitDefEqProofs only [go_sem]; try rfl
 ·simp -dsimp -implicitDefEqProofs only [go_sem]; try rfl
 ·simp -dsimp -implicitDefEqProofs only [go_sem, xf, yf, ledA]; try rfl
 ·intro s
  simp -dsimp -implicitDefEqProofs only [go_sem, ledA, boardA]
  try omega
 ·rintro ⟨i, hi⟩
  have hi : i ≤ t.outs.length := hi
  simp -dsimp -implicitDefEqProofs only [go_sem]
  refine brT (fun hc => ?_) (fun hc => ?_)
  ·have hi2 : i < t.outs.length := by omega
   have q1 := outs_get hi2
   have htk : t.outs.take (i + 1) = t.outs.take i ++ [t.outs[i]] := by rw [List.take_succ_eq_append_getElem hi2]
   have hva : vals .i64 (into :: amts (t.outs.take i)) ++ [n64 t.outs[i].amount] = vals .i64 (into :: amts (t.outs.take (i + 1))) := by rw [htk, amts_snoc]; simp [vals]
   have hln : (into :: amts (t.outs.take i)).length = 1 + i := by simp only [List.length_cons, amts_len, List.length_take]; omega
   have htn : 1 + i + 1 = 1 + (i + 1) := by omega
   generalize t.outs[i] = y at *
   have w1 : IntKind.i64.wrap ((i : Int) + 1) = ((i + 1 : Nat) : Int) := wrapE (by omega) (by omega)
   repeat' (first | omega | assumption | (show AL.ahead _ _ _ = true; rfl) | (first | apply brF | apply brT | apply brVF | apply brVT) <;> intro _ | (with_reducible refine And.intro ?_ ?_) | (simp -dsimp -implicitDefEqProofs only [go_sem, q1, w1, outA, hva, hln, htn, xf, yf, List.append_eq, List.cons_append, List.nil_append]))
   all_goals first
    | exact ⟨⟨i + 1, hi2⟩, by show t.outs.length - (i + 1) < t.outs.length - i; omega, ⟨rfl, rfl⟩, rfl⟩
    
  ·have e : t.outs.take i = t.outs := List.take_of_length_le (by omega)
   have had := fun nc => add_spec nc [have_, from_] (by simp)
   simp only [vals, List.map_cons, List.map_nil] at had
   rw [← hA] at had
   by_cases c : A.2 = 0
   ·have c4 : S.2 ≠ 0 := hbad.resolve_left (fun q => q c)
    have hsb := fun nc (q : nx + 829 < nc) => sub_spec nc (nx + 831) A.1 (into :: amts t.outs) (by simp only [List.length_cons, amts_len]; omega) (by omega)
    rw [← hS] at hsb
    rw [c] at had
    rw [if_neg (fun q => q c)]
    repeat' (first | omega | assumption | (show AL.ahead _ _ _ = true; rfl) | (first | apply brF | apply brT | apply brVF | apply brVT) <;> intro _ | (with_reducible refine And.intro ?_ ?_) | (refine callK_by (had _) ?_) | (refine callK_by (hsb _ (by omega)) ?_) | (simp -dsimp -implicitDefEqProofs only [go_sem, e, xf, yf, c4]))
    all_goals rfl
   ·rw [if_pos c]
    repeat' (first | omega | assumption | (show AL.ahead _ _ _ = true; rfl) | (first | apply brF | apply brT | apply brVF | apply brVT) <;> intro _ | (with_reducible refine And.intro ?_ ?_) | (refine callK_by (had _) ?_) | (simp -dsimp -implicitDefEqProofs only [go_sem, e, xf, yf, c]))
    all_goals rfl
end
end Go.Proofs.YtaghcjbpjnpkbaaGreat

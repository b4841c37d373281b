/-
  What holds of a book, whatever records came: the plain law behind ClaimOwed and ScanFails.
-/
import Derived.Test.YtjcnhgmaabkelaaBP55
import Derived.Test.YtjcnhgmaabkelaaBP42
import Derived.Test.YtjcnhgmaabkelaaAL24
import Derived.Test.YtjcnhgmaabkelaaRows
set_option linter.unusedSimpArgs false
set_option linter.unusedVariables false
set_option maxRecDepth 100000
set_option maxHeartbeats 1000000
namespace Go.Proofs.Ytjcnhgmaabkelaa
open Go Go.AL Go.Proofs.Ytjcnhgmaabkelaa.T
/-- A book behind so many records. -/
def okB (b : Bk) (i : Nat) : Prop := b.states.length ≤ i ∧ b.signs.length ≤ i ∧ b.taken.length ≤ i ∧ b.given ≤ i ∧ b.held.length ≤ i ∧
  (b.opened = false → b.states = [] ∧ b.signs = [] ∧ b.given = 0 ∧ b.taken = []) ∧ (b.opened = true → b.taken.length < b.states.length ∧ b.given ≤ b.taken.length)
theorem okB_bk {b : Bk} {i : Nat} (h : okB b i) (hi : i ≤ 1000) : bkL b := by
  obtain ⟨h1, h2, h3, h4, h5, h6, _⟩ := h
  exact ⟨by omega, by omega, by omega, by omega, by omega, fun h => ⟨(h6 h).1, (h6 h).2.1⟩⟩
theorem okB_mono {b : Bk} {i : Nat} (h : okB b i) : okB b (i + 1) := by
  obtain ⟨h1, h2, h3, h4, h5, h6, h7⟩ := h
  exact ⟨by omega, by omega, by omega, by omega, by omega, h6, h7⟩
theorem okB_zero : okB bk0 0 := ⟨Nat.le_refl _, Nat.le_refl _, Nat.le_refl _, Nat.le_refl _, Nat.le_refl _, fun _ => ⟨rfl, rfl, rfl, rfl⟩, fun h => by cases h⟩
theorem begin_ok {b : Bk} {i : Nat} (r : BR) (h : okB b i) : okB (beginB b r).1 (i + 1) := by
  unfold beginB
  split
  · exact okB_mono h
  · rename_i ho
    split
    · exact okB_mono h
    · obtain ⟨h1, h2, h3, h4, h5, h6, h7⟩ := h
      obtain ⟨e1, e2, e3, e4⟩ := h6 (by cases hh : b.opened with
        | true => exact absurd hh ho
        | false => rfl)
      refine ⟨by simp, by simp, by simp only; omega, by simp only; omega, by simp only; omega, fun h => by simp at h, fun _ => ⟨by simp [e4], by simp [e3]⟩⟩
theorem tower_ok {b : Bk} {i : Nat} (r : BR) (h : okB b i) : okB (towerB b r).1 (i + 1) := by
  unfold towerB
  split
  · exact okB_mono h
  · split
    · exact okB_mono h
    · exact okB_mono h
theorem state_ok {b : Bk} {i : Nat} (r : BR) (h : okB b i) (ho : b.opened = true) : okB (stateB b r).1 (i + 1) := by
  unfold stateB
  split
  · exact okB_mono h
  · split
    · exact okB_mono h
    · obtain ⟨h1, h2, h3, h4, h5, h6, h7⟩ := h
      obtain ⟨g1, g2⟩ := h7 ho
      refine ⟨by simp only [List.length_append, List.length_cons, List.length_nil]; omega, by simp only; omega, by simp only; omega, by simp only; omega, by simp only; omega, fun h => by simp [ho] at h, fun _ => ⟨by simp only [List.length_append, List.length_cons, List.length_nil]; omega, g2⟩⟩
theorem take_ok {b : Bk} {i : Nat} (r : BR) (h : okB b i) (ho : b.opened = true) : okB (takeB b r).1 (i + 1) := by
  unfold takeB
  split
  · exact okB_mono h
  · rename_i hne
    split
    · exact okB_mono h
    · obtain ⟨h1, h2, h3, h4, h5, h6, h7⟩ := h
      obtain ⟨g1, g2⟩ := h7 ho
      refine ⟨by simp only; omega, by simp only [List.length_append, List.length_cons, List.length_nil]; omega, by simp only [List.length_append, List.length_cons, List.length_nil]; omega, by simp only; omega, by simp only; omega, fun h => by simp [ho] at h, fun _ => ⟨by simp only [List.length_append, List.length_cons, List.length_nil]; omega, by simp only [List.length_append, List.length_cons, List.length_nil]; omega⟩⟩
theorem receipt_ok {b : Bk} {i : Nat} (r : BR) (h : okB b i) : okB (receiptB b r).1 (i + 1) := by
  unfold receiptB
  split
  · exact okB_mono h
  · split
    · exact okB_mono h
    · split
      · exact okB_mono h
      · split
        · exact okB_mono h
        · obtain ⟨h1, h2, h3, h4, h5, h6, h7⟩ := h
          exact ⟨by simp only; omega, by simp only; omega, by simp only; omega, by simp only; omega, by simp only [List.length_append, List.length_cons, List.length_nil]; omega, h6, h7⟩
theorem give_ok {b : Bk} {i : Nat} (h : okB b i) (ho : b.opened = true) : okB (giveB b).1 (i + 1) := by
  unfold giveB
  split
  · exact okB_mono h
  · rename_i hne
    split
    · exact okB_mono h
    · obtain ⟨h1, h2, h3, h4, h5, h6, h7⟩ := h
      obtain ⟨g1, g2⟩ := h7 ho
      have hlen : b.taken.length = b.given + 1 := Classical.byContradiction fun h => hne (.inr h)
      exact ⟨by simp only; omega, by simp only; omega, by simp only; omega, by simp only; omega, by simp only; omega, fun h => by simp [ho] at h, fun _ => ⟨g1, by simp only; omega⟩⟩
theorem apply_ok {b : Bk} {i : Nat} (r : BR) (h : okB b i) : okB (applyB b r).1 (i + 1) := by
  unfold applyB
  split
  · exact begin_ok r h
  · split
    · exact tower_ok r h
    · split
      · exact okB_mono h
      · rename_i ho
        have ho : b.opened = true := by cases hh : b.opened with
          | true => rfl
          | false => exact absurd hh ho
        split
        · exact state_ok r h ho
        · split
          · exact take_ok r h ho
          · split
            · exact receipt_ok r h
            · split
              · exact give_ok h ho
              · split
                · split
                  · exact okB_mono h
                  · obtain ⟨h1, h2, h3, h4, h5, h6, h7⟩ := okB_mono h
                    exact ⟨h1, h2, h3, h4, h5, h6, h7⟩
                · exact okB_mono h
/-- the book behind the first so many records -/
noncomputable def runB (l : List BR) (i : Nat) : Bk := (l.take i).foldl (fun b r => (applyB b r).1) bk0
theorem runB_zero (l : List BR) : runB l 0 = bk0 := by simp [runB]
theorem runB_succ {l : List BR} {i : Nat} (h : i < l.length) : runB l (i + 1) = (applyB (runB l i) l[i]).1 := by
  unfold runB
  rw [← List.take_append_getElem h, List.foldl_append]
  rfl
theorem runB_ok (l : List BR) : ∀ i, i ≤ l.length → okB (runB l i) i
  | 0, _ => by rw [runB_zero]; exact okB_zero
  | i + 1, h => by rw [runB_succ h]; exact apply_ok _ (runB_ok l i (by omega))
end Go.Proofs.Ytjcnhgmaabkelaa

/-
  The law ScanFails.
-/
set_option linter.unusedSimpArgs false
set_option linter.unusedVariables false
set_option maxRecDepth 100000
set_option maxHeartbeats 8000000
namespace Go.Proofs.Ytjcnhgmaabkelaa
open Go Go.AL Go.Proofs.Ytjcnhgmaabkelaa.T
attribute [local go_sem] nb_u8s u8s_length nb_sum sumA List.length_replicate zero_sum sum_h u8s_nil sums_len nb_sums states_len helds_len nb_states nb_helds signs_len nb_signs nb_keysT nb_valsT
def stsZ : Sts := ⟨false, -1, -1, zeroS, 0, 0, 0⟩
theorem look_nil (nx : Nat) : FnSpec Try.prog 35 nx [nilP, nilP] [] (stsA stsZ) [] 0 := by
  have hch := fun nc => bchan_nil nc
  simp only [chanA, refA, chanZ] at hch
  refine FnSpec.of_code (cx := cx) (an := {}) (rs := [.cell 4 56]) mo Try.func35 rfl rfl (by kernel_rfl) (by kernel_rfl) (by show 2 ≤ _; decide) (.inl rfl) (by simp [allWr, keys, Res.wr]) ?_
  repeat' (first | omega | assumption | (show AL.ahead _ _ _ = true; rfl) | refine brF (fun _ => ?_) (fun _ => ?_) | refine brT (fun _ => ?_) (fun _ => ?_) | refine brVF (fun _ => ?_) (fun _ => ?_) | refine brVT (fun _ => ?_) (fun _ => ?_) | (with_reducible refine And.intro ?_ ?_) | (refine callK_by (hch _) ?_) | (simp -dsimp -implicitDefEqProofs only [go_sem, ↓reduceIte, Nat.reduceEqDiff, Nat.reduceAdd, Nat.reduceMul, Nat.reduceLeDiff, Nat.reduceLT, Nat.reduceBEq, Nat.reducePow, Int.reduceToNat, Int.reduceLE, Int.reduceLT, Int.reduceNeg, reduceCtorEq, Int.reduceEq, Int.reduceAdd, Int.reduceSub, Int.reduceMul, Nat.reduceSub, stsA, stsZ]))
  all_goals first | rfl | trace_state
theorem cheat_open (nx : Nat) (b : AV) (hb : b = nilP) : FnSpec Try.prog 20 nx [stsA stsZ, b] [] (bA false) [] 0 := by
  subst hb
  refine FnSpec.of_code (cx := cx) (an := {}) (rs := [.tmp 4]) mo Try.func20 rfl rfl (by kernel_rfl) (by kernel_rfl) (by show 2 ≤ _; decide) (.inl rfl) (by simp [allWr, keys, Res.wr]) ?_
  repeat' (first | omega | assumption | (show AL.ahead _ _ _ = true; rfl) | refine brF (fun _ => ?_) (fun _ => ?_) | refine brT (fun _ => ?_) (fun _ => ?_) | refine brVF (fun _ => ?_) (fun _ => ?_) | refine brVT (fun _ => ?_) (fun _ => ?_) | (with_reducible refine And.intro ?_ ?_) | (simp -dsimp -implicitDefEqProofs only [go_sem, ↓reduceIte, Nat.reduceEqDiff, Nat.reduceAdd, Nat.reduceMul, Nat.reduceLeDiff, Nat.reduceLT, Nat.reduceBEq, Nat.reducePow, Int.reduceToNat, Int.reduceLE, Int.reduceLT, Int.reduceNeg, reduceCtorEq, Int.reduceEq, Int.reduceAdd, Int.reduceSub, Int.reduceMul, Nat.reduceSub, stsA, stsZ]))
  all_goals trace_state
theorem sawake_spec (nx : Nat) : FnSpec Try.prog 16 nx [] [] (bA true) [] 0 := by
  have h1 := fun nc => look_nil nc
  have h2 := fun nc => cheat_open nc _ rfl
  simp only [stsA, stsZ] at h1 h2
  refine FnSpec.of_code (cx := cx) (an := {}) (rs := [.tmp 0]) mo Try.func16 rfl rfl (by kernel_rfl) (by kernel_rfl) (by show 0 ≤ _; decide) (.inl rfl) (by simp [allWr, keys, Res.wr]) ?_
  repeat' (first | omega | assumption | (show AL.ahead _ _ _ = true; rfl) | refine brF (fun _ => ?_) (fun _ => ?_) | refine brT (fun _ => ?_) (fun _ => ?_) | refine brVF (fun _ => ?_) (fun _ => ?_) | refine brVT (fun _ => ?_) (fun _ => ?_) | (with_reducible refine And.intro ?_ ?_) | (refine callK_by (h1 _) ?_) | (refine callK_by (h2 _) ?_) | (simp -dsimp -implicitDefEqProofs only [go_sem, ↓reduceIte, Nat.reduceEqDiff, Nat.reduceAdd, Nat.reduceMul, Nat.reduceLeDiff, Nat.reduceLT, Nat.reduceBEq, Nat.reducePow, Int.reduceToNat, Int.reduceLE, Int.reduceLT, Int.reduceNeg, reduceCtorEq, Int.reduceEq, Int.reduceAdd, Int.reduceSub, Int.reduceMul, Nat.reduceSub]))
  all_goals trace_state
theorem wneg : IntKind.i64.wrap (-1099511627776) = -1099511627776 := by decide
abbrev inB (x : Int) : Prop := -1099511627776 ≤ x ∧ x ≤ 1099511627776
theorem scanf_spec (nx : Nat) (l : List BR) (s : Sts) (w h : Int) : FnSpec Try.prog 4 nx [.sl 274 (brsA l) 0, stsA s, n64 w, n64 h] [] (bA true) [] 0 := by
  by_cases hsm : smallP l
  · by_cases hb : inB w ∧ inB h ∧ inB s.at_ ∧ inB s.when_
    · obtain ⟨hl, hall⟩ := id hsm
      obtain ⟨⟨b1, b2⟩, ⟨b3, b4⟩, ⟨b5, b6⟩, b7, b8⟩ := hb
      have hnb := fun b' => bkA_nb (N := nx + 456) (m := nx + 496) (by omega) b'
      refine FnSpec.of_code (cx := cx) (an := {}) (rs := [.tmp 8]) mo Try.func4 rfl rfl (by kernel_rfl) (by kernel_rfl) (by show 4 ≤ _; decide) (.inl rfl) (by simp [allWr, keys, Res.wr]) ?_
      repeat' (first | omega | assumption | (show AL.ahead _ _ _ = true; rfl) | refine brF (fun _ => ?_) (fun _ => ?_) | refine brT (fun _ => ?_) (fun _ => ?_) | refine brVF (fun _ => ?_) (fun _ => ?_) | refine brVT (fun _ => ?_) (fun _ => ?_) | (with_reducible refine And.intro ?_ ?_) | (refine callK_by (small_yes _ l hsm) ?_) | (refine callK_by (newbk_spec _) ?_) | (simp -dsimp -implicitDefEqProofs only [go_sem, ↓reduceIte, Nat.reduceEqDiff, Nat.reduceAdd, Nat.reduceMul, Nat.reduceLeDiff, Nat.reduceLT, Nat.reduceBEq, Nat.reducePow, Int.reduceToNat, Int.reduceLE, Int.reduceLT, Int.reduceNeg, reduceCtorEq, Int.reduceEq, Int.reduceAdd, Int.reduceSub, Int.reduceMul, Nat.reduceSub, stsA, wneg]))
      apply loop_keep [0, 2, 3, 5, 10] (fun i : { i : Nat // i ≤ l.length } => [(11, n64 i.1)]) (fun i => bookH (runB l i.1) (nx + 456)) (fun i => l.length - i.1) ⟨0, Nat.zero_le _⟩
      · simp -dsimp -implicitDefEqProofs only [go_sem, ↓reduceIte, Nat.reduceEqDiff, Nat.reduceAdd, Nat.reduceMul, Nat.reduceLeDiff, Nat.reduceLT, Nat.reduceBEq, Nat.reducePow, Int.reduceToNat, Int.reduceLE, Int.reduceLT, Int.reduceNeg, reduceCtorEq, Int.reduceEq, Int.reduceAdd, Int.reduceSub, Int.reduceMul, Nat.reduceSub]; try rfl
      · simp -dsimp -implicitDefEqProofs only [go_sem, ↓reduceIte, Nat.reduceEqDiff, Nat.reduceAdd, Nat.reduceMul, Nat.reduceLeDiff, Nat.reduceLT, Nat.reduceBEq, Nat.reducePow, Int.reduceToNat, Int.reduceLE, Int.reduceLT, Int.reduceNeg, reduceCtorEq, Int.reduceEq, Int.reduceAdd, Int.reduceSub, Int.reduceMul, Nat.reduceSub]; try rfl
      · simp -dsimp -implicitDefEqProofs only [go_sem, ↓reduceIte, Nat.reduceEqDiff, Nat.reduceAdd, Nat.reduceMul, Nat.reduceLeDiff, Nat.reduceLT, Nat.reduceBEq, Nat.reducePow, Int.reduceToNat, Int.reduceLE, Int.reduceLT, Int.reduceNeg, reduceCtorEq, Int.reduceEq, Int.reduceAdd, Int.reduceSub, Int.reduceMul, Nat.reduceSub, runB_zero]; try rfl
      · intro s
        simp -dsimp -implicitDefEqProofs only [go_sem, ↓reduceIte, Nat.reduceEqDiff, Nat.reduceAdd, Nat.reduceMul, Nat.reduceLeDiff, Nat.reduceLT, Nat.reduceBEq, Nat.reducePow, Int.reduceToNat, Int.reduceLE, Int.reduceLT, Int.reduceNeg, reduceCtorEq, Int.reduceEq, Int.reduceAdd, Int.reduceSub, Int.reduceMul, Nat.reduceSub, nb_brs, hnb]
        all_goals omega
      · rintro ⟨i, hi⟩
        have hi : i ≤ l.length := hi
        have hok := runB_ok l i hi
        simp -dsimp -implicitDefEqProofs only [go_sem, ↓reduceIte, Nat.reduceEqDiff, Nat.reduceAdd, Nat.reduceMul, Nat.reduceLeDiff, Nat.reduceLT, Nat.reduceBEq, Nat.reducePow, Int.reduceToNat, Int.reduceLE, Int.reduceLT, Int.reduceNeg, reduceCtorEq, Int.reduceEq, Int.reduceAdd, Int.reduceSub, Int.reduceMul, Nat.reduceSub, brs_len]
        refine brT (fun hc => ?_) (fun hc => ?_)
        · have hi2 : i < l.length := by omega
          have q1 := brs_get hi2
          have w1 : IntKind.i64.wrap ((i : Int) + 1) = ((i + 1 : Nat) : Int) := wrapE (by omega) (by omega)
          have hrs := runB_succ hi2
          obtain ⟨g1, g2⟩ := hall l[i] (List.getElem_mem _)
          generalize l[i] = r at *
          have hap := fun nc (h : nx + 488 ≤ nc) => apply_spec nc (nx + 456) (runB l i) r (by omega) (okB_bk hok (by omega)) ⟨by omega, by omega⟩
          rw [← hrs] at hap
          repeat' (first | omega | assumption | (show AL.ahead _ _ _ = true; rfl) | refine brF (fun _ => ?_) (fun _ => ?_) | refine brT (fun _ => ?_) (fun _ => ?_) | refine brVF (fun _ => ?_) (fun _ => ?_) | refine brVT (fun _ => ?_) (fun _ => ?_) | (with_reducible refine And.intro ?_ ?_) | (refine callK_by (hap _ (by omega)) ?_) | (simp -dsimp -implicitDefEqProofs only [go_sem, ↓reduceIte, Nat.reduceEqDiff, Nat.reduceAdd, Nat.reduceMul, Nat.reduceLeDiff, Nat.reduceLT, Nat.reduceBEq, Nat.reducePow, Int.reduceToNat, Int.reduceLE, Int.reduceLT, Int.reduceNeg, reduceCtorEq, Int.reduceEq, Int.reduceAdd, Int.reduceSub, Int.reduceMul, Nat.reduceSub, q1, w1, brs_len, brA_good, brA_csz, brA_agg, brA_nb]))
          exact ⟨⟨i + 1, hi2⟩, by show l.length - (i + 1) < l.length - i; omega, rfl, rfl, rfl, rfl, rfl, rfl, rfl⟩
        · have e : i = l.length := by omega
          subst e
          obtain ⟨o1, o2, o3, o4, o5, o6, o7⟩ := hok
          generalize runB l l.length = b at *
          have htl : b.taken.length ≤ 1000 := by omega
          have htk := fun nc (h : nx + 488 ≤ nc) => taken_spec nc (nx + 456) b (by omega) htl
          have hch := fun nc (h : nx + 488 ≤ nc) => cheat_spec nc (nx + 456) s b (by omega) htl
          have w1 : IntKind.i64.wrap (h - s.at_) = h - s.at_ := by rw [IntKind.wrap_i64]; omega
          have w2 : IntKind.i64.wrap (s.when_ - s.at_) = s.when_ - s.at_ := by rw [IntKind.wrap_i64]; omega
          simp only [stsA] at hch
          by_cases hC : cheatP s b
          · simp only [decide_eq_true hC] at hch
            obtain ⟨c1, c2, c3, c4⟩ := id hC
            by_cases hL : w < h - s.at_
            · have hfl := fun nc (h2 : nx + 488 ≤ nc) => failed_yes nc (nx + 456) s b w h (by omega) htl w1 w2 hC hL
              simp only [stsA] at hfl
              by_cases hP : s.part = 3
              · have e1 : decide (s.part ≠ 3 ∨ w < s.when_ - s.at_) = decide (w < s.when_ - s.at_) := decide_eq_decide.2 ⟨fun h => h.resolve_left (fun h2 => h2 hP), .inr⟩
                rw [e1] at hfl
                simp only [c1, c2] at hch hfl
                repeat' (first | omega | assumption | (show AL.ahead _ _ _ = true; rfl) | refine brF (fun _ => ?_) (fun _ => ?_) | refine brT (fun _ => ?_) (fun _ => ?_) | refine brVF (fun _ => ?_) (fun _ => ?_) | refine brVT (fun _ => ?_) (fun _ => ?_) | (with_reducible refine And.intro ?_ ?_) | (refine callK_by (htk _ (by omega)) ?_) | (refine callK_by (hch _ (by omega)) ?_) | (refine callK_by (hfl _ (by omega)) ?_) | (refine callK_by (sawake_spec _) ?_) | (simp -dsimp -implicitDefEqProofs only [go_sem, ↓reduceIte, Nat.reduceEqDiff, Nat.reduceAdd, Nat.reduceMul, Nat.reduceLeDiff, Nat.reduceLT, Nat.reduceBEq, Nat.reducePow, Int.reduceToNat, Int.reduceLE, Int.reduceLT, Int.reduceNeg, reduceCtorEq, Int.reduceEq, Int.reduceAdd, Int.reduceSub, Int.reduceMul, Nat.reduceSub, stsA, c1, c2, c3, c4, w1, w2, hL]))
                all_goals trace_state
              · have e1 : decide (s.part ≠ 3 ∨ w < s.when_ - s.at_) = true := decide_eq_true (.inl hP)
                rw [e1] at hfl
                simp only [c1, c2] at hch hfl
                repeat' (first | omega | assumption | (show AL.ahead _ _ _ = true; rfl) | refine brF (fun _ => ?_) (fun _ => ?_) | refine brT (fun _ => ?_) (fun _ => ?_) | refine brVF (fun _ => ?_) (fun _ => ?_) | refine brVT (fun _ => ?_) (fun _ => ?_) | (with_reducible refine And.intro ?_ ?_) | (refine callK_by (htk _ (by omega)) ?_) | (refine callK_by (hch _ (by omega)) ?_) | (refine callK_by (hfl _ (by omega)) ?_) | (refine callK_by (sawake_spec _) ?_) | (simp -dsimp -implicitDefEqProofs only [go_sem, ↓reduceIte, Nat.reduceEqDiff, Nat.reduceAdd, Nat.reduceMul, Nat.reduceLeDiff, Nat.reduceLT, Nat.reduceBEq, Nat.reducePow, Int.reduceToNat, Int.reduceLE, Int.reduceLT, Int.reduceNeg, reduceCtorEq, Int.reduceEq, Int.reduceAdd, Int.reduceSub, Int.reduceMul, Nat.reduceSub, stsA, c1, c2, c3, c4, w1, w2, hL]))
                all_goals trace_state
            · have hfl := fun nc (h2 : nx + 488 ≤ nc) => failed_no nc (nx + 456) s b w h (by omega) htl w1 (fun h3 => hL h3.2)
              simp only [stsA] at hfl
              simp only [c1, c2] at hch hfl
              repeat' (first | omega | assumption | (show AL.ahead _ _ _ = true; rfl) | refine brF (fun _ => ?_) (fun _ => ?_) | refine brT (fun _ => ?_) (fun _ => ?_) | refine brVF (fun _ => ?_) (fun _ => ?_) | refine brVT (fun _ => ?_) (fun _ => ?_) | (with_reducible refine And.intro ?_ ?_) | (refine callK_by (htk _ (by omega)) ?_) | (refine callK_by (hch _ (by omega)) ?_) | (refine callK_by (hfl _ (by omega)) ?_) | (refine callK_by (sawake_spec _) ?_) | (simp -dsimp -implicitDefEqProofs only [go_sem, ↓reduceIte, Nat.reduceEqDiff, Nat.reduceAdd, Nat.reduceMul, Nat.reduceLeDiff, Nat.reduceLT, Nat.reduceBEq, Nat.reducePow, Int.reduceToNat, Int.reduceLE, Int.reduceLT, Int.reduceNeg, reduceCtorEq, Int.reduceEq, Int.reduceAdd, Int.reduceSub, Int.reduceMul, Nat.reduceSub, stsA, c1, c2, c3, c4, w1, w2, hL]))
              all_goals trace_state
          · simp only [decide_eq_false hC] at hch
            have hfl := fun nc (h2 : nx + 488 ≤ nc) => failed_no nc (nx + 456) s b w h (by omega) htl w1 (fun h3 => hC h3.1)
            simp only [stsA] at hfl
            have hcb : s.closed = false ∨ s.closed = true := by cases s.closed <;> simp
            rcases hcb with c1 | c1
            · simp only [c1] at hch hfl
              repeat' (first | omega | assumption | (show AL.ahead _ _ _ = true; rfl) | refine brF (fun _ => ?_) (fun _ => ?_) | refine brT (fun _ => ?_) (fun _ => ?_) | refine brVF (fun _ => ?_) (fun _ => ?_) | refine brVT (fun _ => ?_) (fun _ => ?_) | (with_reducible refine And.intro ?_ ?_) | (refine callK_by (htk _ (by omega)) ?_) | (refine callK_by (hch _ (by omega)) ?_) | (refine callK_by (hfl _ (by omega)) ?_) | (refine callK_by (sawake_spec _) ?_) | (simp -dsimp -implicitDefEqProofs only [go_sem, ↓reduceIte, Nat.reduceEqDiff, Nat.reduceAdd, Nat.reduceMul, Nat.reduceLeDiff, Nat.reduceLT, Nat.reduceBEq, Nat.reducePow, Int.reduceToNat, Int.reduceLE, Int.reduceLT, Int.reduceNeg, reduceCtorEq, Int.reduceEq, Int.reduceAdd, Int.reduceSub, Int.reduceMul, Nat.reduceSub, stsA, c1, w1, w2]))
              all_goals trace_state
            · by_cases c2 : s.owner = 1 ∧ 0 ≤ s.state
              · have c4 : ¬ s.state < b.taken.length := fun h => hC ⟨c1, c2.1, c2.2, h⟩
                simp only [c1, c2] at hch hfl
                repeat' (first | omega | assumption | (show AL.ahead _ _ _ = true; rfl) | refine brF (fun _ => ?_) (fun _ => ?_) | refine brT (fun _ => ?_) (fun _ => ?_) | refine brVF (fun _ => ?_) (fun _ => ?_) | refine brVT (fun _ => ?_) (fun _ => ?_) | (with_reducible refine And.intro ?_ ?_) | (refine callK_by (htk _ (by omega)) ?_) | (refine callK_by (hch _ (by omega)) ?_) | (refine callK_by (hfl _ (by omega)) ?_) | (refine callK_by (sawake_spec _) ?_) | (simp -dsimp -implicitDefEqProofs only [go_sem, ↓reduceIte, Nat.reduceEqDiff, Nat.reduceAdd, Nat.reduceMul, Nat.reduceLeDiff, Nat.reduceLT, Nat.reduceBEq, Nat.reducePow, Int.reduceToNat, Int.reduceLE, Int.reduceLT, Int.reduceNeg, reduceCtorEq, Int.reduceEq, Int.reduceAdd, Int.reduceSub, Int.reduceMul, Nat.reduceSub, stsA, c1, c2, c4, w1, w2]))
                all_goals trace_state
              · simp only [c1] at hch hfl
                repeat' (first | omega | assumption | (show AL.ahead _ _ _ = true; rfl) | refine brF (fun _ => ?_) (fun _ => ?_) | refine brT (fun _ => ?_) (fun _ => ?_) | refine brVF (fun _ => ?_) (fun _ => ?_) | refine brVT (fun _ => ?_) (fun _ => ?_) | (with_reducible refine And.intro ?_ ?_) | (refine callK_by (htk _ (by omega)) ?_) | (refine callK_by (hch _ (by omega)) ?_) | (refine callK_by (hfl _ (by omega)) ?_) | (refine callK_by (sawake_spec _) ?_) | (simp -dsimp -implicitDefEqProofs only [go_sem, ↓reduceIte, Nat.reduceEqDiff, Nat.reduceAdd, Nat.reduceMul, Nat.reduceLeDiff, Nat.reduceLT, Nat.reduceBEq, Nat.reducePow, Int.reduceToNat, Int.reduceLE, Int.reduceLT, Int.reduceNeg, reduceCtorEq, Int.reduceEq, Int.reduceAdd, Int.reduceSub, Int.reduceMul, Nat.reduceSub, stsA, c1, w1, w2]))
                all_goals trace_state
    · refine FnSpec.of_code (cx := cx) (an := {}) (rs := [.tmp 8]) mo Try.func4 rfl rfl (by kernel_rfl) (by kernel_rfl) (by show 4 ≤ _; decide) (.inl rfl) (by simp [allWr, keys, Res.wr]) ?_
      repeat' (first | omega | assumption | (show AL.ahead _ _ _ = true; rfl) | refine brF (fun _ => ?_) (fun _ => ?_) | refine brT (fun _ => ?_) (fun _ => ?_) | refine brVF (fun _ => ?_) (fun _ => ?_) | refine brVT (fun _ => ?_) (fun _ => ?_) | (with_reducible refine And.intro ?_ ?_) | (refine callK_by (small_yes _ l hsm) ?_) | (refine callK_by (sawake_spec _) ?_) | (simp -dsimp -implicitDefEqProofs only [go_sem, ↓reduceIte, Nat.reduceEqDiff, Nat.reduceAdd, Nat.reduceMul, Nat.reduceLeDiff, Nat.reduceLT, Nat.reduceBEq, Nat.reducePow, Int.reduceToNat, Int.reduceLE, Int.reduceLT, Int.reduceNeg, reduceCtorEq, Int.reduceEq, Int.reduceAdd, Int.reduceSub, Int.reduceMul, Nat.reduceSub, stsA, wneg]))
      all_goals trace_state
  · refine FnSpec.of_code (cx := cx) (an := {}) (rs := [.tmp 8]) mo Try.func4 rfl rfl (by kernel_rfl) (by kernel_rfl) (by show 4 ≤ _; decide) (.inl rfl) (by simp [allWr, keys, Res.wr]) ?_
    repeat' (first | omega | assumption | (show AL.ahead _ _ _ = true; rfl) | refine brF (fun _ => ?_) (fun _ => ?_) | refine brT (fun _ => ?_) (fun _ => ?_) | refine brVF (fun _ => ?_) (fun _ => ?_) | refine brVT (fun _ => ?_) (fun _ => ?_) | (with_reducible refine And.intro ?_ ?_) | (refine callK_by (small_no _ l hsm) ?_) | (refine callK_by (sawake_spec _) ?_) | (simp -dsimp -implicitDefEqProofs only [go_sem, ↓reduceIte, Nat.reduceEqDiff, Nat.reduceAdd, Nat.reduceMul, Nat.reduceLeDiff, Nat.reduceLT, Nat.reduceBEq, Nat.reducePow, Int.reduceToNat, Int.reduceLE, Int.reduceLT, Int.reduceNeg, reduceCtorEq, Int.reduceEq, Int.reduceAdd, Int.reduceSub, Int.reduceMul, Nat.reduceSub, stsA]))
    all_goals trace_state
end Go.Proofs.Ytjcnhgmaabkelaa

/-
  bartizanlaw31.TowerNobody: for every input it returns true, and the input reads behind the call as it read before. No condition.
-/
set_option linter.unusedSimpArgs false
set_option linter.unusedVariables false
set_option maxRecDepth 100000
set_option maxHeartbeats 1000000
namespace Go.Proofs.Ytjcnhgmaabkelaa
open Go Go.AL Go.Proofs.Ytjcnhgmaabkelaa.T Go.ChangeShapes Go.WideShapes Go.ChangeAt Go.RowKit

theorem Try.own : ownKnob Try.prog.godebug = none := by kernel_rfl
theorem Try.laidOut : laidOutB Try.prog = true := by kernel_rfl
theorem toNat_ofNat' {n : Nat} (h : n < 256) : (UInt8.ofNat n).toNat = n := by
  rw [UInt8.toNat_ofNat']; omega
theorem ty_byte {n : Nat} {a : AV} (h : Ty Try.prog (n + 1) 5 a) : ∃ b, a = u8 b ∧ True := by
  obtain ⟨x, rfl, h1, h2⟩ := h.int_inv Try.underlying5
  have h1' : (0 : Int) ≤ x := h1
  have h2' : x ≤ 255 := h2
  refine ⟨UInt8.ofNat x.toNat, ?_, trivial⟩
  rw [u8, toNat_ofNat' (by omega)]
  congr 2; omega
theorem ty_sum {n : Nat} {a : AV} (h : Ty Try.prog (n + 2) 23 a) : ∃ s, a = sumA s := by
  obtain ⟨L, rfl, hl, k⟩ := h.arr_inv Try.underlying23 (m := 1) (by kernel_rfl)
  obtain ⟨l, rfl, _⟩ := list_inv (f := u8) (p := fun _ => True) (fun x hx => ty_byte (k x hx))
  rw [List.length_map] at hl
  exact ⟨⟨l, hl⟩, rfl⟩
theorem ty_int {n : Nat} {a : AV} (h : Ty Try.prog (n + 1) 3 a) : ∃ x, a = n64 x := by
  obtain ⟨x, rfl, _⟩ := h.int_inv Try.underlying3
  exact ⟨x, rfl⟩
theorem ty_int64 {n : Nat} {a : AV} (h : Ty Try.prog (n + 1) 2 a) : ∃ x, a = n64 x := by
  obtain ⟨x, rfl, _⟩ := h.int_inv Try.underlying2
  exact ⟨x, rfl⟩
theorem ty_ref {n : Nat} {a : AV} (h : Ty Try.prog (n + 3) 25 a) : ∃ r, a = refA r := by
  obtain ⟨L, rfl, k⟩ := h.struct_inv Try.underlying25 (m := 33) (ts := [23, 3]) (by kernel_rfl) rfl
  obtain ⟨a0, _, rfl, h0, k⟩ := k.cons_inv
  obtain ⟨a1, _, rfl, h1, k⟩ := k.cons_inv
  cases k.nil_inv
  obtain ⟨x0, rfl⟩ := ty_sum h0
  obtain ⟨x1, rfl⟩ := ty_int h1
  exact ⟨⟨x0, x1⟩, rfl⟩
theorem ty_chan {n : Nat} {a : AV} (h : Ty Try.prog (n + 4) 27 a) : ∃ c, a = chanA c := by
  obtain ⟨L, rfl, k⟩ := h.struct_inv Try.underlying27 (m := 39) (ts := [3, 3, 3, 25, 2, 3, 3]) (by kernel_rfl) rfl
  obtain ⟨a0, _, rfl, h0, k⟩ := k.cons_inv
  obtain ⟨a1, _, rfl, h1, k⟩ := k.cons_inv
  obtain ⟨a2, _, rfl, h2, k⟩ := k.cons_inv
  obtain ⟨a3, _, rfl, h3, k⟩ := k.cons_inv
  obtain ⟨a4, _, rfl, h4, k⟩ := k.cons_inv
  obtain ⟨a5, _, rfl, h5, k⟩ := k.cons_inv
  obtain ⟨a6, _, rfl, h6, k⟩ := k.cons_inv
  cases k.nil_inv
  obtain ⟨x0, rfl⟩ := ty_int h0
  obtain ⟨x1, rfl⟩ := ty_int h1
  obtain ⟨x2, rfl⟩ := ty_int h2
  obtain ⟨x3, rfl⟩ := ty_ref h3
  obtain ⟨x4, rfl⟩ := ty_int64 h4
  obtain ⟨x5, rfl⟩ := ty_int h5
  obtain ⟨x6, rfl⟩ := ty_int h6
  exact ⟨⟨x0, x1, x2, x3, x4, x5, x6⟩, rfl⟩

end Go.Proofs.Ytjcnhgmaabkelaa

/-
  Records, as they are given: what their types say.
-/
set_option linter.unusedSimpArgs false
set_option linter.unusedVariables false
set_option maxRecDepth 100000
set_option maxHeartbeats 1000000
namespace Go.Proofs.Ytjcnhgmaabkelaa
open Go Go.AL Go.Proofs.Ytjcnhgmaabkelaa.T Go.ChangeShapes Go.WideShapes Go.ChangeAt Go.RowKit
theorem ty_bytes {n : Nat} {a : AV} (h : Ty Try.prog (n + 2) 33 a) : ∃ l, a = .sl 1 (u8s l) 0 := by
  obtain ⟨L, rfl, hl, k⟩ := h.sl_inv Try.underlying33 (m := 1) (by kernel_rfl)
  obtain ⟨l, rfl, _⟩ := list_inv (f := u8) (p := fun _ => True) (fun x hx => ty_byte (k x hx))
  exact ⟨l, rfl⟩
theorem ty_rec {n : Nat} {a : AV} (h : Ty Try.prog (n + 3) 67 a) : ∃ r, a = recA r := by
  obtain ⟨L, rfl, k⟩ := h.struct_inv Try.underlying67 (m := 67) (ts := [3, 3, 3, 23, 23]) (by kernel_rfl) rfl
  obtain ⟨a0, _, rfl, h0, k⟩ := k.cons_inv
  obtain ⟨a1, _, rfl, h1, k⟩ := k.cons_inv
  obtain ⟨a2, _, rfl, h2, k⟩ := k.cons_inv
  obtain ⟨a3, _, rfl, h3, k⟩ := k.cons_inv
  obtain ⟨a4, _, rfl, h4, k⟩ := k.cons_inv
  cases k.nil_inv
  obtain ⟨x0, rfl⟩ := ty_int h0
  obtain ⟨x1, rfl⟩ := ty_int h1
  obtain ⟨x2, rfl⟩ := ty_int h2
  obtain ⟨x3, rfl⟩ := ty_sum h3
  obtain ⟨x4, rfl⟩ := ty_sum h4
  exact ⟨⟨x0, x1, x2, x3, x4⟩, rfl⟩
theorem ty_srec {n : Nat} {a : AV} (h : Ty Try.prog (n + 4) 69 a) : ∃ r, a = srecA r := by
  obtain ⟨M, rfl, k2⟩ := h.struct_inv Try.underlying69 (m := 68) (ts := [67, 33]) (by kernel_rfl) rfl
  obtain ⟨b0, _, rfl, g0, k2⟩ := k2.cons_inv
  obtain ⟨b1, _, rfl, g1, k2⟩ := k2.cons_inv
  cases k2.nil_inv
  obtain ⟨x0, rfl⟩ := ty_rec g0
  obtain ⟨x1, rfl⟩ := ty_bytes g1
  exact ⟨⟨x0, x1⟩, rfl⟩
theorem ty_sign {n : Nat} {a : AV} (h : Ty Try.prog (n + 3) 65 a) : ∃ r, a = signA r := by
  obtain ⟨M, rfl, k2⟩ := h.struct_inv Try.underlying65 (m := 33) (ts := [3, 23]) (by kernel_rfl) rfl
  obtain ⟨b0, _, rfl, g0, k2⟩ := k2.cons_inv
  obtain ⟨b1, _, rfl, g1, k2⟩ := k2.cons_inv
  cases k2.nil_inv
  obtain ⟨x0, rfl⟩ := ty_int g0
  obtain ⟨x1, rfl⟩ := ty_sum g1
  exact ⟨⟨x0, x1⟩, rfl⟩
theorem ty_two {n : Nat} {a : AV} (h : Ty Try.prog (n + 3) 61 a) : ∃ s t, a = .vec 32 [sumA s, sumA t] := by
  obtain ⟨L, rfl, hl, k⟩ := h.arr_inv Try.underlying61 (m := 32) (by kernel_rfl)
  match L, hl with
  | [x, y], _ =>
    obtain ⟨s, rfl⟩ := ty_sum (k x (by simp))
    obtain ⟨t, rfl⟩ := ty_sum (k y (by simp))
    exact ⟨s, t, rfl⟩
theorem ty_state {n : Nat} {a : AV} (h : Ty Try.prog (n + 4) 63 a) : ∃ s, a = stateA s := by
  obtain ⟨M, rfl, k⟩ := h.struct_inv Try.underlying63 (m := 67) (ts := [3, 2, 2, 61]) (by kernel_rfl) rfl
  obtain ⟨a0, _, rfl, h0, k⟩ := k.cons_inv
  obtain ⟨a1, _, rfl, h1, k⟩ := k.cons_inv
  obtain ⟨a2, _, rfl, h2, k⟩ := k.cons_inv
  obtain ⟨a3, _, rfl, h3, k⟩ := k.cons_inv
  cases k.nil_inv
  obtain ⟨x0, rfl⟩ := ty_int h0
  obtain ⟨x1, rfl⟩ := ty_int64 h1
  obtain ⟨x2, rfl⟩ := ty_int64 h2
  obtain ⟨x3, x4, rfl⟩ := ty_two h3
  exact ⟨⟨x0, x1, x2, x3, x4⟩, rfl⟩
theorem ty_brec {n : Nat} {a : AV} (h : Ty Try.prog (n + 5) 71 a) : ∃ r, a = brA r ∧ True := by
  obtain ⟨M, rfl, k⟩ := h.struct_inv Try.underlying71 (m := 274) (ts := [3, 27, 63, 65, 23, 3, 23, 69, 33]) (by kernel_rfl) rfl
  obtain ⟨a0, _, rfl, h0, k⟩ := k.cons_inv
  obtain ⟨a1, _, rfl, h1, k⟩ := k.cons_inv
  obtain ⟨a2, _, rfl, h2, k⟩ := k.cons_inv
  obtain ⟨a3, _, rfl, h3, k⟩ := k.cons_inv
  obtain ⟨a4, _, rfl, h4, k⟩ := k.cons_inv
  obtain ⟨a5, _, rfl, h5, k⟩ := k.cons_inv
  obtain ⟨a6, _, rfl, h6, k⟩ := k.cons_inv
  obtain ⟨a7, _, rfl, h7, k⟩ := k.cons_inv
  obtain ⟨a8, _, rfl, h8, k⟩ := k.cons_inv
  cases k.nil_inv
  obtain ⟨x0, rfl⟩ := ty_int h0
  obtain ⟨x1, rfl⟩ := ty_chan h1
  obtain ⟨x2, rfl⟩ := ty_state h2
  obtain ⟨x3, rfl⟩ := ty_sign h3
  obtain ⟨x4, rfl⟩ := ty_sum h4
  obtain ⟨x5, rfl⟩ := ty_int h5
  obtain ⟨x6, rfl⟩ := ty_sum h6
  obtain ⟨x7, rfl⟩ := ty_srec h7
  obtain ⟨x8, rfl⟩ := ty_bytes h8
  exact ⟨⟨x0, x1, x2, x3, x4, x5, x6, x7, x8⟩, rfl, trivial⟩
theorem ty_brs {n : Nat} {a : AV} (h : Ty Try.prog (n + 6) 54 a) : ∃ l, a = .sl 274 (brsA l) 0 := by
  obtain ⟨L, rfl, hl, k⟩ := h.sl_inv Try.underlying54 (m := 274) (by kernel_rfl)
  obtain ⟨l, rfl, _⟩ := list_inv (f := brA) (p := fun _ => True) (fun x hx => ty_brec (k x hx))
  exact ⟨l, rfl⟩
end Go.Proofs.Ytjcnhgmaabkelaa

/-
  bartizanlaw32.ScanFails: for every input it returns true, and the input reads behind the call as it read before. No condition.
-/
set_option linter.unusedSimpArgs false
set_option linter.unusedVariables false
set_option maxRecDepth 100000
set_option maxHeartbeats 1000000
namespace Go.Proofs.Ytjcnhgmaabkelaa
open Go Go.AL Go.Proofs.Ytjcnhgmaabkelaa.T Go.ChangeShapes Go.WideShapes Go.ChangeAt Go.RowKit
theorem ty_boolA {n : Nat} {a : AV} (h : Ty Try.prog (n + 1) 4 a) : ∃ b, a = bA b := by
  obtain ⟨b, rfl⟩ := h.bool_inv Try.underlying4
  exact ⟨b, rfl⟩
theorem ty_status {n : Nat} {a : AV} (h : Ty Try.prog (n + 4) 56 a) : ∃ s, a = stsA s := by
  obtain ⟨M, rfl, k⟩ := h.struct_inv Try.underlying56 (m := 38) (ts := [4, 3, 3, 23, 3, 3, 3]) (by kernel_rfl) rfl
  obtain ⟨a0, _, rfl, h0, k⟩ := k.cons_inv
  obtain ⟨a1, _, rfl, h1, k⟩ := k.cons_inv
  obtain ⟨a2, _, rfl, h2, k⟩ := k.cons_inv
  obtain ⟨a3, _, rfl, h3, k⟩ := k.cons_inv
  obtain ⟨a4, _, rfl, h4, k⟩ := k.cons_inv
  obtain ⟨a5, _, rfl, h5, k⟩ := k.cons_inv
  obtain ⟨a6, _, rfl, h6, k⟩ := k.cons_inv
  cases k.nil_inv
  obtain ⟨x0, rfl⟩ := ty_boolA h0
  obtain ⟨x1, rfl⟩ := ty_int h1
  obtain ⟨x2, rfl⟩ := ty_int h2
  obtain ⟨x3, rfl⟩ := ty_sum h3
  obtain ⟨x4, rfl⟩ := ty_int h4
  obtain ⟨x5, rfl⟩ := ty_int h5
  obtain ⟨x6, rfl⟩ := ty_int h6
  exact ⟨⟨x0, x1, x2, x3, x4, x5, x6⟩, rfl⟩
theorem sf_args (xs : List AV) (h : TyF (Ty Try.prog 8) Try.f4.params.toList xs) : FnSpec Try.prog 4 0 xs [] (.val (.bool true)) [] 0 := by
  have hp : Try.f4.params.toList = [54, 56, 3, 3] := rfl
  rw [hp] at h
  obtain ⟨a0, _, rfl, h0, h⟩ := h.cons_inv
  obtain ⟨a1, _, rfl, h1, h⟩ := h.cons_inv
  obtain ⟨a2, _, rfl, h2, h⟩ := h.cons_inv
  obtain ⟨a3, _, rfl, h3, h⟩ := h.cons_inv
  cases h.nil_inv
  obtain ⟨x0, rfl⟩ := ty_brs h0
  obtain ⟨x1, rfl⟩ := ty_status h1
  obtain ⟨x2, rfl⟩ := ty_int h2
  obtain ⟨x3, rfl⟩ := ty_int h3
  exact scanf_spec 0 x0 x1 x2 x3

theorem sf_lifted (os : Os) (started : os.Started) (H : Type) (enc : TypeId × Value → H) :
    ReturnsInHanded {} Try.checked os 4 .any (Rows.scanFailsSpec.pre6 enc Try.prog Try.f4 Rows.scanFailsRow.domain false) (Rows.scanFailsSpec.post enc Try.prog Try.f4 false true false false) := by
  refine returnsInHanded_of_change (C := Try.checked) Try.own started (by kernel_rfl) Try.func4
    (ChangeSpec.witness6 (enc := enc) (C := Try.checked) false ⟨#[], #[.slice none 0 0, .agg #[.bool false, .int .i64 0, .int .i64 0, .int .u8 0, .int .u8 0, .int .u8 0, .int .u8 0, .int .u8 0, .int .u8 0, .int .u8 0, .int .u8 0, .int .u8 0, .int .u8 0, .int .u8 0, .int .u8 0, .int .u8 0, .int .u8 0, .int .u8 0, .int .u8 0, .int .u8 0, .int .u8 0, .int .u8 0, .int .u8 0, .int .u8 0, .int .u8 0, .int .u8 0, .int .u8 0, .int .u8 0, .int .u8 0, .int .u8 0, .int .u8 0, .int .u8 0, .int .u8 0, .int .u8 0, .int .u8 0, .int .i64 0, .int .i64 0, .int .i64 0], .int .i64 0, .int .i64 0], []⟩ 8 (by kernel_rfl) (by kernel_rfl) (by kernel_rfl) (by kernel_rfl)) ?_
  intro W base args ds gs before hval0 hW hcnd _
  exact post_of_spec (P := Try.prog) (n := 8) (tb := 4) Try.laidOut rfl (fun ds hl => by
    match ds, hl with
    | [d1, d2, d3, d4], _ => rfl) (by kernel_rfl) (by kernel_rfl) rfl Try.underlying4 sf_args W base args ds gs before hval0 hW

theorem sf_holds : Rows.ScanFailsSaid :=
  OpenClaim.holds_of_wide 4 Try.f4 rfl rfl rfl rfl rfl rfl rfl ⟨rfl, rfl, rfl, rfl, rfl⟩ rfl rfl rfl rfl rfl (by kernel_rfl) Try.func4 (by kernel_rfl)
    (of_decide_eq_true (by kernel_rfl)) (by unfold Func.isWrapper; first | (rw [if_pos (by decide +kernel)]; kernel_rfl) | (rw [if_neg (by decide +kernel)]; exact ⟨rfl, rfl⟩))
    (fun os started H enc _ => sf_lifted os started H enc)
#print axioms sf_holds
end Go.Proofs.Ytjcnhgmaabkelaa

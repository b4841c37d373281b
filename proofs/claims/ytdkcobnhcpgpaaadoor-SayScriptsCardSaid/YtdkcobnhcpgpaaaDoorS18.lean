/-
  say: the plain law: an act's line is read as it.
-/
import Derived.Test.YtdkcobnhcpgpaaaDoorS16
set_option linter.unusedSimpArgs false
set_option linter.unusedVariables false
set_option maxRecDepth 100000
namespace Go.Proofs.YtdkcobnhcpgpaaaDoor
open Go Go.AL Go.Proofs

theorem dec_dig : ∀ (n : Nat) (c : UInt8), c ∈ dec n → 48 ≤ c.toNat ∧ c.toNat ≤ 57 := by
  intro n
  induction n using Nat.strongRecOn with
  | _ n ih =>
    intro c hc
    by_cases h : n < 10
    · rw [dec_small h] at hc
      simp only [List.mem_singleton] at hc
      subst hc
      simp only [UInt8.toNat_ofNat']; omega
    · rw [dec_big h, List.mem_append] at hc
      rcases hc with hc | hc
      · exact ih (n / 10) (by omega) c hc
      · simp only [List.mem_singleton] at hc
        subst hc
        simp only [UInt8.toNat_ofNat']; omega
theorem dec_all (n : Nat) : (dec n).all isDig = true := by
  rw [List.all_eq_true]
  intro c hc
  have := dec_dig n c hc
  simp [isDig, this]
theorem dec_val (n : Nat) : valN (dec n) = n := by
  induction n using Nat.strongRecOn with
  | _ n ih =>
    by_cases h : n < 10
    · rw [dec_small h]
      simp only [valN, List.foldl_cons, List.foldl_nil, UInt8.toNat_ofNat']; omega
    · rw [dec_big h, valN_snoc, ih (n / 10) (by omega)]
      simp only [UInt8.toNat_ofNat']; omega
theorem not_mem_dec {n : Nat} {c : UInt8} (h : c.toNat < 48 ∨ 57 < c.toNat) : c ∉ dec n := fun hc => by have := dec_dig n c hc; omega
theorem not_mem_decT {n : Int} : (32 : UInt8) ∉ decT n := by
  unfold decT
  split
  · intro h
    rcases List.mem_cons.1 h with h | h
    · cases h
    · exact not_mem_dec (n := n.natAbs) (c := 32) (.inl (by decide)) h
  · exact not_mem_dec (.inl (by decide))
theorem trim_neg (l : List UInt8) : Lib.trimPrefix (45 :: l) [45] = l := by
  simp [Lib.trimPrefix, Lib.hasPrefix]
theorem trim_pos {l : List UInt8} (h : (45 : UInt8) ∉ l) : Lib.trimPrefix l [45] = l := by
  cases l with
  | nil => simp [Lib.trimPrefix, Lib.hasPrefix]
  | cons x t =>
    have : x ≠ 45 := fun e => h (by rw [e]; exact List.mem_cons_self)
    have h2 : Lib.hasPrefix (x :: t) [45] = false := by rw [Bool.eq_false_iff]; intro e; simp [Lib.hasPrefix] at e; exact this e.symm
    simp [Lib.trimPrefix, h2]
theorem number_dec (n : Int) (h1 : -(10 ^ 16) < n) (h2 : n < 10 ^ 16) : numberT (decT n) = (n, true) := by
  have hl : (dec n.natAbs).length ≤ 16 := dec_len 15 _ (by omega)
  have hb : Lib.trimPrefix (decT n) [45] = dec n.natAbs := by
    unfold decT
    split
    · exact trim_neg _
    · exact trim_pos (not_mem_dec (.inl (by decide)))
  have hne : ¬ (dec n.natAbs = [] ∨ 17 < (dec n.natAbs).length ∨ (dec n.natAbs).all isDig = false) := by
    rw [dec_all]
    rintro (h | h | h)
    · exact dec_ne _ h
    · omega
    · cases h
  have hn : (if dec n.natAbs = decT n then (valN (dec n.natAbs) : Int) else -(valN (dec n.natAbs) : Int)) = n := by
    rw [dec_val]
    by_cases h : n < 0
    · have : dec n.natAbs ≠ decT n := by
        rw [decT, if_pos h]
        intro e
        have := congrArg List.length e
        simp at this
      rw [if_neg this]; omega
    · have : dec n.natAbs = decT n := by rw [decT, if_neg h]
      rw [if_pos this]; omega
  unfold numberT
  rw [hb]
  simp only
  rw [if_neg hne, hn]
  simp

theorem hexv_digit : ∀ x : Fin 16, hexv (Tryd.hexDigit x.val) = (x.val : Int) ∧ Tryd.hexDigit x.val ≠ 32 := by decide
theorem hexOf_get : ∀ (l : List UInt8) (j : Nat), j < l.length → (Tryd.hexOf l).getD (2 * j) 0 = Tryd.hexDigit ((l.getD j 0).toNat / 16) ∧ (Tryd.hexOf l).getD (2 * j + 1) 0 = Tryd.hexDigit ((l.getD j 0).toNat % 16)
  | [], j, h => absurd h (by simp)
  | b :: t, 0, _ => by simp [Tryd.hexOf]
  | b :: t, j + 1, h => by
    have := hexOf_get t j (by simpa using h)
    rw [show 2 * (j + 1) = 2 * j + 1 + 1 by omega]
    simpa [Tryd.hexOf] using this
theorem hexOf_mem : ∀ (l : List UInt8) (c : UInt8), c ∈ Tryd.hexOf l → ∃ x : Fin 16, c = Tryd.hexDigit x.val
  | [], c, h => by simp [Tryd.hexOf] at h
  | b :: t, c, h => by
    have hb := b.toNat_lt
    rcases List.mem_cons.1 h with rfl | h
    · exact ⟨⟨b.toNat / 16, by omega⟩, rfl⟩
    · rcases List.mem_cons.1 h with rfl | h
      · exact ⟨⟨b.toNat % 16, by omega⟩, rfl⟩
      · exact hexOf_mem t c h
theorem not_mem_hexT (l : List UInt8) : (32 : UInt8) ∉ hexT l := by
  unfold hexT
  split
  · simp
  · intro h
    obtain ⟨x, hx⟩ := hexOf_mem l _ h
    exact (hexv_digit x).2 hx.symm
theorem unhex_hex (d : List UInt8) : unhexT (hexT d) = (d, true) := by
  unfold hexT
  split
  · rename_i h; subst h; simp [unhexT]
  · rename_i h0
    have hl := Tryd.hexOf_length d
    have hp := List.length_pos_iff.2 h0
    have h1 : Tryd.hexOf d ≠ [46] := fun e => by have := congrArg List.length e; simp at this; omega
    have h2 : ¬ ((Tryd.hexOf d).length % 2 = 1 ∨ Tryd.hexOf d = []) := by
      rintro (h | h)
      · omega
      · have := congrArg List.length h; rw [hl] at this; simp only [List.length_nil] at this; omega
    have h3 : (Tryd.hexOf d).all (fun c => decide (0 ≤ hexv c)) = true := by
      rw [List.all_eq_true]
      intro c hc
      obtain ⟨x, rfl⟩ := hexOf_mem d c hc
      rw [(hexv_digit x).1]
      simp
    rw [unhexT, if_neg h1, if_neg h2, if_pos h3]
    refine Prod.ext ?_ rfl
    show rowV _ _ = d
    apply List.ext_getElem
    · rw [rowV_len]; omega
    · intro j hj1 hj2
      obtain ⟨g1, g2⟩ := hexOf_get d j hj2
      have hb := (d.getD j 0).toNat_lt
      have e1 := (hexv_digit ⟨(d.getD j 0).toNat / 16, by omega⟩).1
      have e2 := (hexv_digit ⟨(d.getD j 0).toNat % 16, by omega⟩).1
      simp only at e1 e2
      simp only [rowV, List.getElem_map, List.getElem_range, cellV]
      rw [if_pos (by omega), g1, g2, e1, e2, Int.toNat_natCast, Int.toNat_natCast]
      rw [show (d.getD j 0).toNat / 16 * 16 + (d.getD j 0).toNat % 16 = (d.getD j 0).toNat by omega, UInt8.ofNat_toNat, List.getD_eq_getElem?_getD, List.getElem?_eq_getElem hj2]
      rfl

theorem word_facts : ∀ j : Fin 18, 1 ≤ j.val → kindU (namesL.getD j.val []) 18 = (j.val : Int) ∧ (32 : UInt8) ∉ namesL.getD j.val [] ∧ (10 : UInt8) ∉ namesL.getD j.val [] := by decide

theorem parse_line (a : Act_) (hr : RightP a) : parseT (lineT a) = (a, 0) := by
  obtain ⟨k1, k2, p1, p2, p3, b1, b2, b3, b4, b5⟩ := id hr
  have hwd : wordOf a.k = namesL.getD a.k.toNat [] := by rw [wordOf, if_pos ⟨k1, k2⟩]
  obtain ⟨w1, w2, w3⟩ := word_facts ⟨a.k.toNat, by omega⟩ (by show 1 ≤ a.k.toNat; omega)
  simp only at w1 w2 w3
  rw [← hwd] at w1 w2 w3
  rw [Int.toNat_of_nonneg (by omega)] at w1
  have hwl := wordOf_len a.k
  have hnI := number_dec a.i (by omega) (by omega)
  have hnN := number_dec a.n (by omega) (by omega)
  have hD := unhex_hex a.d
  have mI : (32 : UInt8) ∉ decT a.i := not_mem_decT
  have mN : (32 : UInt8) ∉ decT a.n := not_mem_decT
  have mD := not_mem_hexT a.d
  have lI := decT_len (n := a.i) (by omega) (by omega)
  have lN := decT_len (n := a.n) (by omega) (by omega)
  have lD := hexT_len a.d
  have hlt : lineT a = wordOf a.k ++ (if hasIL a.k then 32 :: decT a.i else []) ++ (if hasNL a.k then 32 :: decT a.n else []) ++ (if hasDL a.k then 32 :: hexT a.d else []) := by rw [lineT, if_pos hr]
  have hk0 : ¬ a.k = 0 := by omega
  have key : ∀ t : List (List UInt8), splitC 32 (lineT a) = wordOf a.k :: t → (fillR a.k 0 (t, ⟨a.k, 0, 0, []⟩, 1)).map (·.1) = some a → (lineT a).length ≤ 131088 → parseT (lineT a) = (a, 0) := by
    intro t h1 h2 h3
    rw [parseT, if_neg (by omega), h1]
    simp only [List.headD_cons, List.tail_cons, parseR, w1, hk0, if_false]
    obtain ⟨p, hp, e⟩ := Option.map_eq_some_iff.1 h2
    rw [hp]
    simp only [e, if_true]
  rcases hasK_cases a.k with ⟨h0, h1, h2, h3⟩ | ⟨h0, h1, h2, h3⟩ | ⟨h0, h1, h2, h3⟩ | ⟨h0, h1, h2, h3⟩ | ⟨h0, h1, h2, h3⟩
  all_goals simp only [h1, h2, h3, if_true, if_false, Bool.false_eq_true, List.append_nil, false_or] at hlt p1 p2 p3
  · refine key [decT a.i] (by rw [hlt, splitC_app _ w2, splitC_none mI]) ?_ ?_
    · have e3 := List.length_eq_zero_iff.1 p3
      simp [fillR, fill0, fill1, fill2, fill3, stI, stN, stD, h1, h2, h3, hnI]
      conv => rhs; rw [show a = ⟨a.k, a.i, a.n, a.d⟩ from rfl, p2, e3]
    · rw [hlt, List.length_append, List.length_cons]; omega
  · refine key [decT a.n] (by rw [hlt, splitC_app _ w2, splitC_none mN]) ?_ ?_
    · have e3 := List.length_eq_zero_iff.1 p3
      simp [fillR, fill0, fill1, fill2, fill3, stI, stN, stD, h1, h2, h3, hnN]
      conv => rhs; rw [show a = ⟨a.k, a.i, a.n, a.d⟩ from rfl, p1, e3]
    · rw [hlt, List.length_append, List.length_cons]; omega
  · refine key [hexT a.d] (by rw [hlt, splitC_app _ w2, splitC_none mD]) ?_ ?_
    · simp [fillR, fill0, fill1, fill2, fill3, stI, stN, stD, h1, h2, h3, hD]
      conv => rhs; rw [show a = ⟨a.k, a.i, a.n, a.d⟩ from rfl, p1, p2]
    · rw [hlt, List.length_append, List.length_cons]; omega
  · refine key [decT a.i, decT a.n] (by rw [hlt, List.append_assoc, List.cons_append, splitC_app _ w2, splitC_app _ mI, splitC_none mN]) ?_ ?_
    · have e3 := List.length_eq_zero_iff.1 p3
      simp [fillR, fill0, fill1, fill2, fill3, stI, stN, stD, h1, h2, h3, hnI, hnN]
      conv => rhs; rw [show a = ⟨a.k, a.i, a.n, a.d⟩ from rfl, e3]
    · rw [hlt, List.length_append, List.length_append, List.length_cons, List.length_cons]; omega
  · refine key [] (by rw [hlt, splitC_none w2]) ?_ ?_
    · have e3 := List.length_eq_zero_iff.1 p3
      simp [fillR, fill0, fill1, fill2, fill3, stI, stN, stD, h1, h2, h3]
      conv => rhs; rw [show a = ⟨a.k, a.i, a.n, a.d⟩ from rfl, p1, p2, e3]
    · rw [hlt]; omega
end Go.Proofs.YtdkcobnhcpgpaaaDoor

/-
  What is put is read as it was, and what is read is what was put: in plain lists.
-/
import Derived.Test.YtfdlcefiidanlaaB4
set_option linter.unusedSimpArgs false
set_option linter.unusedVariables false
set_option maxHeartbeats 1000000
namespace Go.Proofs.Ytfdlcefiidanlaa
open Go Go.AL

theorem toNat_ofNat {n : Nat} (h : n < 256) : (UInt8.ofNat n).toNat = n := by
  rw [UInt8.toNat_ofNat']; omega
theorem getN_num : ∀ (k i v x : Nat) (rest : List UInt8), x < 128 ^ k → (0 < x ∨ (i = 0 ∧ 0 < k)) → getN k i v (numN x ++ rest) = .ok (v + x * 128 ^ i) rest
  | 0, i, v, x, rest, h, h2 => by
    have : x = 0 := by simpa using h
    omega
  | k + 1, i, v, x, rest, h, h2 => by
    by_cases hx : x < 128
    · rw [numN_small hx]
      simp only [List.cons_append, List.nil_append, getN, toNat_ofNat (show x < 256 by omega)]
      rw [if_pos hx, if_neg (by omega), Nat.mod_eq_of_lt hx]
    · rw [numN_big hx]
      simp only [List.cons_append, getN, toNat_ofNat (show x % 128 + 128 < 256 by omega)]
      rw [if_neg (by omega), getN_num k (i + 1) _ (x / 128) rest (by rw [Nat.pow_succ] at h; exact Nat.div_lt_of_lt_mul (by rw [Nat.mul_comm]; exact h)) (by omega)]
      congr 1
      rw [Nat.add_mod_right, Nat.mod_mod, Nat.pow_succ]
      have := Nat.div_add_mod x 128
      calc v + x % 128 * 128 ^ i + x / 128 * (128 ^ i * 128) = v + (128 * (x / 128) + x % 128) * 128 ^ i := by
            rw [Nat.add_mul, Nat.mul_comm 128 (x / 128), Nat.mul_assoc, Nat.mul_comm 128 (128 ^ i)]; omega
        _ = v + x * 128 ^ i := by rw [this]
theorem getN_inv : ∀ (k i v : Nat) (bs : List UInt8) (w : Nat) (r : List UInt8), getN k i v bs = .ok w r → ∃ x, w = v + x * 128 ^ i ∧ bs = numN x ++ r ∧ x < 128 ^ k ∧ (0 < x ∨ i = 0)
  | 0, _, _, _, _, _, h => by simp [getN] at h
  | _ + 1, _, _, [], _, _, h => by simp [getN] at h
  | k + 1, i, v, c :: bs, w, r, h => by
    have hc := c.toNat_lt
    have h128 : 1 ≤ 128 ^ k := Nat.one_le_pow _ _ (by omega)
    simp only [getN] at h
    split at h
    · rename_i h1
      split at h
      · cases h
      · rename_i h2
        injection h with h3 h4
        subst h4
        refine ⟨c.toNat, by rw [← h3, Nat.mod_eq_of_lt h1], ?_, by rw [Nat.pow_succ]; omega, by omega⟩
        rw [numN_small h1]
        simp
    · rename_i h1
      obtain ⟨x, e1, e2, e3, e4⟩ := getN_inv k (i + 1) _ bs w r h
      have hd : (x * 128 + c.toNat % 128) / 128 = x := by omega
      have hm : (x * 128 + c.toNat % 128) % 128 = c.toNat % 128 := by omega
      have hx0 : 0 < x := by omega
      refine ⟨x * 128 + c.toNat % 128, ?_, ?_, by rw [Nat.pow_succ]; omega, .inl (by omega)⟩
      · rw [e1, Nat.pow_succ, Nat.add_mul]
        have : x * (128 ^ i * 128) = x * 128 * 128 ^ i := by rw [Nat.mul_assoc, Nat.mul_comm (128 ^ i) 128]
        omega
      · rw [numN_big (by omega), hd, hm, e2]
        have : c.toNat % 128 + 128 = c.toNat := by omega
        rw [this]
        simp

/-! ### one number -/
theorem numV_of {n : Int} (h0 : 0 ≤ n) (h1 : n < 2 ^ 63) : numV n = n.toNat := by
  simp only [numV, IntKind.wrap_u64]; omega
theorem numS_num {n : Int} (h0 : 0 ≤ n) (h1 : n < 2 ^ 63) (rest : List UInt8) : numS ⟨numI n ++ rest, 0⟩ = (n.toNat, ⟨rest, 0⟩) := by
  have h := getN_num 9 0 0 n.toNat rest (by omega) (.inr ⟨rfl, by omega⟩)
  simp only [numS, numI, numV_of h0 h1, h, if_true]
  simp
theorem uptoS_num {n m : Int} (h0 : 0 ≤ n) (h1 : n < 2 ^ 63) (hm : n ≤ m) (rest : List UInt8) : uptoS ⟨numI n ++ rest, 0⟩ m = (n, ⟨rest, 0⟩) := by
  have e : ((n.toNat : Nat) : Int) = n := by omega
  have hm' : ¬ m < n := by omega
  simp [uptoS, numS_num h0 h1, e, hm']
theorem numS_inv {s : ES} {v : Nat} {t : ES} (h : numS s = (v, t)) (ht : t.e = 0) : s.e = 0 ∧ s.b = numI v ++ t.b ∧ v < 2 ^ 63 := by
  simp only [numS] at h
  split at h
  · rename_i h0
    split at h
    · rename_i w r hg
      injection h with e1 e2
      subst e1 e2
      obtain ⟨x, q1, q2, q3, _⟩ := getN_inv _ _ _ _ _ _ hg
      simp at q1
      subst q1
      have hx : w < 2 ^ 63 := by omega
      refine ⟨h0, ?_, hx⟩
      rw [numI, numV_of (by omega) (by omega)]
      simpa using q2
    · rename_i c hg
      injection h with e1 e2
      subst e2
      simp only at ht
      -- an error's number is none
      exfalso
      have : ∀ (k i v : Nat) (bs : List UInt8) (c : Int), getN k i v bs = .err c → c ≠ 0 := by
        intro k
        induction k with
        | zero => intro i v bs c h; simp [getN] at h; omega
        | succ k ih =>
          intro i v bs c h
          cases bs with
          | nil => simp [getN] at h; omega
          | cons a bs =>
            simp only [getN] at h
            split at h
            · split at h
              · injection h with h; omega
              · cases h
            · exact ih _ _ _ _ h
      exact this _ _ _ _ _ hg ht
  · rename_i h0
    injection h with e1 e2
    subst e2
    exact absurd ht h0
theorem failS_e {s : ES} {c : Int} (hc : c ≠ 0) : (failS s c).e ≠ 0 := by
  simp only [failS]
  split
  · exact hc
  · assumption
theorem uptoS_inv {s : ES} {m n : Int} {t : ES} (h : uptoS s m = (n, t)) (ht : t.e = 0) : s.e = 0 ∧ s.b = numI n ++ t.b ∧ 0 ≤ n ∧ n ≤ m ∧ n < 2 ^ 63 := by
  simp only [uptoS] at h
  split at h
  · rename_i h1
    split at h
    · rename_i h2; exact absurd h2 (failS_e (by omega))
    · rename_i h2; injection h with e1 e2; subst e2; exact absurd ht h2
  · rename_i h1
    split at h
    · rename_i h2
      injection h with e1 e2
      subst e1 e2
      obtain ⟨q1, q2, q3⟩ := numS_inv (s := s) (v := (numS s).1) (t := (numS s).2) rfl ht
      exact ⟨q1, q2, by omega, by omega, by omega⟩
    · rename_i h2; injection h with e1 e2; subst e2; exact absurd ht h2
theorem textS_num (d rest : List UInt8) (m : Int) (h : (d.length : Int) ≤ m) (hd : d.length < 2 ^ 40) : textS ⟨numI d.length ++ d ++ rest, 0⟩ m = (d, ⟨rest, 0⟩) := by
  simp only [textS]
  rw [List.append_assoc, uptoS_num (by omega) (by omega) h]
  simp only [rawS, if_true]
  rw [if_neg (by simp; omega)]
  simp
theorem textS_inv {s : ES} {m : Int} {d : List UInt8} {t : ES} (h : textS s m = (d, t)) (ht : t.e = 0) : s.e = 0 ∧ s.b = numI d.length ++ d ++ t.b ∧ (d.length : Int) ≤ m := by
  simp only [textS] at h
  generalize hu : uptoS s m = p at h
  obtain ⟨n, u⟩ := p
  simp only [rawS] at h
  split at h
  · rename_i h1
    split at h
    · injection h with e1 e2; subst e2; exact absurd ht (failS_e (by omega))
    · rename_i h2
      injection h with e1 e2
      subst e1 e2
      obtain ⟨q1, q2, q3, q4, q5⟩ := uptoS_inv hu h1
      have hl : (u.b.take n.toNat).length = n.toNat := by rw [List.length_take]; omega
      refine ⟨q1, ?_, by rw [hl]; omega⟩
      rw [hl, q2, List.append_assoc]
      simp only [List.take_append_drop]
      congr 2
      omega
  · rename_i h1
    injection h with e1 e2
    subst e2
    exact absurd ht h1

/-! ### all of it -/
theorem unfold_fold (n : Int) : unfoldI (foldI n) = n := by
  simp only [unfoldI, foldI]
  split <;> split <;> omega
theorem fold_unfold {n : Int} (h : 0 ≤ n) : foldI (unfoldI n) = n := by
  simp only [unfoldI, foldI]
  split <;> split <;> omega
theorem actS_num (a : Act_) (h : RightA a) (rest : List UInt8) : actS ⟨actB a ++ rest, 0⟩ = (a, ⟨rest, 0⟩) := by
  obtain ⟨h1, h2, h3, h4, h5, h6, h7⟩ := h
  have hf : 0 ≤ foldI a.n ∧ foldI a.n ≤ 2251799813685248 := by simp only [foldI]; split <;> omega
  simp only [actS, actB, List.append_assoc]
  rw [uptoS_num h1 (by omega) h2]
  simp only
  rw [uptoS_num h3 (by omega) h4]
  simp only
  rw [uptoS_num hf.1 (by omega) hf.2]
  simp only
  rw [← List.append_assoc, textS_num a.data rest 65536 (by omega) (by omega)]
  simp only [unfold_fold]
theorem listS_num : ∀ (l : List Act_) (rest : List UInt8) (acc : List Act_), (∀ a ∈ l, RightA a) → listS l.length ⟨l.flatMap actB ++ rest, 0⟩ acc = (acc ++ l, ⟨rest, 0⟩)
  | [], rest, acc, _ => by simp [listS]
  | a :: l, rest, acc, h => by
    simp only [List.length_cons, List.flatMap_cons, List.append_assoc, listS]
    rw [actS_num a (h a (by simp))]
    simp only [if_true]
    rw [listS_num l rest _ (fun b hb => h b (by simp [hb]))]
    simp
theorem getS_putB (c : Cfg) (l : List Act_) (hc : cfgOK c) (hl : ∀ a ∈ l, RightA a) (hn : l.length ≤ 1024) : getS (putB c l l.length) = (c, l, 0) := by
  obtain ⟨hr, s1, s2⟩ := hc
  have hr' := hr
  obtain ⟨r1, r2, r3, r4, r5, r6, r7, r8, r9, r10, r11, r12, r13, r14, r15, r16, r17, r18, r19, r20, r21, r22⟩ := hr
  have hw : IntKind.i64.wrap (2 * c.late) = 2 * c.late := by rw [IntKind.wrap_i64]; omega
  rw [hw] at r14
  have hh : headS (putB c l l.length) = (c, (l.length : Int), ⟨l.flatMap actB ++ [], 0⟩) := by
    simp only [headS, putB, cfgNs, List.flatMap_cons, List.flatMap_nil, List.append_assoc, List.nil_append]
    rw [uptoS_num s1 (by omega) s2]
    simp only
    rw [numS_num r1 (by omega)]
    simp only
    rw [numS_num r2 (by omega)]
    simp only
    rw [numS_num r6 (by omega)]
    simp only
    rw [numS_num (show 0 ≤ c.leaves by omega) (by omega)]
    simp only
    rw [numS_num (show 0 ≤ c.bond by omega) (by omega)]
    simp only
    rw [numS_num (show 0 ≤ c.wait by omega) (by omega)]
    simp only
    rw [numS_num (show 0 ≤ c.window by omega) (by omega)]
    simp only
    rw [numS_num (show 0 ≤ c.late by omega) (by omega)]
    simp only
    rw [numS_num (show 0 ≤ c.sectors by omega) (by omega)]
    simp only
    rw [numS_num r19 (by omega)]
    simp only
    rw [numS_num r21 (by omega)]
    simp only
    rw [uptoS_num (show (0 : Int) ≤ (l.length : Int) by omega) (by omega) (by omega)]
    obtain ⟨d1, d2, d3, d4, d5, d6, d7, d8, d9, d10, d11, d12⟩ := c
    simp only at *
    simp only [List.append_nil, Prod.mk.injEq, Cfg.mk.injEq, and_true]
    and_intros <;> first | rfl | omega | trivial
  simp only [getS, hh, Int.toNat_natCast]
  rw [listS_num l [] [] hl]
  simp [doneS, hr']

theorem actS_inv {s : ES} {a : Act_} {t : ES} (h : actS s = (a, t)) (ht : t.e = 0) : s.e = 0 ∧ s.b = actB a ++ t.b ∧ RightA a := by
  simp only [actS] at h
  generalize h1 : uptoS s 255 = p1 at h
  obtain ⟨a1, s1⟩ := p1
  simp only at h
  generalize h2 : uptoS s1 1048576 = p2 at h
  obtain ⟨a2, s2⟩ := p2
  simp only at h
  generalize h3 : uptoS s2 2251799813685248 = p3 at h
  obtain ⟨a3, s3⟩ := p3
  simp only at h
  generalize h4 : textS s3 65536 = p4 at h
  obtain ⟨a4, s4⟩ := p4
  injection h with e1 e2
  simp only at e1 e2
  subst e1 e2
  obtain ⟨q4, w4, b4⟩ := textS_inv h4 ht
  obtain ⟨q3, w3, b3, c3, _⟩ := uptoS_inv h3 q4
  obtain ⟨q2, w2, b2, c2, _⟩ := uptoS_inv h2 q3
  obtain ⟨q1, w1, b1, c1, _⟩ := uptoS_inv h1 q2
  refine ⟨q1, ?_, ?_⟩
  · rw [w1, w2, w3, w4]
    simp only [actB, fold_unfold b3, List.append_assoc]
  · simp only [RightA, unfoldI]
    refine ⟨b1, c1, b2, c2, ?_, ?_, by omega⟩
    · split <;> omega
    · split <;> omega
theorem listS_inv : ∀ (k : Nat) (s : ES) (acc l : List Act_) (t : ES), listS k s acc = (l, t) → t.e = 0 → ∃ m, l = acc ++ m ∧ m.length = k ∧ s.e = 0 ∧ s.b = m.flatMap actB ++ t.b ∧ ∀ a ∈ m, RightA a
  | 0, s, acc, l, t, h, ht => by
    simp only [listS] at h
    injection h with e1 e2
    subst e1 e2
    exact ⟨[], by simp, rfl, ht, by simp, by simp⟩
  | k + 1, s, acc, l, t, h, ht => by
    simp only [listS] at h
    split at h
    · rename_i h1
      obtain ⟨m, q1, q2, q3, q4, q5⟩ := listS_inv k _ _ l t h ht
      obtain ⟨w1, w2, w3⟩ := actS_inv (s := s) (a := (actS s).1) (t := (actS s).2) rfl h1
      refine ⟨(actS s).1 :: m, by rw [q1]; simp, by simp [q2], w1, by rw [w2, q4]; simp, ?_⟩
      intro a ha
      rcases List.mem_cons.1 ha with rfl | ha
      · exact w3
      · exact q5 a ha
    · rename_i h1
      injection h with e1 e2
      subst e2
      exact absurd ht h1
theorem putB_getS (b : List UInt8) (h : (getS b).2.2 = 0) : RightC (getS b).1 ∧ (∀ a ∈ (getS b).2.1, RightA a) ∧ putB (getS b).1 (getS b).2.1 (getS b).2.1.length = b := by
  simp only [getS] at h ⊢
  generalize hh : headS b = p at h ⊢
  obtain ⟨c, n, s⟩ := p
  simp only at h ⊢
  generalize hl : listS n.toNat s [] = q at h ⊢
  obtain ⟨l, t⟩ := q
  simp only at h ⊢
  by_cases hd : doneS t = 0
  · rw [if_pos hd] at h ⊢
    by_cases hr : RightC c
    · rw [if_pos hr] at h ⊢
      refine ⟨hr, ?_⟩
      have hte : t.e = 0 ∧ t.b = [] := by
        simp only [doneS] at hd
        split at hd
        · omega
        · rename_i hx
          refine ⟨hd, ?_⟩
          by_cases hz : t.b = []
          · exact hz
          · exact absurd ⟨hd, List.length_pos_iff.2 hz⟩ hx
      obtain ⟨m, q1, q2, q3, q4, q5⟩ := listS_inv _ _ _ _ _ hl hte.1
      simp only [List.nil_append] at q1
      subst q1
      refine ⟨q5, ?_⟩
      rw [hte.2, List.append_nil] at q4
      simp only [headS] at hh
      generalize h1 : uptoS ⟨b, 0⟩ 1048576 = p1 at hh
      obtain ⟨v1, s1⟩ := p1
      simp only at hh
      generalize h2 : numS s1 = p2 at hh
      obtain ⟨v2, s2⟩ := p2
      simp only at hh
      generalize h3 : numS s2 = p3 at hh
      obtain ⟨v3, s3⟩ := p3
      simp only at hh
      generalize h4 : numS s3 = p4 at hh
      obtain ⟨v4, s4⟩ := p4
      simp only at hh
      generalize h5 : numS s4 = p5 at hh
      obtain ⟨v5, s5⟩ := p5
      simp only at hh
      generalize h6 : numS s5 = p6 at hh
      obtain ⟨v6, s6⟩ := p6
      simp only at hh
      generalize h7 : numS s6 = p7 at hh
      obtain ⟨v7, s7⟩ := p7
      simp only at hh
      generalize h8 : numS s7 = p8 at hh
      obtain ⟨v8, s8⟩ := p8
      simp only at hh
      generalize h9 : numS s8 = p9 at hh
      obtain ⟨v9, s9⟩ := p9
      simp only at hh
      generalize h10 : numS s9 = p10 at hh
      obtain ⟨v10, s10⟩ := p10
      simp only at hh
      generalize h11 : numS s10 = p11 at hh
      obtain ⟨v11, s11⟩ := p11
      simp only at hh
      generalize h12 : numS s11 = p12 at hh
      obtain ⟨v12, s12⟩ := p12
      simp only at hh
      generalize h13 : uptoS s12 1024 = p13 at hh
      obtain ⟨v13, s13⟩ := p13
      simp only [Prod.mk.injEq] at hh
      obtain ⟨rfl, rfl, rfl⟩ := hh
      obtain ⟨e13, w13, b13, c13, _⟩ := uptoS_inv h13 q3
      obtain ⟨e12, w12, _⟩ := numS_inv h12 e13
      obtain ⟨e11, w11, _⟩ := numS_inv h11 e12
      obtain ⟨e10, w10, _⟩ := numS_inv h10 e11
      obtain ⟨e9, w9, _⟩ := numS_inv h9 e10
      obtain ⟨e8, w8, _⟩ := numS_inv h8 e9
      obtain ⟨e7, w7, _⟩ := numS_inv h7 e8
      obtain ⟨e6, w6, _⟩ := numS_inv h6 e7
      obtain ⟨e5, w5, _⟩ := numS_inv h5 e6
      obtain ⟨e4, w4, _⟩ := numS_inv h4 e5
      obtain ⟨e3, w3, _⟩ := numS_inv h3 e4
      obtain ⟨e2, w2, _⟩ := numS_inv h2 e3
      obtain ⟨e1, w1, _⟩ := uptoS_inv h1 e2
      have hn : (l.length : Int) = v13 := by omega
      simp only [putB, cfgNs, List.flatMap_cons, List.flatMap_nil, List.append_assoc, List.nil_append, hn]
      simp only at w1
      rw [w1, w2, w3, w4, w5, w6, w7, w8, w9, w10, w11, w12, w13, q4]
    · rw [if_neg hr] at h
      simp at h
  · rw [if_neg hd] at h
    exact absurd h hd
end Go.Proofs.Ytfdlcefiidanlaa

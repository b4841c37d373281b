/-
  wire.Eye: what it reads.
-/
import Derived.Test.YthfoeaokfhbdaaaGreatDP3
set_option linter.unusedSimpArgs false
set_option linter.unusedVariables false
set_option maxRecDepth 100000
set_option maxHeartbeats 4000000
namespace Go.Proofs.YthfoeaokfhbdaaaGreat
open Go Go.AL Go.Proofs.YthfoeaokfhbdaaaGreat.T

/-- an eye: what is left to be read, and the first error -/
structure ES where
  b : List UInt8
  e : Int
def eyeA (s : ES) : AV := .agg 2 [.sl 1 (u8s s.b) 0, n64 s.e]
theorem nb_eye {m : Nat} (s : ES) : (eyeA s).nb m = True := by simp [eyeA, AV.nb, AV.nbs, nb_u8s]
def failS (s : ES) (c : Int) : ES := if s.e = 0 then ⟨s.b, c⟩ else s

attribute [local go_sem] nb_vals nb_u8s vals_len u8s_length u8_cs u8_gd u8_ag u8_nb nb_eye
theorem fail_spec (nx m : Nat) (s : ES) (c : Int) (hm : m < nx) : FnSpec Tryz.prog 134 nx [.ref m 0 [], n64 c] [(m, some (.obj (eyeA s)))] (.tup []) [(m, some (.obj (eyeA (failS s c))))] 0 := by
  refine FnSpec.of_code (cx := cx) (an := {}) (rs := []) mo Tryz.func134 rfl rfl (by kernel_rfl) (by kernel_rfl) (by show 2 ≤ _; decide) (.inr ⟨_, rfl, by simp [AV.good]⟩) (by simp [allWr, keys, Res.wr]) ?_
  simp -dsimp -implicitDefEqProofs only [go_sem, ↓reduceIte, Nat.reduceEqDiff, Nat.reduceAdd, Nat.reduceMul, Nat.reduceLeDiff, Nat.reduceLT, Nat.reduceBEq, Nat.reducePow, Int.reduceToNat, Int.reduceLE, Int.reduceLT, Int.reduceNeg, reduceCtorEq, Int.reduceEq, Int.reduceAdd, Int.reduceSub, Int.reduceMul, Nat.reduceSub, eyeA]
  refine brT (fun h => ?_) (fun h => ?_)
  · simp -dsimp -implicitDefEqProofs only [go_sem, ↓reduceIte, Nat.reduceEqDiff, Nat.reduceAdd, Nat.reduceMul, Nat.reduceLeDiff, Nat.reduceLT, Nat.reduceBEq, Nat.reducePow, Int.reduceToNat, Int.reduceLE, Int.reduceLT, Int.reduceNeg, reduceCtorEq, Int.reduceEq, Int.reduceAdd, Int.reduceSub, Int.reduceMul, Nat.reduceSub, eyeA, failS, h]
    exact hm
  · simp -dsimp -implicitDefEqProofs only [go_sem, ↓reduceIte, Nat.reduceEqDiff, Nat.reduceAdd, Nat.reduceMul, Nat.reduceLeDiff, Nat.reduceLT, Nat.reduceBEq, Nat.reducePow, Int.reduceToNat, Int.reduceLE, Int.reduceLT, Int.reduceNeg, reduceCtorEq, Int.reduceEq, Int.reduceAdd, Int.reduceSub, Int.reduceMul, Nat.reduceSub, eyeA, failS, h]
    exact hm

theorem err_spec (nx m : Nat) (s : ES) : FnSpec Tryz.prog 135 nx [.ref m 0 []] [(m, some (.robj (eyeA s)))] (n64 s.e) [] 0 := by
  refine FnSpec.of_code (cx := cx) (an := {}) (rs := [.tmp 2]) mo Tryz.func135 rfl rfl (by kernel_rfl) (by kernel_rfl) (by show 1 ≤ _; decide) (.inl rfl) (by simp [allWr, keys, Res.wr]) ?_
  simp -dsimp -implicitDefEqProofs only [go_sem, ↓reduceIte, Nat.reduceEqDiff, Nat.reduceAdd, Nat.reduceMul, Nat.reduceLeDiff, Nat.reduceLT, Nat.reduceBEq, Nat.reducePow, Int.reduceToNat, Int.reduceLE, Int.reduceLT, Int.reduceNeg, reduceCtorEq, Int.reduceEq, Int.reduceAdd, Int.reduceSub, Int.reduceMul, Nat.reduceSub, eyeA]

theorem look_spec (nx : Nat) (b : List UInt8) : FnSpec Tryz.prog 70 nx [.sl 1 (u8s b) 0] [] (.ref (nx + 24) 0 []) [(nx + 24, some (.obj (eyeA ⟨b, 0⟩)))] 25 := by
  refine FnSpec.of_code (cx := cx) (an := {mt := [5]}) (rs := [.tmp 2]) mo Tryz.func70 rfl rfl (by kernel_rfl) (by kernel_rfl) (by show 1 ≤ _; decide) (.inl rfl) (by simp [allWr, keys, Res.wr]) ?_
  simp -dsimp -implicitDefEqProofs only [go_sem, ↓reduceIte, Nat.reduceEqDiff, Nat.reduceAdd, Nat.reduceMul, Nat.reduceLeDiff, Nat.reduceLT, Nat.reduceBEq, Nat.reducePow, Int.reduceToNat, Int.reduceLE, Int.reduceLT, Int.reduceNeg, reduceCtorEq, Int.reduceEq, Int.reduceAdd, Int.reduceSub, Int.reduceMul, Nat.reduceSub, eyeA]

inductive GR where
  | ok (v : Nat) (r : List UInt8)
  | err (c : Int)
/-- a number, read: k bytes more at most, i bytes ahead, which came to v -/
def getN : Nat → Nat → Nat → List UInt8 → GR
  | 0, _, _, _ => .err 5
  | _ + 1, _, _, [] => .err 2
  | k + 1, i, v, c :: r => if c.toNat < 128 then (if c.toNat = 0 ∧ 0 < i then .err 4 else .ok (v + c.toNat % 128 * 128 ^ i) r) else getN k (i + 1) (v + c.toNat % 128 * 128 ^ i) r
def numS (s : ES) : Nat × ES :=
  if s.e = 0 then match getN 9 0 0 s.b with
    | .ok v r => (v, ⟨r, 0⟩)
    | .err c => (0, ⟨s.b, c⟩)
  else (0, s)

theorem land127 : ∀ x : Fin 256, (x.val &&& 127) = x.val % 128 := by decide
theorem and_byte (c : UInt8) : IntKind.u8.wrap ((BitVec.ofInt IntKind.u8.bits ((c.toNat : Nat) : Int) &&& BitVec.ofInt IntKind.u8.bits 127).toNat : Int) = ((c.toNat % 128 : Nat) : Int) := by
  have h0 := c.toNat_lt
  have h1 : (BitVec.ofInt IntKind.u8.bits ((c.toNat : Nat) : Int)).toNat = c.toNat := by
    show (BitVec.ofInt 8 _).toNat = _
    rw [BitVec.toNat_ofInt]
    omega
  have h2 : (BitVec.ofInt IntKind.u8.bits 127).toNat = 127 := rfl
  rw [BitVec.toNat_and, h1, h2]
  have := land127 ⟨c.toNat, by omega⟩
  simp only at this
  rw [this, IntKind.wrap_u8]
  omega
theorem or_step {v i : Nat} (c : UInt8) (hv : v < 128 ^ i) (hi : i ≤ 8) :
    IntKind.u64.wrap ((BitVec.ofInt IntKind.u64.bits ((v : Nat) : Int) ||| BitVec.ofInt IntKind.u64.bits (IntKind.u64.wrap (IntKind.u64.wrap ((c.toNat % 128 : Nat) : Int) * 2 ^ (7 * i)))).toNat : Int) = ((v + c.toNat % 128 * 128 ^ i : Nat) : Int) := by
  have hp : (128 : Nat) ^ i = 2 ^ (7 * i) := by rw [Nat.pow_mul]
  have h7 : 2 ^ (7 * i) ≤ 2 ^ 56 := Nat.pow_le_pow_right (by omega) (by omega)
  have hlt : c.toNat % 128 * 2 ^ (7 * i) ≤ 127 * 2 ^ 56 := Nat.mul_le_mul (by omega) h7
  rw [hp] at hv ⊢
  have e1 : ((c.toNat % 128 : Nat) : Int) * 2 ^ (7 * i) = ((c.toNat % 128 * 2 ^ (7 * i) : Nat) : Int) := by push_cast; rfl
  have h1 : (BitVec.ofInt IntKind.u64.bits ((v : Nat) : Int)).toNat = v := by
    show (BitVec.ofInt 64 _).toNat = _
    rw [BitVec.toNat_ofInt]
    omega
  have h2 : (BitVec.ofInt IntKind.u64.bits (IntKind.u64.wrap (((c.toNat % 128 * 2 ^ (7 * i) : Nat) : Int)))).toNat = c.toNat % 128 * 2 ^ (7 * i) := by
    show (BitVec.ofInt 64 _).toNat = _
    rw [BitVec.toNat_ofInt, IntKind.wrap_u64]
    omega
  have e0 : IntKind.u64.wrap ((c.toNat % 128 : Nat) : Int) = ((c.toNat % 128 : Nat) : Int) := by rw [IntKind.wrap_u64]; omega
  rw [e0, e1, BitVec.toNat_or, h1, h2]
  have h3 : v ||| c.toNat % 128 * 2 ^ (7 * i) = v + c.toNat % 128 * 2 ^ (7 * i) := by
    rw [Nat.or_comm, Nat.mul_comm, ← Nat.two_pow_add_eq_or_of_lt hv, Nat.add_comm]
  rw [h3, IntKind.wrap_u64]
  omega

theorem enum_spec (nx m : Nat) (s : ES) (hm : m < nx) (hb : s.b.length < 2 ^ 40) : FnSpec Tryz.prog 133 nx [.ref m 0 []] [(m, some (.obj (eyeA s)))] (n64 (numS s).1) [(m, some (.obj (eyeA (numS s).2)))] 0 := by
  obtain ⟨bs, e⟩ := s
  simp only at hb
  refine FnSpec.of_code (cx := cx) (an := {}) (rs := [.tmp 2]) mo Tryz.func133 rfl rfl (by kernel_rfl) (by kernel_rfl) (by show 1 ≤ _; decide) (.inl rfl) (by simp [allWr, keys, Res.wr]) ?_
  simp -dsimp -implicitDefEqProofs only [go_sem, ↓reduceIte, Nat.reduceEqDiff, Nat.reduceAdd, Nat.reduceMul, Nat.reduceLeDiff, Nat.reduceLT, Nat.reduceBEq, Nat.reducePow, Int.reduceToNat, Int.reduceLE, Int.reduceLT, Int.reduceNeg, reduceCtorEq, Int.reduceEq, Int.reduceAdd, Int.reduceSub, Int.reduceMul, Nat.reduceSub]
  refine callK_by (err_spec _ m ⟨bs, e⟩) ?_
  simp -dsimp -implicitDefEqProofs only [go_sem, ↓reduceIte, Nat.reduceEqDiff, Nat.reduceAdd, Nat.reduceMul, Nat.reduceLeDiff, Nat.reduceLT, Nat.reduceBEq, Nat.reducePow, Int.reduceToNat, Int.reduceLE, Int.reduceLT, Int.reduceNeg, reduceCtorEq, Int.reduceEq, Int.reduceAdd, Int.reduceSub, Int.reduceMul, Nat.reduceSub]
  refine brF (fun h => ?_) (fun h => ?_)
  · as_aux_lemma =>
    have hn : numS ⟨bs, e⟩ = (0, ⟨bs, e⟩) := by simp [numS, h]
    rw [hn]
    simp -dsimp -implicitDefEqProofs only [go_sem, ↓reduceIte, Nat.reduceEqDiff, Nat.reduceAdd, Nat.reduceMul, Nat.reduceLeDiff, Nat.reduceLT, Nat.reduceBEq, Nat.reducePow, Int.reduceToNat, Int.reduceLE, Int.reduceLT, Int.reduceNeg, reduceCtorEq, Int.reduceEq, Int.reduceAdd, Int.reduceSub, Int.reduceMul, Nat.reduceSub]
    exact hm
  · subst h
    have hN : ∀ c, getN 9 0 0 bs = .err c → numS ⟨bs, 0⟩ = (0, ⟨bs, c⟩) := fun c h => by simp [numS, h]
    have hO : ∀ v r, getN 9 0 0 bs = .ok v r → numS ⟨bs, 0⟩ = (v, ⟨r, 0⟩) := fun v r h => by simp [numS, h]
    have hF : ∀ c, failS ⟨bs, 0⟩ c = ⟨bs, c⟩ := fun c => rfl
    simp -dsimp -implicitDefEqProofs only [go_sem, ↓reduceIte, Nat.reduceEqDiff, Nat.reduceAdd, Nat.reduceMul, Nat.reduceLeDiff, Nat.reduceLT, Nat.reduceBEq, Nat.reducePow, Int.reduceToNat, Int.reduceLE, Int.reduceLT, Int.reduceNeg, reduceCtorEq, Int.reduceEq, Int.reduceAdd, Int.reduceSub, Int.reduceMul, Nat.reduceSub]
    apply loop_keep [0] (fun s : { s : Nat × Nat // s.1 ≤ 9 ∧ s.1 ≤ bs.length ∧ s.2 < 128 ^ s.1 ∧ getN (9 - s.1) s.1 s.2 (bs.drop s.1) = getN 9 0 0 bs } => [(3, .val (.int .u64 s.1.2)), (9, n64 s.1.1)])
      (fun s => [(m, some (.obj (eyeA ⟨bs, 0⟩)))]) (fun s => 9 - s.1.1) ⟨(0, 0), by simp⟩
    · simp -dsimp -implicitDefEqProofs only [go_sem, ↓reduceIte, Nat.reduceEqDiff, Nat.reduceAdd, Nat.reduceMul, Nat.reduceLeDiff, Nat.reduceLT, Nat.reduceBEq, Nat.reducePow, Int.reduceToNat, Int.reduceLE, Int.reduceLT, Int.reduceNeg, reduceCtorEq, Int.reduceEq, Int.reduceAdd, Int.reduceSub, Int.reduceMul, Nat.reduceSub]; rfl
    · simp -dsimp -implicitDefEqProofs only [go_sem, ↓reduceIte, Nat.reduceEqDiff, Nat.reduceAdd, Nat.reduceMul, Nat.reduceLeDiff, Nat.reduceLT, Nat.reduceBEq, Nat.reducePow, Int.reduceToNat, Int.reduceLE, Int.reduceLT, Int.reduceNeg, reduceCtorEq, Int.reduceEq, Int.reduceAdd, Int.reduceSub, Int.reduceMul, Nat.reduceSub]
    · simp -dsimp -implicitDefEqProofs only [go_sem, ↓reduceIte, Nat.reduceEqDiff, Nat.reduceAdd, Nat.reduceMul, Nat.reduceLeDiff, Nat.reduceLT, Nat.reduceBEq, Nat.reducePow, Int.reduceToNat, Int.reduceLE, Int.reduceLT, Int.reduceNeg, reduceCtorEq, Int.reduceEq, Int.reduceAdd, Int.reduceSub, Int.reduceMul, Nat.reduceSub]
    · intro s
      simp -dsimp -implicitDefEqProofs only [go_sem, ↓reduceIte, Nat.reduceEqDiff, Nat.reduceAdd, Nat.reduceMul, Nat.reduceLeDiff, Nat.reduceLT, Nat.reduceBEq, Nat.reducePow, Int.reduceToNat, Int.reduceLE, Int.reduceLT, Int.reduceNeg, reduceCtorEq, Int.reduceEq, Int.reduceAdd, Int.reduceSub, Int.reduceMul, Nat.reduceSub]
      omega
    · as_aux_lemma =>
      rintro ⟨⟨i, v⟩, h1, h2, h3, h4⟩
      simp only at h1 h2 h3 h4
      simp -dsimp -implicitDefEqProofs only [go_sem, ↓reduceIte, Nat.reduceEqDiff, Nat.reduceAdd, Nat.reduceMul, Nat.reduceLeDiff, Nat.reduceLT, Nat.reduceBEq, Nat.reducePow, Int.reduceToNat, Int.reduceLE, Int.reduceLT, Int.reduceNeg, reduceCtorEq, Int.reduceEq, Int.reduceAdd, Int.reduceSub, Int.reduceMul, Nat.reduceSub]
      refine brT (fun h => ?_) (fun h => ?_)
      · as_aux_lemma =>
        have hi : i < 9 := by omega
        have hw : IntKind.i64.wrap ((i : Int) + 1) = ((i + 1 : Nat) : Int) := wrapE (by omega) (by omega)
        have h7 : IntKind.i64.wrap (7 * (i : Int)) = ((7 * i : Nat) : Int) := wrapE (by omega) (by omega)
        have hm7 : min (7 * i) 64 = 7 * i := by omega
        have hnn : ((0 : Int) ≤ ((7 * i : Nat) : Int)) = True := by simp only [eq_iff_iff, iff_true]; omega
        obtain ⟨k, hk⟩ : ∃ k, 9 - i = k + 1 := ⟨8 - i, by omega⟩
        rw [hk] at h4
        simp -dsimp -implicitDefEqProofs only [go_sem, ↓reduceIte, Nat.reduceEqDiff, Nat.reduceAdd, Nat.reduceMul, Nat.reduceLeDiff, Nat.reduceLT, Nat.reduceBEq, Nat.reducePow, Int.reduceToNat, Int.reduceLE, Int.reduceLT, Int.reduceNeg, reduceCtorEq, Int.reduceEq, Int.reduceAdd, Int.reduceSub, Int.reduceMul, Nat.reduceSub, eyeA]
        refine brT (fun hl => ?_) (fun hl => ?_)
        · as_aux_lemma =>
          have e0 : bs.drop i = [] := List.drop_eq_nil_of_le (by omega)
          rw [e0] at h4
          rw [hN 2 h4.symm]
          simp -dsimp -implicitDefEqProofs only [go_sem, ↓reduceIte, Nat.reduceEqDiff, Nat.reduceAdd, Nat.reduceMul, Nat.reduceLeDiff, Nat.reduceLT, Nat.reduceBEq, Nat.reducePow, Int.reduceToNat, Int.reduceLE, Int.reduceLT, Int.reduceNeg, reduceCtorEq, Int.reduceEq, Int.reduceAdd, Int.reduceSub, Int.reduceMul, Nat.reduceSub]
          refine callK_by (fail_spec _ m ⟨bs, 0⟩ 2 (by omega)) ?_
          simp -dsimp -implicitDefEqProofs only [go_sem, ↓reduceIte, Nat.reduceEqDiff, Nat.reduceAdd, Nat.reduceMul, Nat.reduceLeDiff, Nat.reduceLT, Nat.reduceBEq, Nat.reducePow, Int.reduceToNat, Int.reduceLE, Int.reduceLT, Int.reduceNeg, reduceCtorEq, Int.reduceEq, Int.reduceAdd, Int.reduceSub, Int.reduceMul, Nat.reduceSub, hF]
          exact ⟨rfl, rfl, hm⟩
        · as_aux_lemma =>
          have hl2 : i < bs.length := by omega
          have e0 : bs.drop i = bs[i] :: bs.drop (i + 1) := List.drop_eq_getElem_cons hl2
          have hg : bs.getD i 0 = bs[i] := by rw [List.getD_eq_getElem?_getD, List.getElem?_eq_getElem hl2]; rfl
          rw [e0] at h4
          simp only [getN] at h4
          generalize bs[i] = c at *
          have hst := or_step c h3 (by omega)
          simp -dsimp -implicitDefEqProofs only [go_sem, ↓reduceIte, Nat.reduceEqDiff, Nat.reduceAdd, Nat.reduceMul, Nat.reduceLeDiff, Nat.reduceLT, Nat.reduceBEq, Nat.reducePow, Int.reduceToNat, Int.reduceLE, Int.reduceLT, Int.reduceNeg, reduceCtorEq, Int.reduceEq, Int.reduceAdd, Int.reduceSub, Int.reduceMul, Nat.reduceSub, eyeA, u8s_get hl2, hg, h7, hm7, hnn, and_byte, hst]
          have hc256 := c.toNat_lt
          have hv2 : v + c.toNat % 128 * 128 ^ i < 128 ^ (i + 1) := by
            rw [Nat.pow_succ]
            have : c.toNat % 128 * 128 ^ i ≤ 127 * 128 ^ i := Nat.mul_le_mul_right _ (by omega)
            omega
          refine ⟨hl2, brT (fun hc => ?_) (fun hc => ?_)⟩
          · as_aux_lemma =>
            rw [if_pos (by omega)] at h4
            have h9 : (128 : Nat) ^ (i + 1) ≤ 128 ^ 9 := Nat.pow_le_pow_right (by omega) (by omega)
            have hcv : IntKind.i64.wrap ((v + c.toNat % 128 * 128 ^ i : Nat) : Int) = ((v + c.toNat % 128 * 128 ^ i : Nat) : Int) := wrapE rfl (by omega)
            have htk : bs.take bs.length = bs := List.take_length
            have fin : ¬ (c.toNat = 0 ∧ 0 < i) → getN 9 0 0 bs = .ok (v + c.toNat % 128 * 128 ^ i) (bs.drop (i + 1)) := fun hz => by rw [if_neg hz] at h4; exact h4.symm
            generalize v + c.toNat % 128 * 128 ^ i = V at *
            simp -dsimp -implicitDefEqProofs only [go_sem, ↓reduceIte, Nat.reduceEqDiff, Nat.reduceAdd, Nat.reduceMul, Nat.reduceLeDiff, Nat.reduceLT, Nat.reduceBEq, Nat.reducePow, Int.reduceToNat, Int.reduceLE, Int.reduceLT, Int.reduceNeg, reduceCtorEq, Int.reduceEq, Int.reduceAdd, Int.reduceSub, Int.reduceMul, Nat.reduceSub]
            refine brT (fun hz => ?_) (fun hz => ?_)
            · as_aux_lemma =>
              simp -dsimp -implicitDefEqProofs only [go_sem, ↓reduceIte, Nat.reduceEqDiff, Nat.reduceAdd, Nat.reduceMul, Nat.reduceLeDiff, Nat.reduceLT, Nat.reduceBEq, Nat.reducePow, Int.reduceToNat, Int.reduceLE, Int.reduceLT, Int.reduceNeg, reduceCtorEq, Int.reduceEq, Int.reduceAdd, Int.reduceSub, Int.reduceMul, Nat.reduceSub]
              refine brT (fun hz2 => ?_) (fun hz2 => ?_)
              · as_aux_lemma =>
                rw [if_pos ⟨by omega, by omega⟩] at h4
                rw [hN 4 h4.symm]
                simp -dsimp -implicitDefEqProofs only [go_sem, ↓reduceIte, Nat.reduceEqDiff, Nat.reduceAdd, Nat.reduceMul, Nat.reduceLeDiff, Nat.reduceLT, Nat.reduceBEq, Nat.reducePow, Int.reduceToNat, Int.reduceLE, Int.reduceLT, Int.reduceNeg, reduceCtorEq, Int.reduceEq, Int.reduceAdd, Int.reduceSub, Int.reduceMul, Nat.reduceSub]
                refine callK_by (fail_spec _ m ⟨bs, 0⟩ 4 (by omega)) ?_
                simp -dsimp -implicitDefEqProofs only [go_sem, ↓reduceIte, Nat.reduceEqDiff, Nat.reduceAdd, Nat.reduceMul, Nat.reduceLeDiff, Nat.reduceLT, Nat.reduceBEq, Nat.reducePow, Int.reduceToNat, Int.reduceLE, Int.reduceLT, Int.reduceNeg, reduceCtorEq, Int.reduceEq, Int.reduceAdd, Int.reduceSub, Int.reduceMul, Nat.reduceSub, hF]
                exact ⟨rfl, rfl, hm⟩
              · as_aux_lemma =>
                rw [hO _ _ (fin (by omega))]
                simp -dsimp -implicitDefEqProofs only [go_sem, ↓reduceIte, Nat.reduceEqDiff, Nat.reduceAdd, Nat.reduceMul, Nat.reduceLeDiff, Nat.reduceLT, Nat.reduceBEq, Nat.reducePow, Int.reduceToNat, Int.reduceLE, Int.reduceLT, Int.reduceNeg, reduceCtorEq, Int.reduceEq, Int.reduceAdd, Int.reduceSub, Int.reduceMul, Nat.reduceSub, hw, hcv, u8s_take, u8s_drop, htk]
                exact ⟨⟨by omega, by omega⟩, hm⟩
            · as_aux_lemma =>
              rw [hO _ _ (fin (by omega))]
              simp -dsimp -implicitDefEqProofs only [go_sem, ↓reduceIte, Nat.reduceEqDiff, Nat.reduceAdd, Nat.reduceMul, Nat.reduceLeDiff, Nat.reduceLT, Nat.reduceBEq, Nat.reducePow, Int.reduceToNat, Int.reduceLE, Int.reduceLT, Int.reduceNeg, reduceCtorEq, Int.reduceEq, Int.reduceAdd, Int.reduceSub, Int.reduceMul, Nat.reduceSub, hw, hcv, u8s_take, u8s_drop, htk]
              exact ⟨⟨by omega, by omega⟩, hm⟩
          · as_aux_lemma =>
            rw [if_neg (by omega)] at h4
            simp -dsimp -implicitDefEqProofs only [go_sem, ↓reduceIte, Nat.reduceEqDiff, Nat.reduceAdd, Nat.reduceMul, Nat.reduceLeDiff, Nat.reduceLT, Nat.reduceBEq, Nat.reducePow, Int.reduceToNat, Int.reduceLE, Int.reduceLT, Int.reduceNeg, reduceCtorEq, Int.reduceEq, Int.reduceAdd, Int.reduceSub, Int.reduceMul, Nat.reduceSub, hw]
            refine ⟨⟨(i + 1, v + c.toNat % 128 * 128 ^ i), by omega, by omega, hv2, by simp only; rw [← h4]; congr 1; omega⟩, by show 9 - (i + 1) < 9 - i; omega, ⟨rfl, rfl⟩, rfl⟩
      · as_aux_lemma =>
        have hi : i = 9 := by omega
        subst hi
        simp only [Nat.sub_self, getN] at h4
        rw [hN 5 h4.symm]
        simp -dsimp -implicitDefEqProofs only [go_sem, ↓reduceIte, Nat.reduceEqDiff, Nat.reduceAdd, Nat.reduceMul, Nat.reduceLeDiff, Nat.reduceLT, Nat.reduceBEq, Nat.reducePow, Int.reduceToNat, Int.reduceLE, Int.reduceLT, Int.reduceNeg, reduceCtorEq, Int.reduceEq, Int.reduceAdd, Int.reduceSub, Int.reduceMul, Nat.reduceSub]
        refine callK_by (fail_spec _ m ⟨bs, 0⟩ 5 (by omega)) ?_
        simp -dsimp -implicitDefEqProofs only [go_sem, ↓reduceIte, Nat.reduceEqDiff, Nat.reduceAdd, Nat.reduceMul, Nat.reduceLeDiff, Nat.reduceLT, Nat.reduceBEq, Nat.reducePow, Int.reduceToNat, Int.reduceLE, Int.reduceLT, Int.reduceNeg, reduceCtorEq, Int.reduceEq, Int.reduceAdd, Int.reduceSub, Int.reduceMul, Nat.reduceSub, hF]
        exact hm

theorem getN_len : ∀ (k i v : Nat) (bs : List UInt8) (w : Nat) (r : List UInt8), getN k i v bs = .ok w r → r.length < bs.length
  | 0, _, _, _, _, _, h => by simp [getN] at h
  | _ + 1, _, _, [], _, _, h => by simp [getN] at h
  | k + 1, i, v, c :: bs, w, r, h => by
    simp only [getN] at h
    split at h
    · split at h
      · cases h
      · injection h with h1 h2; subst h2; simp
    · have := getN_len k _ _ bs w r h
      simp; omega
theorem numS_len (s : ES) : (numS s).2.b.length ≤ s.b.length := by
  unfold numS
  split
  · split
    · rename_i h; have := getN_len _ _ _ _ _ _ h; simp only; omega
    · simp
  · simp

def uptoS (s : ES) (most : Int) : Int × ES :=
  let n : Int := (numS s).1
  let s2 := if most < n then failS (numS s).2 5 else (numS s).2
  if s2.e = 0 then (n, s2) else (0, s2)
theorem failS_b (s : ES) (c : Int) : (failS s c).b = s.b := by unfold failS; split <;> rfl
theorem uptoS_len (s : ES) (m : Int) : (uptoS s m).2.b.length ≤ s.b.length := by
  have := numS_len s
  simp only [uptoS]
  split <;> split <;> simp only [failS_b] <;> omega

theorem upto_spec (nx m : Nat) (s : ES) (most : Int) (hm : m < nx) (hb : s.b.length < 2 ^ 40) : FnSpec Tryz.prog 71 nx [.ref m 0 [], n64 most] [(m, some (.obj (eyeA s)))] (n64 (uptoS s most).1) [(m, some (.obj (eyeA (uptoS s most).2)))] 0 := by
  refine FnSpec.of_code (cx := cx) (an := {}) (rs := [.tmp 4]) mo Tryz.func71 rfl rfl (by kernel_rfl) (by kernel_rfl) (by show 2 ≤ _; decide) (.inl rfl) (by simp [allWr, keys, Res.wr]) ?_
  simp -dsimp -implicitDefEqProofs only [go_sem, ↓reduceIte, Nat.reduceEqDiff, Nat.reduceAdd, Nat.reduceMul, Nat.reduceLeDiff, Nat.reduceLT, Nat.reduceBEq, Nat.reducePow, Int.reduceToNat, Int.reduceLE, Int.reduceLT, Int.reduceNeg, reduceCtorEq, Int.reduceEq, Int.reduceAdd, Int.reduceSub, Int.reduceMul, Nat.reduceSub]
  refine callK_by (enum_spec _ m s (by omega) hb) ?_
  simp -dsimp -implicitDefEqProofs only [go_sem, ↓reduceIte, Nat.reduceEqDiff, Nat.reduceAdd, Nat.reduceMul, Nat.reduceLeDiff, Nat.reduceLT, Nat.reduceBEq, Nat.reducePow, Int.reduceToNat, Int.reduceLE, Int.reduceLT, Int.reduceNeg, reduceCtorEq, Int.reduceEq, Int.reduceAdd, Int.reduceSub, Int.reduceMul, Nat.reduceSub]
  refine brT (fun h => ?_) (fun h => ?_)
  · simp -dsimp -implicitDefEqProofs only [go_sem, ↓reduceIte, Nat.reduceEqDiff, Nat.reduceAdd, Nat.reduceMul, Nat.reduceLeDiff, Nat.reduceLT, Nat.reduceBEq, Nat.reducePow, Int.reduceToNat, Int.reduceLE, Int.reduceLT, Int.reduceNeg, reduceCtorEq, Int.reduceEq, Int.reduceAdd, Int.reduceSub, Int.reduceMul, Nat.reduceSub]
    refine callK_by (fail_spec _ m (numS s).2 5 (by omega)) ?_
    simp -dsimp -implicitDefEqProofs only [go_sem, ↓reduceIte, Nat.reduceEqDiff, Nat.reduceAdd, Nat.reduceMul, Nat.reduceLeDiff, Nat.reduceLT, Nat.reduceBEq, Nat.reducePow, Int.reduceToNat, Int.reduceLE, Int.reduceLT, Int.reduceNeg, reduceCtorEq, Int.reduceEq, Int.reduceAdd, Int.reduceSub, Int.reduceMul, Nat.reduceSub]
    refine callK_by (err_spec _ m (failS (numS s).2 5)) ?_
    simp -dsimp -implicitDefEqProofs only [go_sem, ↓reduceIte, Nat.reduceEqDiff, Nat.reduceAdd, Nat.reduceMul, Nat.reduceLeDiff, Nat.reduceLT, Nat.reduceBEq, Nat.reducePow, Int.reduceToNat, Int.reduceLE, Int.reduceLT, Int.reduceNeg, reduceCtorEq, Int.reduceEq, Int.reduceAdd, Int.reduceSub, Int.reduceMul, Nat.reduceSub]
    refine brF (fun h2 => ?_) (fun h2 => ?_)
    · have e : uptoS s most = (0, failS (numS s).2 5) := by simp only [uptoS, h, if_true, h2, if_false]
      rw [e]
      simp -dsimp -implicitDefEqProofs only [go_sem, ↓reduceIte, Nat.reduceEqDiff, Nat.reduceAdd, Nat.reduceMul, Nat.reduceLeDiff, Nat.reduceLT, Nat.reduceBEq, Nat.reducePow, Int.reduceToNat, Int.reduceLE, Int.reduceLT, Int.reduceNeg, reduceCtorEq, Int.reduceEq, Int.reduceAdd, Int.reduceSub, Int.reduceMul, Nat.reduceSub]
      exact hm
    · have e : uptoS s most = (((numS s).1 : Int), failS (numS s).2 5) := by simp only [uptoS, h, if_true, h2]
      rw [e]
      simp -dsimp -implicitDefEqProofs only [go_sem, ↓reduceIte, Nat.reduceEqDiff, Nat.reduceAdd, Nat.reduceMul, Nat.reduceLeDiff, Nat.reduceLT, Nat.reduceBEq, Nat.reducePow, Int.reduceToNat, Int.reduceLE, Int.reduceLT, Int.reduceNeg, reduceCtorEq, Int.reduceEq, Int.reduceAdd, Int.reduceSub, Int.reduceMul, Nat.reduceSub]
      exact hm
  · simp -dsimp -implicitDefEqProofs only [go_sem, ↓reduceIte, Nat.reduceEqDiff, Nat.reduceAdd, Nat.reduceMul, Nat.reduceLeDiff, Nat.reduceLT, Nat.reduceBEq, Nat.reducePow, Int.reduceToNat, Int.reduceLE, Int.reduceLT, Int.reduceNeg, reduceCtorEq, Int.reduceEq, Int.reduceAdd, Int.reduceSub, Int.reduceMul, Nat.reduceSub]
    refine callK_by (err_spec _ m (numS s).2) ?_
    simp -dsimp -implicitDefEqProofs only [go_sem, ↓reduceIte, Nat.reduceEqDiff, Nat.reduceAdd, Nat.reduceMul, Nat.reduceLeDiff, Nat.reduceLT, Nat.reduceBEq, Nat.reducePow, Int.reduceToNat, Int.reduceLE, Int.reduceLT, Int.reduceNeg, reduceCtorEq, Int.reduceEq, Int.reduceAdd, Int.reduceSub, Int.reduceMul, Nat.reduceSub]
    refine brF (fun h2 => ?_) (fun h2 => ?_)
    · have e : uptoS s most = (0, (numS s).2) := by simp only [uptoS, h, h2, if_false]
      rw [e]
      simp -dsimp -implicitDefEqProofs only [go_sem, ↓reduceIte, Nat.reduceEqDiff, Nat.reduceAdd, Nat.reduceMul, Nat.reduceLeDiff, Nat.reduceLT, Nat.reduceBEq, Nat.reducePow, Int.reduceToNat, Int.reduceLE, Int.reduceLT, Int.reduceNeg, reduceCtorEq, Int.reduceEq, Int.reduceAdd, Int.reduceSub, Int.reduceMul, Nat.reduceSub]
      exact hm
    · have e : uptoS s most = (((numS s).1 : Int), (numS s).2) := by simp only [uptoS, h, if_false, h2, if_true]
      rw [e]
      simp -dsimp -implicitDefEqProofs only [go_sem, ↓reduceIte, Nat.reduceEqDiff, Nat.reduceAdd, Nat.reduceMul, Nat.reduceLeDiff, Nat.reduceLT, Nat.reduceBEq, Nat.reducePow, Int.reduceToNat, Int.reduceLE, Int.reduceLT, Int.reduceNeg, reduceCtorEq, Int.reduceEq, Int.reduceAdd, Int.reduceSub, Int.reduceMul, Nat.reduceSub]
      exact hm

def rawS (s : ES) (n : Int) : List UInt8 × ES :=
  if s.e = 0 then (if n < 0 ∨ (s.b.length : Int) < n then ([], failS s 2) else (s.b.take n.toNat, ⟨s.b.drop n.toNat, s.e⟩)) else ([], s)
theorem raw_spec0 (nx m : Nat) (s : ES) (n : Int) (hm : m < nx) (hb : s.b.length < 2 ^ 40) (h0 : s.e = 0) (h1 : 0 ≤ n) (h2 : n ≤ s.b.length) :
    FnSpec Tryz.prog 136 nx [.ref m 0 [], n64 n] [(m, some (.obj (eyeA s)))] (.sl 1 (u8s (s.b.take n.toNat)) (nx + 170)) [(m, some (.obj (eyeA ⟨s.b.drop n.toNat, 0⟩))), (nx + 168, some (.tail (s.b.take n.toNat).length))] 169 := by
  obtain ⟨bs, e⟩ := s
  simp only at h0 hb h2
  subst h0
  have x1 := fun k => lt_nx hm k
  have x2 := fun k => nx_gt hm k
  have htk : bs.take bs.length = bs := List.take_length
  refine FnSpec.of_code (cx := cx) (an := {}) (rs := [.tmp 4]) mo Tryz.func136 rfl rfl (by kernel_rfl) (by kernel_rfl) (by show 2 ≤ _; decide) (.inl rfl) (by simp [allWr, keys, Res.wr]) ?_
  simp -dsimp -implicitDefEqProofs only [go_sem, ↓reduceIte, Nat.reduceEqDiff, Nat.reduceAdd, Nat.reduceMul, Nat.reduceLeDiff, Nat.reduceLT, Nat.reduceBEq, Nat.reducePow, Int.reduceToNat, Int.reduceLE, Int.reduceLT, Int.reduceNeg, reduceCtorEq, Int.reduceEq, Int.reduceAdd, Int.reduceSub, Int.reduceMul, Nat.reduceSub]
  refine callK_by (err_spec _ m ⟨bs, 0⟩) ?_
  simp -dsimp -implicitDefEqProofs only [go_sem, ↓reduceIte, Nat.reduceEqDiff, Nat.reduceAdd, Nat.reduceMul, Nat.reduceLeDiff, Nat.reduceLT, Nat.reduceBEq, Nat.reducePow, Int.reduceToNat, Int.reduceLE, Int.reduceLT, Int.reduceNeg, reduceCtorEq, Int.reduceEq, Int.reduceAdd, Int.reduceSub, Int.reduceMul, Nat.reduceSub]
  refine brF (fun h => ?_) (fun h => by exfalso; omega)
  simp -dsimp -implicitDefEqProofs only [go_sem, ↓reduceIte, Nat.reduceEqDiff, Nat.reduceAdd, Nat.reduceMul, Nat.reduceLeDiff, Nat.reduceLT, Nat.reduceBEq, Nat.reducePow, Int.reduceToNat, Int.reduceLE, Int.reduceLT, Int.reduceNeg, reduceCtorEq, Int.reduceEq, Int.reduceAdd, Int.reduceSub, Int.reduceMul, Nat.reduceSub, eyeA]
  refine brT (fun h => by exfalso; omega) (fun h => ?_)
  simp -dsimp -implicitDefEqProofs only [go_sem, ↓reduceIte, Nat.reduceEqDiff, Nat.reduceAdd, Nat.reduceMul, Nat.reduceLeDiff, Nat.reduceLT, Nat.reduceBEq, Nat.reducePow, Int.reduceToNat, Int.reduceLE, Int.reduceLT, Int.reduceNeg, reduceCtorEq, Int.reduceEq, Int.reduceAdd, Int.reduceSub, Int.reduceMul, Nat.reduceSub, eyeA, u8s_take, u8s_drop, htk, x1, x2]
  have hl : (bs.take n.toNat).length ≤ bs.length := by rw [List.length_take]; omega
  exact ⟨⟨by omega, by omega, by omega⟩, by omega, ⟨by omega, by omega, by omega⟩, by omega, by omega⟩

theorem raw_spec (nx m : Nat) (s : ES) (n : Int) (hm : m < nx) (hb : s.b.length < 2 ^ 40) :
    FnSpec Tryz.prog 136 nx [.ref m 0 [], n64 n] [(m, some (.obj (eyeA s)))] (.sl 1 (u8s (rawS s n).1) 0) [(m, some (.obj (eyeA (rawS s n).2)))] 0 := by
  by_cases h0 : s.e = 0
  · by_cases h1 : n < 0 ∨ (s.b.length : Int) < n
    · have e : rawS s n = ([], failS s 2) := by simp only [rawS, h0, h1, if_true]
      rw [e]
      have key : FnSpec Tryz.prog 136 nx [.ref m 0 [], n64 n] [(m, some (.obj (eyeA s)))] (.sl 0 [] 1) [(m, some (.obj (eyeA (failS s 2))))] 0 := by
        refine FnSpec.of_code (cx := cx) (an := {}) (rs := [.tmp 4]) mo Tryz.func136 rfl rfl (by kernel_rfl) (by kernel_rfl) (by show 2 ≤ _; decide) (.inl rfl) (by simp [allWr, keys, Res.wr]) ?_
        simp -dsimp -implicitDefEqProofs only [go_sem, ↓reduceIte, Nat.reduceEqDiff, Nat.reduceAdd, Nat.reduceMul, Nat.reduceLeDiff, Nat.reduceLT, Nat.reduceBEq, Nat.reducePow, Int.reduceToNat, Int.reduceLE, Int.reduceLT, Int.reduceNeg, reduceCtorEq, Int.reduceEq, Int.reduceAdd, Int.reduceSub, Int.reduceMul, Nat.reduceSub]
        refine callK_by (err_spec _ m s) ?_
        simp -dsimp -implicitDefEqProofs only [go_sem, ↓reduceIte, Nat.reduceEqDiff, Nat.reduceAdd, Nat.reduceMul, Nat.reduceLeDiff, Nat.reduceLT, Nat.reduceBEq, Nat.reducePow, Int.reduceToNat, Int.reduceLE, Int.reduceLT, Int.reduceNeg, reduceCtorEq, Int.reduceEq, Int.reduceAdd, Int.reduceSub, Int.reduceMul, Nat.reduceSub]
        refine brF (fun h => absurd h0 h) (fun h => ?_)
        simp -dsimp -implicitDefEqProofs only [go_sem, ↓reduceIte, Nat.reduceEqDiff, Nat.reduceAdd, Nat.reduceMul, Nat.reduceLeDiff, Nat.reduceLT, Nat.reduceBEq, Nat.reducePow, Int.reduceToNat, Int.reduceLE, Int.reduceLT, Int.reduceNeg, reduceCtorEq, Int.reduceEq, Int.reduceAdd, Int.reduceSub, Int.reduceMul, Nat.reduceSub, eyeA]
        refine brF (fun h2 => ?_) (fun h2 => ?_)
        · simp -dsimp -implicitDefEqProofs only [go_sem, ↓reduceIte, Nat.reduceEqDiff, Nat.reduceAdd, Nat.reduceMul, Nat.reduceLeDiff, Nat.reduceLT, Nat.reduceBEq, Nat.reducePow, Int.reduceToNat, Int.reduceLE, Int.reduceLT, Int.reduceNeg, reduceCtorEq, Int.reduceEq, Int.reduceAdd, Int.reduceSub, Int.reduceMul, Nat.reduceSub, eyeA]
          refine brT (fun h3 => ?_) (fun h3 => by exfalso; omega)
          simp -dsimp -implicitDefEqProofs only [go_sem, ↓reduceIte, Nat.reduceEqDiff, Nat.reduceAdd, Nat.reduceMul, Nat.reduceLeDiff, Nat.reduceLT, Nat.reduceBEq, Nat.reducePow, Int.reduceToNat, Int.reduceLE, Int.reduceLT, Int.reduceNeg, reduceCtorEq, Int.reduceEq, Int.reduceAdd, Int.reduceSub, Int.reduceMul, Nat.reduceSub]
          refine callK_by (fail_spec _ m s 2 (by omega)) ?_
          simp -dsimp -implicitDefEqProofs only [go_sem, ↓reduceIte, Nat.reduceEqDiff, Nat.reduceAdd, Nat.reduceMul, Nat.reduceLeDiff, Nat.reduceLT, Nat.reduceBEq, Nat.reducePow, Int.reduceToNat, Int.reduceLE, Int.reduceLT, Int.reduceNeg, reduceCtorEq, Int.reduceEq, Int.reduceAdd, Int.reduceSub, Int.reduceMul, Nat.reduceSub]
          exact ⟨rfl, rfl, hm⟩
        · simp -dsimp -implicitDefEqProofs only [go_sem, ↓reduceIte, Nat.reduceEqDiff, Nat.reduceAdd, Nat.reduceMul, Nat.reduceLeDiff, Nat.reduceLT, Nat.reduceBEq, Nat.reducePow, Int.reduceToNat, Int.reduceLE, Int.reduceLT, Int.reduceNeg, reduceCtorEq, Int.reduceEq, Int.reduceAdd, Int.reduceSub, Int.reduceMul, Nat.reduceSub, eyeA]
          refine callK_by (fail_spec _ m s 2 (by omega)) ?_
          simp -dsimp -implicitDefEqProofs only [go_sem, ↓reduceIte, Nat.reduceEqDiff, Nat.reduceAdd, Nat.reduceMul, Nat.reduceLeDiff, Nat.reduceLT, Nat.reduceBEq, Nat.reducePow, Int.reduceToNat, Int.reduceLE, Int.reduceLT, Int.reduceNeg, reduceCtorEq, Int.reduceEq, Int.reduceAdd, Int.reduceSub, Int.reduceMul, Nat.reduceSub]
          exact ⟨rfl, rfl, hm⟩
      exact key.forget ⟨rfl, .inr ⟨.inr rfl, .inl rfl⟩⟩ (by simp [AV.nb, AV.nbs, u8s]) (by simp [nbL, hm, Res.nb, nb_eye]) (fun n hn => by simp [keys] at hn ⊢; subst hn; simp [Heap.get]) (fun n hn h => absurd (by simpa [keys] using hn) (by simpa [keys] using h))
    · have e : rawS s n = (s.b.take n.toNat, ⟨s.b.drop n.toNat, 0⟩) := by simp only [rawS, h0, h1, if_true, if_false]
      rw [e]
      have h2 : m < nx + 169 := by omega
      exact (raw_spec0 nx m s n hm hb h0 (by omega) (by omega)).forget ⟨rfl, .inr ⟨.inl rfl, .inl rfl⟩⟩ (by simp [AV.nb, nb_u8s]) (by simp [nbL, hm, Res.nb, nb_eye]) (fun k hk => by simp [keys] at hk ⊢; subst hk; simp [Heap.get]) (fun k hk h => by
        simp [keys] at hk h
        rcases hk with hk | hk
        · exact absurd hk h
        · subst hk; exact ⟨by simp [Heap.get]; omega, by omega⟩)
  · have e : rawS s n = ([], s) := by simp only [rawS, h0, if_false]
    rw [e]
    have key : FnSpec Tryz.prog 136 nx [.ref m 0 [], n64 n] [(m, some (.obj (eyeA s)))] (.sl 0 [] 1) [(m, some (.obj (eyeA s)))] 0 := by
      refine FnSpec.of_code (cx := cx) (an := {}) (rs := [.tmp 4]) mo Tryz.func136 rfl rfl (by kernel_rfl) (by kernel_rfl) (by show 2 ≤ _; decide) (.inl rfl) (by simp [allWr, keys, Res.wr]) ?_
      simp -dsimp -implicitDefEqProofs only [go_sem, ↓reduceIte, Nat.reduceEqDiff, Nat.reduceAdd, Nat.reduceMul, Nat.reduceLeDiff, Nat.reduceLT, Nat.reduceBEq, Nat.reducePow, Int.reduceToNat, Int.reduceLE, Int.reduceLT, Int.reduceNeg, reduceCtorEq, Int.reduceEq, Int.reduceAdd, Int.reduceSub, Int.reduceMul, Nat.reduceSub]
      refine callK_by (err_spec _ m s) ?_
      simp -dsimp -implicitDefEqProofs only [go_sem, ↓reduceIte, Nat.reduceEqDiff, Nat.reduceAdd, Nat.reduceMul, Nat.reduceLeDiff, Nat.reduceLT, Nat.reduceBEq, Nat.reducePow, Int.reduceToNat, Int.reduceLE, Int.reduceLT, Int.reduceNeg, reduceCtorEq, Int.reduceEq, Int.reduceAdd, Int.reduceSub, Int.reduceMul, Nat.reduceSub]
      refine brF (fun h => ?_) (fun h => absurd h h0)
      simp -dsimp -implicitDefEqProofs only [go_sem, ↓reduceIte, Nat.reduceEqDiff, Nat.reduceAdd, Nat.reduceMul, Nat.reduceLeDiff, Nat.reduceLT, Nat.reduceBEq, Nat.reducePow, Int.reduceToNat, Int.reduceLE, Int.reduceLT, Int.reduceNeg, reduceCtorEq, Int.reduceEq, Int.reduceAdd, Int.reduceSub, Int.reduceMul, Nat.reduceSub]
      exact hm
    exact key.forget ⟨rfl, .inr ⟨.inr rfl, .inl rfl⟩⟩ (by simp [AV.nb, AV.nbs, u8s]) (by simp [nbL, hm, Res.nb, nb_eye]) (fun n hn => by simp [keys] at hn ⊢; subst hn; simp [Heap.get]) (fun n hn h => absurd (by simpa [keys] using hn) (by simpa [keys] using h))

theorem rawS_len (s : ES) (n : Int) : (rawS s n).2.b.length ≤ s.b.length := by
  simp only [rawS]
  split
  · split
    · rw [failS_b]; omega
    · simp only [List.length_drop]; omega
  · simp
def textS (s : ES) (most : Int) : List UInt8 × ES := rawS (uptoS s most).2 (uptoS s most).1
theorem textS_len (s : ES) (n : Int) : (textS s n).2.b.length ≤ s.b.length := Nat.le_trans (rawS_len _ _) (uptoS_len _ _)
theorem etext_spec (nx m : Nat) (s : ES) (most : Int) (hm : m < nx) (hb : s.b.length < 2 ^ 40) :
    FnSpec Tryz.prog 191 nx [.ref m 0 [], n64 most] [(m, some (.obj (eyeA s)))] (.sl 1 (u8s (textS s most).1) 0) [(m, some (.obj (eyeA (textS s most).2)))] 0 := by
  have h1 := uptoS_len s most
  refine FnSpec.of_code (cx := cx) (an := {}) (rs := [.tmp 4]) mo Tryz.func191 rfl rfl (by kernel_rfl) (by kernel_rfl) (by show 2 ≤ _; decide) (.inl rfl) (by simp [allWr, keys, Res.wr]) ?_
  simp -dsimp -implicitDefEqProofs only [go_sem, ↓reduceIte, Nat.reduceEqDiff, Nat.reduceAdd, Nat.reduceMul, Nat.reduceLeDiff, Nat.reduceLT, Nat.reduceBEq, Nat.reducePow, Int.reduceToNat, Int.reduceLE, Int.reduceLT, Int.reduceNeg, reduceCtorEq, Int.reduceEq, Int.reduceAdd, Int.reduceSub, Int.reduceMul, Nat.reduceSub]
  refine callK_by (upto_spec _ m s most (by omega) hb) ?_
  simp -dsimp -implicitDefEqProofs only [go_sem, ↓reduceIte, Nat.reduceEqDiff, Nat.reduceAdd, Nat.reduceMul, Nat.reduceLeDiff, Nat.reduceLT, Nat.reduceBEq, Nat.reducePow, Int.reduceToNat, Int.reduceLE, Int.reduceLT, Int.reduceNeg, reduceCtorEq, Int.reduceEq, Int.reduceAdd, Int.reduceSub, Int.reduceMul, Nat.reduceSub]
  refine callK_by (raw_spec _ m (uptoS s most).2 (uptoS s most).1 (by omega) (by omega)) ?_
  simp -dsimp -implicitDefEqProofs only [go_sem, ↓reduceIte, Nat.reduceEqDiff, Nat.reduceAdd, Nat.reduceMul, Nat.reduceLeDiff, Nat.reduceLT, Nat.reduceBEq, Nat.reducePow, Int.reduceToNat, Int.reduceLE, Int.reduceLT, Int.reduceNeg, reduceCtorEq, Int.reduceEq, Int.reduceAdd, Int.reduceSub, Int.reduceMul, Nat.reduceSub]
  exact ⟨rfl, rfl, hm⟩

/-- what Done tells -/
def doneS (s : ES) : Int := if s.e = 0 ∧ 0 < s.b.length then 3 else s.e
theorem done_spec (nx m : Nat) (s : ES) (hm : m < nx) : FnSpec Tryz.prog 73 nx [.ref m 0 []] [(m, some (.obj (eyeA s)))] (n64 (doneS s)) [(m, some (.obj (eyeA (if s.e = 0 ∧ 0 < s.b.length then ⟨s.b, 3⟩ else s))))] 0 := by
  refine FnSpec.of_code (cx := cx) (an := {}) (rs := [.tmp 2]) mo Tryz.func73 rfl rfl (by kernel_rfl) (by kernel_rfl) (by show 1 ≤ _; decide) (.inl rfl) (by simp [allWr, keys, Res.wr]) ?_
  simp -dsimp -implicitDefEqProofs only [go_sem, ↓reduceIte, Nat.reduceEqDiff, Nat.reduceAdd, Nat.reduceMul, Nat.reduceLeDiff, Nat.reduceLT, Nat.reduceBEq, Nat.reducePow, Int.reduceToNat, Int.reduceLE, Int.reduceLT, Int.reduceNeg, reduceCtorEq, Int.reduceEq, Int.reduceAdd, Int.reduceSub, Int.reduceMul, Nat.reduceSub]
  refine callK_by (err_spec _ m s) ?_
  simp -dsimp -implicitDefEqProofs only [go_sem, ↓reduceIte, Nat.reduceEqDiff, Nat.reduceAdd, Nat.reduceMul, Nat.reduceLeDiff, Nat.reduceLT, Nat.reduceBEq, Nat.reducePow, Int.reduceToNat, Int.reduceLE, Int.reduceLT, Int.reduceNeg, reduceCtorEq, Int.reduceEq, Int.reduceAdd, Int.reduceSub, Int.reduceMul, Nat.reduceSub]
  refine brT (fun h => ?_) (fun h => ?_)
  · simp -dsimp -implicitDefEqProofs only [go_sem, ↓reduceIte, Nat.reduceEqDiff, Nat.reduceAdd, Nat.reduceMul, Nat.reduceLeDiff, Nat.reduceLT, Nat.reduceBEq, Nat.reducePow, Int.reduceToNat, Int.reduceLE, Int.reduceLT, Int.reduceNeg, reduceCtorEq, Int.reduceEq, Int.reduceAdd, Int.reduceSub, Int.reduceMul, Nat.reduceSub, eyeA]
    refine brT (fun h2 => ?_) (fun h2 => ?_)
    · have e : doneS s = 3 := by simp only [doneS]; rw [if_pos ⟨h, by omega⟩]
      have e2 : failS s 3 = ⟨s.b, 3⟩ := by simp [failS, h]
      rw [e, if_pos (⟨h, by omega⟩ : s.e = 0 ∧ 0 < s.b.length)]
      simp -dsimp -implicitDefEqProofs only [go_sem, ↓reduceIte, Nat.reduceEqDiff, Nat.reduceAdd, Nat.reduceMul, Nat.reduceLeDiff, Nat.reduceLT, Nat.reduceBEq, Nat.reducePow, Int.reduceToNat, Int.reduceLE, Int.reduceLT, Int.reduceNeg, reduceCtorEq, Int.reduceEq, Int.reduceAdd, Int.reduceSub, Int.reduceMul, Nat.reduceSub]
      refine callK_by (fail_spec _ m s 3 (by omega)) ?_
      rw [e2]
      simp -dsimp -implicitDefEqProofs only [go_sem, ↓reduceIte, Nat.reduceEqDiff, Nat.reduceAdd, Nat.reduceMul, Nat.reduceLeDiff, Nat.reduceLT, Nat.reduceBEq, Nat.reducePow, Int.reduceToNat, Int.reduceLE, Int.reduceLT, Int.reduceNeg, reduceCtorEq, Int.reduceEq, Int.reduceAdd, Int.reduceSub, Int.reduceMul, Nat.reduceSub]
      refine ⟨rfl, callK_by (err_spec _ m ⟨s.b, 3⟩) ?_⟩
      simp -dsimp -implicitDefEqProofs only [go_sem, ↓reduceIte, Nat.reduceEqDiff, Nat.reduceAdd, Nat.reduceMul, Nat.reduceLeDiff, Nat.reduceLT, Nat.reduceBEq, Nat.reducePow, Int.reduceToNat, Int.reduceLE, Int.reduceLT, Int.reduceNeg, reduceCtorEq, Int.reduceEq, Int.reduceAdd, Int.reduceSub, Int.reduceMul, Nat.reduceSub]
      exact ⟨rfl, hm⟩
    · have e : doneS s = 0 := by simp only [doneS]; rw [if_neg (by omega), h]
      rw [e, if_neg (by omega : ¬ (s.e = 0 ∧ 0 < s.b.length))]
      simp -dsimp -implicitDefEqProofs only [go_sem, ↓reduceIte, Nat.reduceEqDiff, Nat.reduceAdd, Nat.reduceMul, Nat.reduceLeDiff, Nat.reduceLT, Nat.reduceBEq, Nat.reducePow, Int.reduceToNat, Int.reduceLE, Int.reduceLT, Int.reduceNeg, reduceCtorEq, Int.reduceEq, Int.reduceAdd, Int.reduceSub, Int.reduceMul, Nat.reduceSub]
      refine callK_by (err_spec _ m s) ?_
      simp -dsimp -implicitDefEqProofs only [go_sem, ↓reduceIte, Nat.reduceEqDiff, Nat.reduceAdd, Nat.reduceMul, Nat.reduceLeDiff, Nat.reduceLT, Nat.reduceBEq, Nat.reducePow, Int.reduceToNat, Int.reduceLE, Int.reduceLT, Int.reduceNeg, reduceCtorEq, Int.reduceEq, Int.reduceAdd, Int.reduceSub, Int.reduceMul, Nat.reduceSub, h]
      exact ⟨by simp [eyeA, h], hm⟩
  · have e : doneS s = s.e := by simp only [doneS]; rw [if_neg (by omega)]
    rw [e, if_neg (by omega : ¬ (s.e = 0 ∧ 0 < s.b.length))]
    simp -dsimp -implicitDefEqProofs only [go_sem, ↓reduceIte, Nat.reduceEqDiff, Nat.reduceAdd, Nat.reduceMul, Nat.reduceLeDiff, Nat.reduceLT, Nat.reduceBEq, Nat.reducePow, Int.reduceToNat, Int.reduceLE, Int.reduceLT, Int.reduceNeg, reduceCtorEq, Int.reduceEq, Int.reduceAdd, Int.reduceSub, Int.reduceMul, Nat.reduceSub]
    refine callK_by (err_spec _ m s) ?_
    simp -dsimp -implicitDefEqProofs only [go_sem, ↓reduceIte, Nat.reduceEqDiff, Nat.reduceAdd, Nat.reduceMul, Nat.reduceLeDiff, Nat.reduceLT, Nat.reduceBEq, Nat.reducePow, Int.reduceToNat, Int.reduceLE, Int.reduceLT, Int.reduceNeg, reduceCtorEq, Int.reduceEq, Int.reduceAdd, Int.reduceSub, Int.reduceMul, Nat.reduceSub]
    exact hm

end Go.Proofs.YthfoeaokfhbdaaaGreat

/-
  Values that say less, deep inside: what lies behind slices forgotten in structs and in elements.
-/
import Derived.Test.YtdkcobnhcpgpaaaGreatAL20
set_option linter.unusedSimpArgs false
set_option linter.unusedVariables false
namespace Go.AL
open Go
mutual
def AV.le : AV → AV → Prop
  | .sl sz L tok, b => ∃ L' tok', b = .sl sz L' tok' ∧ AV.les L L' ∧ (tok' = tok ∨ tok' = 0 ∨ tok = 1)
  | .agg n ps, b => ∃ qs, b = .agg n qs ∧ AV.les ps qs
  | a, b => a = b
def AV.les : List AV → List AV → Prop
  | [], bs => bs = []
  | a :: as, bs => ∃ b bs', bs = b :: bs' ∧ AV.le a b ∧ AV.les as bs'
end
theorem AV.les_length : ∀ {as bs : List AV}, AV.les as bs → bs.length = as.length
  | [], _, h => by rw [h]
  | a :: as, _, ⟨b, bs, h1, _, h3⟩ => by rw [h1, List.length_cons, List.length_cons, AV.les_length h3]

section
variable {g : G} {w : World}
mutual
theorem AV.le_R : ∀ (a : AV) {b : AV}, a.le b → ∀ cs, R g w (.one a cs) → R g w (.one b cs)
  | .sl sz L tok, b, h, cs, hr => by
    obtain ⟨L', tok', rfl, h1, h2⟩ := h
    have hl := AV.les_length h1
    obtain ⟨v, rfl, _⟩ := hr.single rfl
    rcases V1_sl (show V1 g w (.sl sz L tok) v from V0.of_cell hr rfl) with ⟨rfl, _, rfl⟩ | ⟨bb, q, c, rfl, k1, k2, k3⟩
    · simp at hl
      have : L' = [] := List.length_eq_zero_iff.1 (by simpa using hl)
      subst this
      exact .slNil
    · have hm := AV.les_mem L h1 sz bb q k2
      rw [← hl] at k1 k3 ⊢
      refine .sl k1 hm ?_
      rcases h2 with rfl | rfl | rfl
      · exact k3
      · trivial
      · have hc : c = L'.length := k3
        match tok' with
        | 0 => trivial
        | 1 => exact hc
        | n + 2 => exact .inl hc
  | .agg n ps, b, h, cs, hr => by
    obtain ⟨qs, rfl, h1⟩ := h
    cases hr with
    | agg k1 k2 => exact .agg (AV.les_seq ps h1 cs k1) k2
  | .undef, b, h, cs, hr => by have h : _ = b := h; subst h; exact hr
  | .val _, b, h, cs, hr => by have h : _ = b := h; subst h; exact hr
  | .ref _ _ _, b, h, cs, hr => by have h : _ = b := h; subst h; exact hr
  | .cref _, b, h, cs, hr => by have h : _ = b := h; subst h; exact hr
  | .aref _ _ _ _ _ _, b, h, cs, hr => by have h : _ = b := h; subst h; exact hr
  | .map _, b, h, cs, hr => by have h : _ = b := h; subst h; exact hr
  | .clos _ _, b, h, cs, hr => by have h : _ = b := h; subst h; exact hr
  | .vec _ _, b, h, cs, hr => by have h : _ = b := h; subst h; exact hr
  | .tup _, b, h, cs, hr => by have h : _ = b := h; subst h; exact hr
theorem AV.les_seq : ∀ (as : List AV) {bs : List AV}, AV.les as bs → ∀ cs, R g w (.seq as cs) → R g w (.seq bs cs)
  | [], _, h, cs, hr => by have h : _ = [] := h; subst h; exact hr
  | a :: as, _, ⟨b, bs, e, h1, h2⟩, cs, hr => by
    subst e
    cases hr with
    | seqCons k1 k2 => exact .seqCons (AV.le_R a h1 _ k1) (AV.les_seq as h2 _ k2)
theorem AV.les_mem : ∀ (as : List AV) {bs : List AV}, AV.les as bs → ∀ sz b o, R g w (.mem sz as b o) → R g w (.mem sz bs b o)
  | [], _, h, sz, b, o, hr => by have h : _ = [] := h; subst h; exact hr
  | a :: as, _, ⟨c, bs, e, h1, h2⟩, sz, b, o, hr => by
    subst e
    cases hr with
    | memCons k1 k2 k3 k4 k5 => exact .memCons (AV.le_R a h1 _ k1) k2 k3 k4 (AV.les_mem as h2 _ _ _ k5)
end

theorem AV.le_isAgg : ∀ {a b : AV}, a.le b → b.isAgg = a.isAgg
  | .sl _ _ _, _, ⟨_, _, rfl, _⟩ => rfl
  | .agg _ _, _, ⟨_, rfl, _⟩ => rfl
  | .undef, b, h => by have h : _ = b := h; subst h; rfl
  | .val _, b, h => by have h : _ = b := h; subst h; rfl
  | .ref _ _ _, b, h => by have h : _ = b := h; subst h; rfl
  | .cref _, b, h => by have h : _ = b := h; subst h; rfl
  | .aref _ _ _ _ _ _, b, h => by have h : _ = b := h; subst h; rfl
  | .map _, b, h => by have h : _ = b := h; subst h; rfl
  | .clos _ _, b, h => by have h : _ = b := h; subst h; rfl
  | .vec _ _, b, h => by have h : _ = b := h; subst h; rfl
  | .tup _, b, h => by have h : _ = b := h; subst h; rfl
theorem AV.le_V1 {a b : AV} {v : Value} (h : a.le b) (hv : V1 g w a v) : V1 g w b v := by
  by_cases hg : a.good = true
  · have h0 := hv.toV0 hg
    exact .of_V0 ⟨AV.le_R a h _ h0.1, by rw [AV.le_isAgg h]; exact h0.2⟩
  · cases a <;> first | exact absurd rfl hg | (have h : _ = b := h; subst h; exact hv)
end

theorem les_args {g : G} {w : World} : ∀ {as bs : List AV} {vs : List Value}, AV.les as bs → ArgsOK g w as vs → ArgsOK g w bs vs
  | as, bs, vs, h, ⟨h1, h2⟩ => by
    refine ⟨(AV.les_length h).trans h1, fun i x y hx hy => ?_⟩
    have key : ∀ {as bs : List AV} (i : Nat) (x : AV), AV.les as bs → bs[i]? = some x → ∃ a, as[i]? = some a ∧ a.le x := by
      intro as
      induction as with
      | nil => intro bs i x h hx; have h : bs = [] := h; subst h; simp at hx
      | cons a as ih =>
        intro bs i x h hx
        obtain ⟨b, bs', rfl, q1, q2⟩ := h
        cases i with
        | zero => simp at hx; subst hx; exact ⟨a, rfl, q1⟩
        | succ i => exact ih i x q2 (by simpa using hx)
    obtain ⟨a, q1, q2⟩ := key i x h hx
    exact AV.le_V1 q2 (h2 i a y q1 hy)

/-- **A contract serves for arguments that say more.** -/
theorem FnSpec.le {P : Program} {f nx k : Nat} {args args' : List AV} {Hc wr : Heap} {av : AV} (h : FnSpec P f nx args' Hc av wr k) (ha : AV.les args args') : FnSpec P f nx args Hc av wr k :=
  ⟨h.1, fun vs g w hargs hi hH hf => h.2 vs g w (les_args ha hargs) hi hH hf⟩

mutual
theorem AV.le_refl : ∀ a : AV, a.le a
  | .sl sz L tok => ⟨L, tok, rfl, AV.les_refl L, .inl rfl⟩
  | .agg n ps => ⟨ps, rfl, AV.les_refl ps⟩
  | .undef => rfl
  | .val _ => rfl
  | .ref _ _ _ => rfl
  | .cref _ => rfl
  | .aref _ _ _ _ _ _ => rfl
  | .map _ => rfl
  | .clos _ _ => rfl
  | .vec _ _ => rfl
  | .tup _ => rfl
theorem AV.les_refl : ∀ as : List AV, AV.les as as
  | [] => rfl
  | a :: as => ⟨a, as, rfl, AV.le_refl a, AV.les_refl as⟩
end
theorem AV.les_cons {a b : AV} {as bs : List AV} (h : a.le b) (k : AV.les as bs) : AV.les (a :: as) (b :: bs) := ⟨b, bs, rfl, h, k⟩
theorem AV.le_tok {sz tok : Nat} {L : List AV} : (AV.sl sz L tok).le (.sl sz L 0) := ⟨L, 0, rfl, AV.les_refl L, .inr (.inl rfl)⟩
end Go.AL

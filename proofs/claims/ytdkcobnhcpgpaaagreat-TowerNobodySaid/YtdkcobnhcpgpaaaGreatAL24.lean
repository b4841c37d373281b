/-
  A contract that tells less of its result, deep inside.
-/
import Derived.Test.YtdkcobnhcpgpaaaGreatAL23
set_option linter.unusedSimpArgs false
set_option linter.unusedVariables false
namespace Go.AL
open Go
theorem AV.le_V0 {g : G} {w : World} {a b : AV} {v : Value} (h : a.le b) (hv : V0 g w a v) : V0 g w b v := ⟨AV.le_R a h _ hv.1, by rw [AV.le_isAgg h]; exact hv.2⟩
theorem AV.le_undef {b : AV} (h : AV.undef.le b) : b = .undef := by
  have h : AV.undef = b := h
  exact h.symm
def outLe : AV → AV → Prop
  | .tup as, .tup bs => AV.les as bs
  | a, b => a.le b
theorem les_get : ∀ {as bs : List AV} (i : Nat) (x : AV), AV.les as bs → bs[i]? = some x → ∃ a, as[i]? = some a ∧ a.le x := by
  intro as
  induction as with
  | nil => intro bs i x h hx; have h : bs = [] := h; subst h; simp at hx
  | cons a as ih =>
    intro bs i x h hx
    obtain ⟨b, bs', rfl, q1, q2⟩ := h
    cases i with
    | zero => simp at hx; subst hx; exact ⟨a, rfl, q1⟩
    | succ i => exact ih i x q2 (by simpa using hx)
theorem outLe_V1 {g : G} {w : World} {a b : AV} {v : Value} (h : outLe a b) (hv : V1 g w a v) : V1 g w b v := by
  unfold outLe at h
  split at h
  · obtain ⟨ws, rfl, h3, h4⟩ := hv
    refine ⟨ws, rfl, (AV.les_length h).trans h3, fun i y z hy hz => ?_⟩
    obtain ⟨a, q1, q2⟩ := les_get i y h hy
    rcases h4 i a z q1 hz with q | q
    · subst q; exact .inl (AV.le_undef q2)
    · exact .inr (AV.le_V0 q2 q)
  · exact AV.le_V1 h hv
theorem FnSpec.outle {P : Program} {f nx k : Nat} {args : List AV} {Hc wr : Heap} {av av' : AV} (h : FnSpec P f nx args Hc av wr k) (hs : outLe av av') : FnSpec P f nx args Hc av' wr k := by
  refine ⟨h.1, fun vs g w hargs hi hH hf => (h.2 vs g w hargs hi hH hf).mono ?_⟩
  rintro e w' ⟨v, g', rfl, hv, hp⟩
  exact ⟨v, g', rfl, outLe_V1 hs hv, hp⟩

/-- **An empty slice that comes in: nil, or some empty one.** -/
theorem FnSpec.empty {P : Program} {f nx k sz tok : Nat} {as : List AV} {Hc wr : Heap} {av : AV} (h1 : ∀ b n, FnSpec P f nx (.val (.slice b 0 n) :: as) Hc av wr k) : FnSpec P f nx (.sl sz [] tok :: as) Hc av wr k := by
  refine ⟨(h1 none 0).1, fun vs g w hargs hi hH hf => ?_⟩
  obtain ⟨hl, hv⟩ := hargs
  match hvs : vs.toList, hl with
  | v :: rest, hl =>
    rw [hvs] at hv
    have h0 := hv 0 _ v rfl rfl
    have key : ∀ b n, v = .slice b 0 n → Calls P f vs w fun e w' => ∃ v g', e = .returned v ∧ V1 g' w' av v ∧ StepPost g w Hc wr ((List.range k).map (nx + ·)) g' w' := by
      intro b n e
      subst e
      refine (h1 b n).2 vs g w ⟨by rw [hvs]; exact hl, fun i x y hx hy => ?_⟩ hi hH hf
      rw [hvs] at hy
      cases i with
      | zero => simp at hx hy; subst hx hy; exact V1_mk rfl
      | succ i => exact hv (i + 1) x y (by simpa using hx) (by simpa using hy)
    rcases V1_sl h0 with ⟨_, base, e⟩ | ⟨b, o, c, e, _⟩
    · exact key _ _ e
    · exact key _ _ e
end Go.AL

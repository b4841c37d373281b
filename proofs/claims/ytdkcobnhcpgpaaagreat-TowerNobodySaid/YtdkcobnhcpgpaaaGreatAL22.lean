/-
  Contracts of functions that were walked by other means.
-/
import Derived.Test.YtdkcobnhcpgpaaaGreatAL21
import Derived.Below
set_option linter.unusedVariables false
namespace Go.AL
open Go Go.RowKit

theorem StepPost.of_below {g : G} {w w' : World} {H : Heap} {nw : List Nat} (hi : Inv g w) (hb : Below w.heap.size w w') : StepPost g w H [] nw g w' := by
  have hlt : ∀ b, 0 < g.imm b → b < w.heap.size := fun b h => by
    rcases Nat.lt_or_ge b w.heap.size with h' | h'
    · exact h'
    · rw [hi b h'] at h; omega
  refine ⟨⟨⟨fun _ h => h, fun _ _ => Nat.le_refl _, fun _ _ _ _ => rfl, fun _ => Nat.le_refl _, fun b o ho => ?_⟩, hb.os, hb.tape, hb.output, hb.size, fun b hlt _ => ⟨hb.block b hlt, rfl⟩, fun _ h => .inl h, fun _ _ _ => rfl, fun _ b hb' => hi b (Nat.le_trans hb.size hb')⟩, fun n r h _ => by simp [Heap.get] at h, fun n n' r r' b h => by simp [keys] at h⟩
  exact hb.cell (p := ⟨b, o, none⟩) (hlt b (by omega))

/-- **A contract out of a walk at the machine's values: nothing older turns, and the result is told whole.** -/
theorem FnSpec.of_calls {P : Program} {f nx : Nat} {args : List AV} {Hc : Heap} {r : Value} (hc : Callable P f) (hr : r.oneCell' = true)
    (h : ∀ (vs : List Value) (g : G) (w : World), ArgsOK g w args vs → Inv g w → Calls P f vs.toArray w fun e w' => e = .returned r ∧ Below w.heap.size w w') : FnSpec P f nx args Hc (.val r) [] 0 := by
  refine ⟨hc, fun vs g w ha hi hH hf => ?_⟩
  have := h vs.toList g w ha hi
  rw [Array.toArray_toList] at this
  refine this.mono ?_
  rintro e w' ⟨rfl, hb⟩
  exact ⟨r, g, rfl, V1_mk hr, StepPost.of_below hi hb⟩

theorem args_one {g : G} {w : World} {a : AV} {vs : List Value} (h : ArgsOK g w [a] vs) : ∃ v, vs = [v] ∧ V1 g w a v := by
  obtain ⟨h1, h2⟩ := h
  match vs, h1 with
  | [v], _ => exact ⟨v, rfl, h2 0 a v rfl rfl⟩
theorem args_two {g : G} {w : World} {a b : AV} {vs : List Value} (h : ArgsOK g w [a, b] vs) : ∃ u v, vs = [u, v] ∧ V1 g w a u ∧ V1 g w b v := by
  obtain ⟨h1, h2⟩ := h
  match vs, h1 with
  | [u, v], _ => exact ⟨u, v, rfl, h2 0 a u rfl rfl, h2 1 b v rfl rfl⟩

/-- the cells of a slice whose elements are one cell each -/
theorem mem_one {g : G} {w : World} {L : List AV} {b o : Nat} (h : R g w (.mem 1 L b o)) {vs : List Value} (hL : L = vs.map .val) : ∀ j v, vs[j]? = some v → w.cell? ⟨b, o + j, none⟩ = some v := by
  obtain ⟨cs, h1, h2, _⟩ := h.mem_cells
  subst hL
  have key : ∀ (vs cs : List Value), R g w (.useq 1 (vs.map .val) cs) → cs = vs := by
    intro vs
    induction vs with
    | nil => intro cs h; cases h; rfl
    | cons v vs ih =>
      intro cs h
      cases h with
      | useqCons k1 k2 k3 =>
        cases k1 with
        | val _ => rw [ih _ k3]; rfl
  rw [key vs cs h1] at h2
  exact fun j v hv => h2 j v hv
theorem mem_lt {g : G} {w : World} {L : List AV} {sz b o : Nat} (hi : Inv g w) (h : R g w (.mem sz L b o)) (hsz : 0 < sz) (hL : L ≠ []) : b < w.heap.size := by
  cases h with
  | memNil => exact absurd rfl hL
  | memCons k1 k2 k3 k4 k5 =>
    rcases Nat.lt_or_ge b w.heap.size with h' | h'
    · exact h'
    · rw [hi b h'] at k4; omega
end Go.AL

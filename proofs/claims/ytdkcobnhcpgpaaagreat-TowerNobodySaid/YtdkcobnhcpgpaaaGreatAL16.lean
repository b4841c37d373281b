/-
  The layer AL, part 16: contracts under other arguments; names below a bound in lists.
-/
import Derived.Test.YtdkcobnhcpgpaaaGreatAL15
set_option linter.unusedSimpArgs false
set_option linter.unusedVariables false
namespace Go.AL
open Go

theorem nbs_map {α : Type} {m : Nat} {f : α → AV} (h : ∀ x, (f x).nb m) (l : List α) : AV.nbs m (l.map f) := by
  induction l with
  | nil => rw [List.map_nil, AV.nbs]; trivial
  | cons x l ih => rw [List.map_cons, AV.nbs]; exact ⟨h x, ih⟩
theorem nbs_rep {m n : Nat} {a : AV} (h : a.nb m) : AV.nbs m (List.replicate n a) := AV.nbs_of fun x hx => by rw [List.eq_of_mem_replicate hx]; exact h
theorem nbs_app {m : Nat} {a b : List AV} : AV.nbs m (a ++ b) = (AV.nbs m a ∧ AV.nbs m b) := by
  induction a with
  | nil => simp [AV.nbs]
  | cons x l ih => simp only [List.cons_append, AV.nbs, ih, and_assoc]
theorem nb_u8s {m : Nat} (bs : List UInt8) : AV.nbs m (u8s bs) = True := by
  simp only [eq_iff_iff, iff_true]
  exact nbs_map (fun x => by rw [u8, AV.nb]; trivial) bs

section
variable {X Y : Prop} {lx : Lock X} {ly : Lock Y}
theorem brT {p : Prop} [Decidable p] (h1 : p → X) (h2 : ¬ p → Y) : brB (decide p) true X Y lx ly := by rw [brB_dt]; exact ⟨h1, h2⟩
theorem brF {p : Prop} [Decidable p] (h1 : ¬ p → X) (h2 : p → Y) : brB (decide p) false X Y lx ly := by rw [brB_df]; exact ⟨h1, h2⟩
theorem brVT {b : Bool} (h1 : b = true → X) (h2 : b = false → Y) : brB b true X Y lx ly := by rw [brB_bt]; exact ⟨h1, h2⟩
theorem brVF {b : Bool} (h1 : b = false → X) (h2 : b = true → Y) : brB b false X Y lx ly := by rw [brB_bf]; exact ⟨h1, h2⟩
end

theorem nx_l {n k : Nat} : (n + (k + 1) = n) = False := by simp
theorem nx_r {n k : Nat} : (n = n + (k + 1)) = False := by simp
theorem lt_nx {p n : Nat} (h : p < n) (k : Nat) : (p = n + k) = False := by simp; omega
theorem nx_gt {p n : Nat} (h : p < n) (k : Nat) : (n + k = p) = False := by simp; omega
theorem lt_nx0 {p n : Nat} (h : p < n) : (p = n) = False := by simp; omega
theorem nx_gt0 {p n : Nat} (h : p < n) : (n = p) = False := by simp; omega

/-- One argument says less than another. -/
def subA : AV → AV → Prop
  | .sl sz L tok, .sl sz' L' tok' => L = L' ∧ ((sz = sz' ∧ tok' = tok) ∨ ((sz = sz' ∨ L = []) ∧ (tok' = 0 ∨ tok = 1)))
  | _, .undef => True
  | a, b => a = b
def subAs : List AV → List AV → Prop
  | [], [] => True
  | a :: as, b :: bs => subA a b ∧ subAs as bs
  | _, _ => False

theorem TokOK.of1 {g : G} {tok blk len c e d : Nat} (h : c = len) : TokOK g tok blk len c e d := by
  match tok with
  | 0 => trivial
  | 1 => exact h
  | n + 2 => exact .inl h

theorem subA_V1 {g : G} {w : World} {a b : AV} {v : Value} (h : subA a b) (hv : V1 g w a v) : V1 g w b v := by
  unfold subA at h
  split at h
  · rename_i sz L tok sz' L' tok'
    obtain ⟨rfl, h3⟩ := h
    rcases V1_sl hv with ⟨rfl, _, rfl⟩ | ⟨bb, q, c, rfl, k1, k2, k3⟩
    · exact V0.of_cell .slNil rfl
    · have hl : ∀ s t, (sz = s ∨ L = []) → TokOK g t bb L.length c (q + L.length * s) (q + c * s) → V1 g w (.sl s L t) (.slice (some ⟨bb, q, none⟩) L.length c) := by
        intro s t e ht
        refine V0.of_cell (.sl k1 ?_ ht) rfl
        rcases e with rfl | rfl
        · exact k2
        · exact .memNil
      rcases h3 with ⟨rfl, rfl⟩ | ⟨h2, rfl | rfl⟩
      · exact hl sz _ (.inl rfl) k3
      · exact hl sz' 0 h2 trivial
      · exact hl sz' tok' h2 (.of1 k3)
  · trivial
  · subst h; exact hv

theorem subAs_get {as bs : List AV} (h : subAs as bs) : as.length = bs.length ∧ ∀ (i : Nat) (a b : AV), as[i]? = some a → bs[i]? = some b → subA a b := by
  induction as generalizing bs with
  | nil => cases bs with
    | nil => exact ⟨rfl, fun i a b ha => by simp at ha⟩
    | cons => exact h.elim
  | cons x as ih => cases bs with
    | nil => exact h.elim
    | cons y bs =>
      obtain ⟨h1, h2⟩ := h
      obtain ⟨i1, i2⟩ := ih h2
      refine ⟨by simp [i1], fun i a b ha hb => ?_⟩
      cases i with
      | zero => simp at ha hb; subst ha hb; exact h1
      | succ i => exact i2 i a b (by simpa using ha) (by simpa using hb)

theorem FnSpec.sub {P : Program} {f nx k : Nat} {args args' : List AV} {Hc wr : Heap} {av av' : AV} (h : FnSpec P f nx args Hc av wr k) (ha : subAs args' args) (hr : subA av av') : FnSpec P f nx args' Hc av' wr k := by
  refine ⟨h.1, fun vs g w hv hi hH hf => (h.2 vs g w ?_ hi hH hf).mono ?_⟩
  · obtain ⟨l1, l2⟩ := subAs_get ha
    obtain ⟨v1, v2⟩ := hv
    refine ⟨by omega, fun i x y hx hy => ?_⟩
    have hlt : i < args'.length := by
      rcases Nat.lt_or_ge i args'.length with h' | h'
      · exact h'
      · rw [List.getElem?_eq_none (by omega)] at hx; cases hx
    have hx' := List.getElem?_eq_getElem hlt
    exact subA_V1 (l2 i _ _ hx' hx) (v2 i _ y hx' hy)
  · rintro e w' ⟨v, g', rfl, h1, h2⟩
    exact ⟨v, g', rfl, subA_V1 hr h1, h2⟩

theorem FnSpec.sub1 {P : Program} {f nx k : Nat} {args args' : List AV} {Hc wr : Heap} {av : AV} (h : FnSpec P f nx args Hc av wr k) (ha : subAs args' args) : FnSpec P f nx args' Hc av wr k :=
  h.sub ha (by unfold subA; cases av <;> simp)

end Go.AL

/-
  bartizanlaw41.TraceLists: for every input it returns true, and the input reads behind the call as it read before. No condition.
-/
import Derived.Test.YtfdlcefiidanlaaA2
import Derived.Test.YtfdlcefiidanlaaAL19
import Derived.Test.YtfdlcefiidanlaaRows
set_option linter.unusedSimpArgs false
set_option linter.unusedVariables false
set_option maxRecDepth 100000
set_option maxHeartbeats 4000000
namespace Go.Proofs.Ytfdlcefiidanlaa
open Go Go.AL Go.Proofs.Ytfdlcefiidanlaa.T Go.ChangeShapes Go.WideShapes Go.ChangeAt Go.RowKit

theorem Try.own : ownKnob Try.prog.godebug = none := by kernel_rfl
theorem Try.laidOut : laidOutB Try.prog = true := by kernel_rfl

theorem ty_row {n : Nat} {a : AV} (h : Ty Try.prog (n + 2) 26 a) : ∃ r, a = rowA r ∧ True := by
  obtain ⟨L, rfl, k⟩ := h.struct_inv Try.underlying26 (m := 11) (ts := [24, 3, 3, 3, 2, 2, 2, 2, 2, 3, 3]) (by kernel_rfl) rfl
  obtain ⟨a0, _, rfl, h0, k⟩ := k.cons_inv
  obtain ⟨a1, _, rfl, h1, k⟩ := k.cons_inv
  obtain ⟨a2, _, rfl, h2, k⟩ := k.cons_inv
  obtain ⟨a3, _, rfl, h3, k⟩ := k.cons_inv
  obtain ⟨a4, _, rfl, h4, k⟩ := k.cons_inv
  obtain ⟨a5, _, rfl, h5, k⟩ := k.cons_inv
  obtain ⟨a6, _, rfl, h6, k⟩ := k.cons_inv
  obtain ⟨a7, _, rfl, h7, k⟩ := k.cons_inv
  obtain ⟨a8, _, rfl, h8, k⟩ := k.cons_inv
  obtain ⟨a9, _, rfl, h9, k⟩ := k.cons_inv
  obtain ⟨a10, _, rfl, h10, k⟩ := k.cons_inv
  cases k.nil_inv
  obtain ⟨x0, rfl, _⟩ := h0.int_inv Try.underlying24
  obtain ⟨x1, rfl, _⟩ := h1.int_inv Try.underlying3
  obtain ⟨x2, rfl, _⟩ := h2.int_inv Try.underlying3
  obtain ⟨x3, rfl, _⟩ := h3.int_inv Try.underlying3
  obtain ⟨x4, rfl, _⟩ := h4.int_inv Try.underlying2
  obtain ⟨x5, rfl, _⟩ := h5.int_inv Try.underlying2
  obtain ⟨x6, rfl, _⟩ := h6.int_inv Try.underlying2
  obtain ⟨x7, rfl, _⟩ := h7.int_inv Try.underlying2
  obtain ⟨x8, rfl, _⟩ := h8.int_inv Try.underlying2
  obtain ⟨x9, rfl, _⟩ := h9.int_inv Try.underlying3
  obtain ⟨x10, rfl, _⟩ := h10.int_inv Try.underlying3
  exact ⟨⟨x0, x1, x2, x3, x4, x5, x6, x7, x8, x9, x10⟩, rfl, trivial⟩
theorem ty_rows {n : Nat} {a : AV} (h : Ty Try.prog (n + 3) 22 a) : ∃ l, a = rowsA l := by
  obtain ⟨L, rfl, _, k⟩ := h.sl_inv Try.underlying22 (m := 11) (by kernel_rfl)
  obtain ⟨l, rfl, _⟩ := list_inv (f := rowA) (p := fun _ => True) (fun x hx => ty_row (k x hx))
  exact ⟨l, rfl⟩

theorem tl_spec (xs : List AV) (h : TyF (Ty Try.prog 8) Try.f3.params.toList xs) : FnSpec Try.prog 3 0 xs [] (.val (.bool true)) [] 0 := by
  have hp : Try.f3.params.toList = [22, 22] := rfl
  rw [hp] at h
  obtain ⟨a, _, rfl, h0, h⟩ := h.cons_inv
  obtain ⟨b, _, rfl, h1, h⟩ := h.cons_inv
  cases h.nil_inv
  obtain ⟨a, rfl⟩ := ty_rows h0
  obtain ⟨b, rfl⟩ := ty_rows h1
  exact law_spec 0 a b

theorem tl_lifted (os : Os) (started : os.Started) (H : Type) (enc : TypeId × Value → H) :
    ReturnsInHanded {} Try.checked os 3 .any (Rows.traceListsSpec.pre6 enc Try.prog Try.f3 Rows.traceListsRow.domain false) (Rows.traceListsSpec.post enc Try.prog Try.f3 false true false false) := by
  refine returnsInHanded_of_change (C := Try.checked) Try.own started (by kernel_rfl) Try.func3
    (ChangeSpec.witness6 (enc := enc) (C := Try.checked) false ⟨#[], #[.slice none 0 0, .slice none 0 0], []⟩ 8 (by kernel_rfl) (by kernel_rfl) (by kernel_rfl) (by kernel_rfl)) ?_
  intro W base args ds gs before hval0 hW hcnd _
  exact post_of_spec (P := Try.prog) (n := 8) (tb := 4) Try.laidOut rfl (fun ds hl => by
    match ds, hl with
    | [d1, d2], _ => rfl) (by kernel_rfl) (by kernel_rfl) rfl Try.underlying4 tl_spec W base args ds gs before hval0 hW

theorem tl_holds : Rows.TraceListsSaid :=
  OpenClaim.holds_of_wide 3 Try.f3 rfl rfl rfl rfl rfl rfl rfl ⟨rfl, rfl, rfl, rfl, rfl⟩ rfl rfl rfl rfl rfl (by kernel_rfl) Try.func3 (by kernel_rfl)
    (of_decide_eq_true (by kernel_rfl)) (by unfold Func.isWrapper; first | (rw [if_pos (by decide +kernel)]; kernel_rfl) | (rw [if_neg (by decide +kernel)]; exact ⟨rfl, rfl⟩))
    (fun os started H enc _ => tl_lifted os started H enc)
#print axioms tl_holds
end Go.Proofs.Ytfdlcefiidanlaa

/-
  Bridges of this seat: arguments of the laws about rows, read as lists.
-/
import Derived.Test.YtfdlcefiidanlaaA1
import Derived.Test.YtfdlcefiidanlaaAL19
set_option linter.unusedSimpArgs false
set_option linter.unusedVariables false
set_option maxRecDepth 100000
set_option maxHeartbeats 4000000
namespace Go.Proofs.Ytfdlcefiidanlaa
open Go Go.AL Go.Proofs.Ytfdlcefiidanlaa.T Go.ChangeShapes Go.WideShapes Go.ChangeAt Go.RowKit

theorem Try.own : ownKnob Try.prog.godebug = none := by kernel_rfl
theorem Try.laidOut : laidOutB Try.prog = true := by kernel_rfl

theorem ty_row {n : Nat} {a : AV} (h : Ty Try.prog (n + 2) 26 a) : ∃ r, a = rowA r ∧ True := by
  obtain ⟨L, rfl, k⟩ := h.struct_inv Try.underlying26 (m := 11) (ts := [24, 3, 3, 3, 2, 2, 2, 2, 2, 3, 3]) (by kernel_rfl) rfl
  obtain ⟨a0, _, rfl, h0, k⟩ := k.cons_inv
  obtain ⟨a1, _, rfl, h1, k⟩ := k.cons_inv
  obtain ⟨a2, _, rfl, h2, k⟩ := k.cons_inv
  obtain ⟨a3, _, rfl, h3, k⟩ := k.cons_inv
  obtain ⟨a4, _, rfl, h4, k⟩ := k.cons_inv
  obtain ⟨a5, _, rfl, h5, k⟩ := k.cons_inv
  obtain ⟨a6, _, rfl, h6, k⟩ := k.cons_inv
  obtain ⟨a7, _, rfl, h7, k⟩ := k.cons_inv
  obtain ⟨a8, _, rfl, h8, k⟩ := k.cons_inv
  obtain ⟨a9, _, rfl, h9, k⟩ := k.cons_inv
  obtain ⟨a10, _, rfl, h10, k⟩ := k.cons_inv
  cases k.nil_inv
  obtain ⟨x0, rfl, _⟩ := h0.int_inv Try.underlying24
  obtain ⟨x1, rfl, _⟩ := h1.int_inv Try.underlying3
  obtain ⟨x2, rfl, _⟩ := h2.int_inv Try.underlying3
  obtain ⟨x3, rfl, _⟩ := h3.int_inv Try.underlying3
  obtain ⟨x4, rfl, _⟩ := h4.int_inv Try.underlying2
  obtain ⟨x5, rfl, _⟩ := h5.int_inv Try.underlying2
  obtain ⟨x6, rfl, _⟩ := h6.int_inv Try.underlying2
  obtain ⟨x7, rfl, _⟩ := h7.int_inv Try.underlying2
  obtain ⟨x8, rfl, _⟩ := h8.int_inv Try.underlying2
  obtain ⟨x9, rfl, _⟩ := h9.int_inv Try.underlying3
  obtain ⟨x10, rfl, _⟩ := h10.int_inv Try.underlying3
  exact ⟨⟨x0, x1, x2, x3, x4, x5, x6, x7, x8, x9, x10⟩, rfl, trivial⟩
theorem ty_rows {n : Nat} {a : AV} (h : Ty Try.prog (n + 3) 22 a) : ∃ l, a = rowsA l := by
  obtain ⟨L, rfl, _, k⟩ := h.sl_inv Try.underlying22 (m := 11) (by kernel_rfl)
  obtain ⟨l, rfl, _⟩ := list_inv (f := rowA) (p := fun _ => True) (fun x hx => ty_row (k x hx))
  exact ⟨l, rfl⟩

end Go.Proofs.Ytfdlcefiidanlaa

/-
  say: the laws' arguments, and what the listed variables read as.
-/
import Derived.Test.YtdkcobnhcpgpaaaDoorS16
import Derived.Test.YtdkcobnhcpgpaaaDoorAL19
import Derived.Test.YtdkcobnhcpgpaaaDoorRows
import Derived.LaidMore
import Derived.OpenShut
import Derived.ProofKit
import Derived.Lay
set_option linter.unusedSimpArgs false
set_option linter.unusedVariables false
set_option maxRecDepth 100000
set_option maxHeartbeats 4000000
namespace Go.Proofs.YtdkcobnhcpgpaaaDoor
open Go Go.AL Go.Proofs.YtdkcobnhcpgpaaaDoor.T Go.ChangeShapes Go.WideShapes Go.ChangeAt Go.RowKit

theorem Tryd.own : ownKnob Tryd.prog.godebug = none := by kernel_rfl
theorem Tryd.laidOut : laidOutB Tryd.prog = true := by kernel_rfl
abbrev laid2 : List (String × DataW Unit) := [("unicode/utf8.acceptRanges", Rows.laid_unicode_utf8_acceptRanges), ("unicode/utf8.first", Rows.laid_unicode_utf8_first)]
theorem toNat_ofNat {n : Nat} (h : n < 256) : (UInt8.ofNat n).toNat = n := by
  rw [UInt8.toNat_ofNat']; omega
theorem wit_met (os : Os) (args : Array Value) : laidMetH Tryd.prog laid2 ((World.laidAll Tryd.prog os laid2).forCall (fun _ _ => 0) ⟨#[], args, []⟩).memory := by
  rw [MakeChecks.laidMetH_plain _ _ _ (by kernel_rfl)]; exact laidMet_laidAll _ (by kernel_rfl) (by kernel_rfl)

theorem ty_byte {n : Nat} {a : AV} (h : Ty Tryd.prog (n + 1) 5 a) : ∃ b, a = u8 b ∧ True := by
  obtain ⟨x, rfl, h1, h2⟩ := h.int_inv Tryd.underlying5
  have h1' : (0 : Int) ≤ x := h1
  have h2' : x ≤ 255 := h2
  refine ⟨UInt8.ofNat x.toNat, ?_, trivial⟩
  rw [u8, toNat_ofNat (by omega)]
  congr 2; omega
theorem ty_bytes {n : Nat} {a : AV} (h : Ty Tryd.prog (n + 2) 22 a) : ∃ b : List UInt8, a = .sl 1 (u8s b) 0 := by
  obtain ⟨L, rfl, hl, k⟩ := h.sl_inv Tryd.underlying22 (m := 1) (by kernel_rfl)
  obtain ⟨l, rfl, _⟩ := list_inv (f := u8) (p := fun _ => True) (fun x hx => ty_byte (k x hx))
  exact ⟨l, rfl⟩
theorem ty_act {n : Nat} {a : AV} (h : Ty Tryd.prog (n + 4) 24 a) : ∃ r, a = actA r 0 ∧ True := by
  obtain ⟨L, rfl, k⟩ := h.struct_inv Tryd.underlying24 (m := 4) (ts := [3, 3, 2, 22]) (by kernel_rfl) rfl
  obtain ⟨a0, _, rfl, h0, k⟩ := k.cons_inv
  obtain ⟨a1, _, rfl, h1, k⟩ := k.cons_inv
  obtain ⟨a2, _, rfl, h2, k⟩ := k.cons_inv
  obtain ⟨a3, _, rfl, h3, k⟩ := k.cons_inv
  cases k.nil_inv
  obtain ⟨x0, rfl, _⟩ := h0.int_inv Tryd.underlying3
  obtain ⟨x1, rfl, _⟩ := h1.int_inv Tryd.underlying3
  obtain ⟨x2, rfl, _⟩ := h2.int_inv Tryd.underlying2
  obtain ⟨x3, rfl⟩ := ty_bytes h3
  exact ⟨⟨x0, x1, x2, x3⟩, rfl, trivial⟩
theorem ty_acts {n : Nat} {a : AV} (h : Ty Tryd.prog (n + 5) 34 a) : ∃ l, a = .sl 4 (actsA l) 0 := by
  obtain ⟨L, rfl, _, k⟩ := h.sl_inv Tryd.underlying34 (m := 4) (by kernel_rfl)
  obtain ⟨l, rfl, _⟩ := list_inv (f := (actA · 0)) (p := fun _ => True) (fun x hx => ty_act (k x hx))
  exact ⟨l, rfl⟩
theorem ty_txt {n : Nat} {a : AV} (h : Ty Tryd.prog (n + 1) 9 a) : ∃ l, a = txt l := by
  obtain ⟨s, rfl, _⟩ := h.str_inv Tryd.underlying9
  obtain ⟨⟨l⟩⟩ := s
  exact ⟨l, by rw [txt]; congr 2⟩
theorem ty_int {n : Nat} {a : AV} (h : Ty Tryd.prog (n + 1) 3 a) : ∃ x, a = iA x := by
  obtain ⟨x, rfl, _⟩ := h.int_inv Tryd.underlying3
  exact ⟨x, rfl⟩
end Go.Proofs.YtdkcobnhcpgpaaaDoor

/-
  bartizanlaw44.SnapGets: for every input it returns true, and the input reads behind the call as it read before. No condition.
-/
import Derived.Test.YtfdlcefiidanlaaB7
import Derived.Test.YtfdlcefiidanlaaRows
set_option linter.unusedSimpArgs false
set_option linter.unusedVariables false
set_option maxRecDepth 100000
set_option maxHeartbeats 4000000
namespace Go.Proofs.Ytfdlcefiidanlaa
open Go Go.AL Go.Proofs.Ytfdlcefiidanlaa.T Go.ChangeShapes Go.WideShapes Go.ChangeAt Go.RowKit

theorem Try.own : ownKnob Try.prog.godebug = none := by kernel_rfl
theorem Try.laidOut : laidOutB Try.prog = true := by kernel_rfl

theorem ty_byte {n : Nat} {a : AV} (h : Ty Try.prog (n + 1) 5 a) : ∃ b, a = u8 b ∧ True := by
  obtain ⟨x, rfl, h1, h2⟩ := h.int_inv Try.underlying5
  have h1' : (0 : Int) ≤ x := h1
  have h2' : x ≤ 255 := h2
  refine ⟨UInt8.ofNat x.toNat, ?_, trivial⟩
  rw [u8, toNat_ofNat (by omega)]
  congr 2; omega
theorem ty_bytes {n : Nat} {a : AV} (h : Ty Try.prog (n + 2) 34 a) : ∃ b, a = .sl 1 (u8s b) 0 := by
  obtain ⟨L, rfl, _, k⟩ := h.sl_inv Try.underlying34 (m := 1) (by kernel_rfl)
  obtain ⟨l, rfl, _⟩ := list_inv (f := u8) (p := fun _ => True) (fun x hx => ty_byte (k x hx))
  exact ⟨l, rfl⟩
theorem sg_spec (xs : List AV) (h : TyF (Ty Try.prog 8) Try.f6.params.toList xs) : FnSpec Try.prog 6 0 xs [] (.val (.bool true)) [] 0 := by
  have hp : Try.f6.params.toList = [34] := rfl
  rw [hp] at h
  obtain ⟨a, _, rfl, h0, h⟩ := h.cons_inv
  cases h.nil_inv
  obtain ⟨b, rfl⟩ := ty_bytes h0
  exact gets_spec 0 b

theorem sg_lifted (os : Os) (started : os.Started) (H : Type) (enc : TypeId × Value → H) :
    ReturnsInHanded {} Try.checked os 6 .any (Rows.snapGetsSpec.pre6 enc Try.prog Try.f6 Rows.snapGetsRow.domain false) (Rows.snapGetsSpec.post enc Try.prog Try.f6 false true false false) := by
  refine returnsInHanded_of_change (C := Try.checked) Try.own started (by kernel_rfl) Try.func6
    (ChangeSpec.witness6 (enc := enc) (C := Try.checked) false ⟨#[], #[.slice none 0 0], []⟩ 8 (by kernel_rfl) (by kernel_rfl) (by kernel_rfl) (by kernel_rfl)) ?_
  intro W base args ds gs before hval0 hW hcnd _
  exact post_of_spec (P := Try.prog) (n := 8) (tb := 4) Try.laidOut rfl (fun ds hl => by
    match ds, hl with
    | [d1], _ => rfl) (by kernel_rfl) (by kernel_rfl) rfl Try.underlying4 sg_spec W base args ds gs before hval0 hW

theorem sg_holds : Rows.SnapGetsSaid :=
  OpenClaim.holds_of_wide 6 Try.f6 rfl rfl rfl rfl rfl rfl rfl ⟨rfl, rfl, rfl, rfl, rfl⟩ rfl rfl rfl rfl rfl (by kernel_rfl) Try.func6 (by kernel_rfl)
    (of_decide_eq_true (by kernel_rfl)) (by unfold Func.isWrapper; first | (rw [if_pos (by decide +kernel)]; kernel_rfl) | (rw [if_neg (by decide +kernel)]; exact ⟨rfl, rfl⟩))
    (fun os started H enc _ => sg_lifted os started H enc)
#print axioms sg_holds
end Go.Proofs.Ytfdlcefiidanlaa

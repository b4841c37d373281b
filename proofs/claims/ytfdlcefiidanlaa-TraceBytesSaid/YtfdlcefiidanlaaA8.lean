/-
  bartizanlaw41.TraceBytes: for every input it returns true, and the input reads behind the call as it read before. No condition.
-/
import Derived.Test.YtfdlcefiidanlaaA7
import Derived.Test.YtfdlcefiidanlaaA0
import Derived.Test.YtfdlcefiidanlaaRows
set_option linter.unusedSimpArgs false
set_option linter.unusedVariables false
set_option maxRecDepth 100000
set_option maxHeartbeats 4000000
namespace Go.Proofs.Ytfdlcefiidanlaa
open Go Go.AL Go.Proofs.Ytfdlcefiidanlaa.T Go.ChangeShapes Go.WideShapes Go.ChangeAt Go.RowKit

theorem tb_spec (xs : List AV) (h : TyF (Ty Try.prog 8) Try.f4.params.toList xs) : FnSpec Try.prog 4 0 xs [] (.val (.bool true)) [] 0 := by
  have hp : Try.f4.params.toList = [22] := rfl
  rw [hp] at h
  obtain ⟨a, _, rfl, h0, h⟩ := h.cons_inv
  cases h.nil_inv
  obtain ⟨a, rfl⟩ := ty_rows h0
  exact tblaw_spec 0 a

theorem tb_lifted (os : Os) (started : os.Started) (H : Type) (enc : TypeId × Value → H) :
    ReturnsInHanded {} Try.checked os 4 .any (Rows.traceBytesSpec.pre6 enc Try.prog Try.f4 Rows.traceBytesRow.domain false) (Rows.traceBytesSpec.post enc Try.prog Try.f4 false true false false) := by
  refine returnsInHanded_of_change (C := Try.checked) Try.own started (by kernel_rfl) Try.func4
    (ChangeSpec.witness6 (enc := enc) (C := Try.checked) false ⟨#[], #[.slice none 0 0], []⟩ 8 (by kernel_rfl) (by kernel_rfl) (by kernel_rfl) (by kernel_rfl)) ?_
  intro W base args ds gs before hval0 hW hcnd _
  exact post_of_spec (P := Try.prog) (n := 8) (tb := 4) Try.laidOut rfl (fun ds hl => by
    match ds, hl with
    | [d1], _ => rfl) (by kernel_rfl) (by kernel_rfl) rfl Try.underlying4 tb_spec W base args ds gs before hval0 hW

theorem tb_holds : Rows.TraceBytesSaid :=
  OpenClaim.holds_of_wide 4 Try.f4 rfl rfl rfl rfl rfl rfl rfl ⟨rfl, rfl, rfl, rfl, rfl⟩ rfl rfl rfl rfl rfl (by kernel_rfl) Try.func4 (by kernel_rfl)
    (of_decide_eq_true (by kernel_rfl)) (by unfold Func.isWrapper; first | (rw [if_pos (by decide +kernel)]; kernel_rfl) | (rw [if_neg (by decide +kernel)]; exact ⟨rfl, rfl⟩))
    (fun os started H enc _ => tb_lifted os started H enc)
#print axioms tb_holds
end Go.Proofs.Ytfdlcefiidanlaa

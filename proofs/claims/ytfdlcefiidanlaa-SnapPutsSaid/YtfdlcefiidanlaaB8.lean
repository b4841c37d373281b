/-
  bartizanlaw44.SnapPuts: for every input it returns true, and the input reads behind the call as it read before. No condition.
-/
import Derived.Test.YtfdlcefiidanlaaB7
import Derived.Test.YtfdlcefiidanlaaRows
set_option linter.unusedSimpArgs false
set_option linter.unusedVariables false
set_option maxRecDepth 100000
set_option maxHeartbeats 4000000
namespace Go.Proofs.Ytfdlcefiidanlaa
open Go Go.AL Go.Proofs.Ytfdlcefiidanlaa.T Go.ChangeShapes Go.WideShapes Go.ChangeAt Go.RowKit

theorem Try.own : ownKnob Try.prog.godebug = none := by kernel_rfl
theorem Try.laidOut : laidOutB Try.prog = true := by kernel_rfl

theorem ty_byte {n : Nat} {a : AV} (h : Ty Try.prog (n + 1) 5 a) : ∃ b, a = u8 b ∧ True := by
  obtain ⟨x, rfl, h1, h2⟩ := h.int_inv Try.underlying5
  have h1' : (0 : Int) ≤ x := h1
  have h2' : x ≤ 255 := h2
  refine ⟨UInt8.ofNat x.toNat, ?_, trivial⟩
  rw [u8, toNat_ofNat (by omega)]
  congr 2; omega
theorem ty_bytes {n : Nat} {a : AV} (h : Ty Try.prog (n + 2) 34 a) : ∃ b, a = .sl 1 (u8s b) 0 := by
  obtain ⟨L, rfl, _, k⟩ := h.sl_inv Try.underlying34 (m := 1) (by kernel_rfl)
  obtain ⟨l, rfl, _⟩ := list_inv (f := u8) (p := fun _ => True) (fun x hx => ty_byte (k x hx))
  exact ⟨l, rfl⟩
theorem ty_cfg {n : Nat} {a : AV} (h : Ty Try.prog (n + 4) 49 a) : ∃ r, a = cfgA r ∧ True := by
  obtain ⟨L, rfl, k⟩ := h.struct_inv Try.underlying49 (m := 12) (ts := [3, 2, 2, 3, 3, 2, 3, 3, 3, 3, 47]) (by kernel_rfl) rfl
  obtain ⟨a0, _, rfl, h0, k⟩ := k.cons_inv
  obtain ⟨a1, _, rfl, h1, k⟩ := k.cons_inv
  obtain ⟨a2, _, rfl, h2, k⟩ := k.cons_inv
  obtain ⟨a3, _, rfl, h3, k⟩ := k.cons_inv
  obtain ⟨a4, _, rfl, h4, k⟩ := k.cons_inv
  obtain ⟨a5, _, rfl, h5, k⟩ := k.cons_inv
  obtain ⟨a6, _, rfl, h6, k⟩ := k.cons_inv
  obtain ⟨a7, _, rfl, h7, k⟩ := k.cons_inv
  obtain ⟨a8, _, rfl, h8, k⟩ := k.cons_inv
  obtain ⟨a9, _, rfl, h9, k⟩ := k.cons_inv
  obtain ⟨a10, _, rfl, h10, k⟩ := k.cons_inv
  cases k.nil_inv
  obtain ⟨x0, rfl, _⟩ := h0.int_inv Try.underlying3
  obtain ⟨x1, rfl, _⟩ := h1.int_inv Try.underlying2
  obtain ⟨x2, rfl, _⟩ := h2.int_inv Try.underlying2
  obtain ⟨x3, rfl, _⟩ := h3.int_inv Try.underlying3
  obtain ⟨x4, rfl, _⟩ := h4.int_inv Try.underlying3
  obtain ⟨x5, rfl, _⟩ := h5.int_inv Try.underlying2
  obtain ⟨x6, rfl, _⟩ := h6.int_inv Try.underlying3
  obtain ⟨x7, rfl, _⟩ := h7.int_inv Try.underlying3
  obtain ⟨x8, rfl, _⟩ := h8.int_inv Try.underlying3
  obtain ⟨x9, rfl, _⟩ := h9.int_inv Try.underlying3
  obtain ⟨L, rfl, q⟩ := h10.struct_inv Try.underlying47 (m := 2) (ts := [3, 2]) (by kernel_rfl) rfl
  obtain ⟨b0, _, rfl, g0, q⟩ := q.cons_inv
  obtain ⟨b1, _, rfl, g1, q⟩ := q.cons_inv
  cases q.nil_inv
  obtain ⟨y0, rfl, _⟩ := g0.int_inv Try.underlying3
  obtain ⟨y1, rfl, _⟩ := g1.int_inv Try.underlying2
  exact ⟨⟨x0, x1, x2, x3, x4, x5, x6, x7, x8, x9, y0, y1⟩, rfl, trivial⟩
theorem ty_act {n : Nat} {a : AV} (h : Ty Try.prog (n + 4) 55 a) : ∃ r, a = actA r ∧ True := by
  obtain ⟨L, rfl, k⟩ := h.struct_inv Try.underlying55 (m := 4) (ts := [3, 3, 2, 34]) (by kernel_rfl) rfl
  obtain ⟨a0, _, rfl, h0, k⟩ := k.cons_inv
  obtain ⟨a1, _, rfl, h1, k⟩ := k.cons_inv
  obtain ⟨a2, _, rfl, h2, k⟩ := k.cons_inv
  obtain ⟨a3, _, rfl, h3, k⟩ := k.cons_inv
  cases k.nil_inv
  obtain ⟨x0, rfl, _⟩ := h0.int_inv Try.underlying3
  obtain ⟨x1, rfl, _⟩ := h1.int_inv Try.underlying3
  obtain ⟨x2, rfl, _⟩ := h2.int_inv Try.underlying2
  obtain ⟨x3, rfl⟩ := ty_bytes h3
  exact ⟨⟨x0, x1, x2, x3⟩, rfl, trivial⟩
theorem ty_acts {n : Nat} {a : AV} (h : Ty Try.prog (n + 5) 50 a) : ∃ l, a = .sl 4 (actsA l) 0 := by
  obtain ⟨L, rfl, _, k⟩ := h.sl_inv Try.underlying50 (m := 4) (by kernel_rfl)
  obtain ⟨l, rfl, _⟩ := list_inv (f := actA) (p := fun _ => True) (fun x hx => ty_act (k x hx))
  exact ⟨l, rfl⟩

theorem sp_spec (xs : List AV) (h : TyF (Ty Try.prog 8) Try.f5.params.toList xs) : FnSpec Try.prog 5 0 xs [] (.val (.bool true)) [] 0 := by
  have hp : Try.f5.params.toList = [49, 50] := rfl
  rw [hp] at h
  obtain ⟨a, _, rfl, h0, h⟩ := h.cons_inv
  obtain ⟨b, _, rfl, h1, h⟩ := h.cons_inv
  cases h.nil_inv
  obtain ⟨c, rfl, _⟩ := ty_cfg h0
  obtain ⟨l, rfl⟩ := ty_acts h1
  exact puts_spec 0 c l

theorem sp_lifted (os : Os) (started : os.Started) (H : Type) (enc : TypeId × Value → H) :
    ReturnsInHanded {} Try.checked os 5 .any (Rows.snapPutsSpec.pre6 enc Try.prog Try.f5 Rows.snapPutsRow.domain false) (Rows.snapPutsSpec.post enc Try.prog Try.f5 false true false false) := by
  refine returnsInHanded_of_change (C := Try.checked) Try.own started (by kernel_rfl) Try.func5
    (ChangeSpec.witness6 (enc := enc) (C := Try.checked) false ⟨#[], #[.agg #[.int .i64 0, .int .i64 0, .int .i64 0, .int .i64 0, .int .i64 0, .int .i64 0, .int .i64 0, .int .i64 0, .int .i64 0, .int .i64 0, .int .i64 0, .int .i64 0], .slice none 0 0], []⟩ 8 (by kernel_rfl) (by kernel_rfl) (by kernel_rfl) (by kernel_rfl)) ?_
  intro W base args ds gs before hval0 hW hcnd _
  exact post_of_spec (P := Try.prog) (n := 8) (tb := 4) Try.laidOut rfl (fun ds hl => by
    match ds, hl with
    | [d1, d2], _ => rfl) (by kernel_rfl) (by kernel_rfl) rfl Try.underlying4 sp_spec W base args ds gs before hval0 hW

theorem sp_holds : Rows.SnapPutsSaid :=
  OpenClaim.holds_of_wide 5 Try.f5 rfl rfl rfl rfl rfl rfl rfl ⟨rfl, rfl, rfl, rfl, rfl⟩ rfl rfl rfl rfl rfl (by kernel_rfl) Try.func5 (by kernel_rfl)
    (of_decide_eq_true (by kernel_rfl)) (by unfold Func.isWrapper; first | (rw [if_pos (by decide +kernel)]; kernel_rfl) | (rw [if_neg (by decide +kernel)]; exact ⟨rfl, rfl⟩))
    (fun os started H enc _ => sp_lifted os started H enc)
#print axioms sp_holds
end Go.Proofs.Ytfdlcefiidanlaa

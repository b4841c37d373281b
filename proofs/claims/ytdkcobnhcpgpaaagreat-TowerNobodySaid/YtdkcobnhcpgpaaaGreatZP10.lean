/-
  bartizanlaw31.TowerNobody: for every input it returns true, and the input reads behind the call as it read before. No condition.
-/
import Derived.Test.YtdkcobnhcpgpaaaGreatZP9
import Derived.Test.YtdkcobnhcpgpaaaGreatAL19
import Derived.Test.YtdkcobnhcpgpaaaGreatRows
set_option linter.unusedSimpArgs false
set_option linter.unusedVariables false
set_option maxRecDepth 100000
set_option maxHeartbeats 1000000
namespace Go.Proofs.YtdkcobnhcpgpaaaGreat
open Go Go.AL Go.Proofs.YtdkcobnhcpgpaaaGreat.T Go.ChangeShapes Go.WideShapes Go.ChangeAt Go.RowKit

theorem Tryz.own : ownKnob Tryz.prog.godebug = none := by kernel_rfl
theorem Tryz.laidOut : laidOutB Tryz.prog = true := by kernel_rfl
theorem toNat_ofNat' {n : Nat} (h : n < 256) : (UInt8.ofNat n).toNat = n := by
  rw [UInt8.toNat_ofNat']; omega
theorem ty_byte {n : Nat} {a : AV} (h : Ty Tryz.prog (n + 1) 5 a) : ∃ b, a = u8 b ∧ True := by
  obtain ⟨x, rfl, h1, h2⟩ := h.int_inv Tryz.underlying5
  have h1' : (0 : Int) ≤ x := h1
  have h2' : x ≤ 255 := h2
  refine ⟨UInt8.ofNat x.toNat, ?_, trivial⟩
  rw [u8, toNat_ofNat' (by omega)]
  congr 2; omega
theorem ty_sum {n : Nat} {a : AV} (h : Ty Tryz.prog (n + 2) 23 a) : ∃ s, a = sumA s := by
  obtain ⟨L, rfl, hl, k⟩ := h.arr_inv Tryz.underlying23 (m := 1) (by kernel_rfl)
  obtain ⟨l, rfl, _⟩ := list_inv (f := u8) (p := fun _ => True) (fun x hx => ty_byte (k x hx))
  rw [List.length_map] at hl
  exact ⟨⟨l, hl⟩, rfl⟩
theorem ty_int {n : Nat} {a : AV} (h : Ty Tryz.prog (n + 1) 3 a) : ∃ x, a = n64 x := by
  obtain ⟨x, rfl, _⟩ := h.int_inv Tryz.underlying3
  exact ⟨x, rfl⟩
theorem ty_int64 {n : Nat} {a : AV} (h : Ty Tryz.prog (n + 1) 2 a) : ∃ x, a = n64 x := by
  obtain ⟨x, rfl, _⟩ := h.int_inv Tryz.underlying2
  exact ⟨x, rfl⟩
theorem ty_ref {n : Nat} {a : AV} (h : Ty Tryz.prog (n + 3) 25 a) : ∃ r, a = refA r := by
  obtain ⟨L, rfl, k⟩ := h.struct_inv Tryz.underlying25 (m := 33) (ts := [23, 3]) (by kernel_rfl) rfl
  obtain ⟨a0, _, rfl, h0, k⟩ := k.cons_inv
  obtain ⟨a1, _, rfl, h1, k⟩ := k.cons_inv
  cases k.nil_inv
  obtain ⟨x0, rfl⟩ := ty_sum h0
  obtain ⟨x1, rfl⟩ := ty_int h1
  exact ⟨⟨x0, x1⟩, rfl⟩
theorem ty_chan {n : Nat} {a : AV} (h : Ty Tryz.prog (n + 4) 27 a) : ∃ c, a = chanA c := by
  obtain ⟨L, rfl, k⟩ := h.struct_inv Tryz.underlying27 (m := 39) (ts := [3, 3, 3, 25, 2, 3, 3]) (by kernel_rfl) rfl
  obtain ⟨a0, _, rfl, h0, k⟩ := k.cons_inv
  obtain ⟨a1, _, rfl, h1, k⟩ := k.cons_inv
  obtain ⟨a2, _, rfl, h2, k⟩ := k.cons_inv
  obtain ⟨a3, _, rfl, h3, k⟩ := k.cons_inv
  obtain ⟨a4, _, rfl, h4, k⟩ := k.cons_inv
  obtain ⟨a5, _, rfl, h5, k⟩ := k.cons_inv
  obtain ⟨a6, _, rfl, h6, k⟩ := k.cons_inv
  cases k.nil_inv
  obtain ⟨x0, rfl⟩ := ty_int h0
  obtain ⟨x1, rfl⟩ := ty_int h1
  obtain ⟨x2, rfl⟩ := ty_int h2
  obtain ⟨x3, rfl⟩ := ty_ref h3
  obtain ⟨x4, rfl⟩ := ty_int64 h4
  obtain ⟨x5, rfl⟩ := ty_int h5
  obtain ⟨x6, rfl⟩ := ty_int h6
  exact ⟨⟨x0, x1, x2, x3, x4, x5, x6⟩, rfl⟩

theorem tn_spec (xs : List AV) (h : TyF (Ty Tryz.prog 8) Tryz.f4.params.toList xs) : FnSpec Tryz.prog 4 0 xs [] (.val (.bool true)) [] 0 := by
  have hp : Tryz.f4.params.toList = [65, 27] := rfl
  rw [hp] at h
  obtain ⟨a, _, rfl, h0, h⟩ := h.cons_inv
  obtain ⟨b, _, rfl, h1, h⟩ := h.cons_inv
  cases h.nil_inv
  obtain ⟨L, rfl, _⟩ := h0.struct_inv Tryz.underlying65 (m := Tryz.prog.cellsOf 65) rfl rfl
  obtain ⟨c, rfl⟩ := ty_chan h1
  exact tnobody_spec 0 _ L c (by kernel_rfl)

theorem tn_lifted (os : Os) (started : os.Started) (H : Type) (enc : TypeId × Value → H) :
    ReturnsInHanded {} Tryz.checked os 4 .any (Rows.towerNobodySpec.pre6 enc Tryz.prog Tryz.f4 Rows.towerNobodyRow.domain false) (Rows.towerNobodySpec.post enc Tryz.prog Tryz.f4 false true false false) := by
  refine returnsInHanded_of_change (C := Tryz.checked) Tryz.own started (by kernel_rfl) Tryz.func4
    (ChangeSpec.witness6 (enc := enc) (C := Tryz.checked) false ⟨#[], #[.agg #[.int .i64 0, .int .i64 0, .int .i64 0, .int .i64 0, .int .i64 0, .int .i64 0, .int .u8 0, .int .u8 0, .int .u8 0, .int .u8 0, .int .u8 0, .int .u8 0, .int .u8 0, .int .u8 0, .int .u8 0, .int .u8 0, .int .u8 0, .int .u8 0, .int .u8 0, .int .u8 0, .int .u8 0, .int .u8 0, .int .u8 0, .int .u8 0, .int .u8 0, .int .u8 0, .int .u8 0, .int .u8 0, .int .u8 0, .int .u8 0, .int .u8 0, .int .u8 0, .int .u8 0, .int .u8 0, .int .u8 0, .int .u8 0, .int .u8 0, .int .u8 0, .int .u8 0, .int .u8 0, .int .u8 0, .int .u8 0, .int .u8 0, .int .u8 0, .int .u8 0, .int .u8 0, .int .u8 0, .int .u8 0, .int .u8 0, .int .u8 0, .int .u8 0, .int .u8 0, .int .u8 0, .int .u8 0, .int .u8 0, .int .u8 0, .int .u8 0, .int .u8 0, .int .u8 0, .int .u8 0, .int .u8 0, .int .u8 0, .int .u8 0, .int .u8 0, .int .u8 0, .int .u8 0, .int .u8 0, .int .u8 0, .int .u8 0, .int .u8 0, .int .i64 0, .int .u8 0, .int .u8 0, .int .u8 0, .int .u8 0, .int .u8 0, .int .u8 0, .int .u8 0, .int .u8 0, .int .u8 0, .int .u8 0, .int .u8 0, .int .u8 0, .int .u8 0, .int .u8 0, .int .u8 0, .int .u8 0, .int .u8 0, .int .u8 0, .int .u8 0, .int .u8 0, .int .u8 0, .int .u8 0, .int .u8 0, .int .u8 0, .int .u8 0, .int .u8 0, .int .u8 0, .int .u8 0, .int .u8 0, .int .u8 0, .int .u8 0, .int .u8 0, .int .i64 0, .int .u8 0, .int .u8 0, .int .u8 0, .int .u8 0, .int .u8 0, .int .u8 0, .int .u8 0, .int .u8 0, .int .u8 0, .int .u8 0, .int .u8 0, .int .u8 0, .int .u8 0, .int .u8 0, .int .u8 0, .int .u8 0, .int .u8 0, .int .u8 0, .int .u8 0, .int .u8 0, .int .u8 0, .int .u8 0, .int .u8 0, .int .u8 0, .int .u8 0, .int .u8 0, .int .u8 0, .int .u8 0, .int .u8 0, .int .u8 0, .int .u8 0, .int .u8 0, .int .i64 0, .int .i64 0, .int .u8 0, .int .u8 0, .int .u8 0, .int .u8 0, .int .u8 0, .int .u8 0, .int .u8 0, .int .u8 0, .int .u8 0, .int .u8 0, .int .u8 0, .int .u8 0, .int .u8 0, .int .u8 0, .int .u8 0, .int .u8 0, .int .u8 0, .int .u8 0, .int .u8 0, .int .u8 0, .int .u8 0, .int .u8 0, .int .u8 0, .int .u8 0, .int .u8 0, .int .u8 0, .int .u8 0, .int .u8 0, .int .u8 0, .int .u8 0, .int .u8 0, .int .u8 0, .slice none 0 0, .int .i64 0, .int .i64 0, .int .i64 0, .int .u8 0, .int .u8 0, .int .u8 0, .int .u8 0, .int .u8 0, .int .u8 0, .int .u8 0, .int .u8 0, .int .u8 0, .int .u8 0, .int .u8 0, .int .u8 0, .int .u8 0, .int .u8 0, .int .u8 0, .int .u8 0, .int .u8 0, .int .u8 0, .int .u8 0, .int .u8 0, .int .u8 0, .int .u8 0, .int .u8 0, .int .u8 0, .int .u8 0, .int .u8 0, .int .u8 0, .int .u8 0, .int .u8 0, .int .u8 0, .int .u8 0, .int .u8 0, .int .u8 0, .int .u8 0, .int .u8 0, .int .u8 0, .int .u8 0, .int .u8 0, .int .u8 0, .int .u8 0, .int .u8 0, .int .u8 0, .int .u8 0, .int .u8 0, .int .u8 0, .int .u8 0, .int .u8 0, .int .u8 0, .int .u8 0, .int .u8 0, .int .u8 0, .int .u8 0, .int .u8 0, .int .u8 0, .int .u8 0, .int .u8 0, .int .u8 0, .int .u8 0, .int .u8 0, .int .u8 0, .int .u8 0, .int .u8 0, .int .u8 0, .int .u8 0, .slice none 0 0], .agg #[.int .i64 0, .int .i64 0, .int .i64 0, .int .u8 0, .int .u8 0, .int .u8 0, .int .u8 0, .int .u8 0, .int .u8 0, .int .u8 0, .int .u8 0, .int .u8 0, .int .u8 0, .int .u8 0, .int .u8 0, .int .u8 0, .int .u8 0, .int .u8 0, .int .u8 0, .int .u8 0, .int .u8 0, .int .u8 0, .int .u8 0, .int .u8 0, .int .u8 0, .int .u8 0, .int .u8 0, .int .u8 0, .int .u8 0, .int .u8 0, .int .u8 0, .int .u8 0, .int .u8 0, .int .u8 0, .int .u8 0, .int .i64 0, .int .i64 0, .int .i64 0, .int .i64 0]], []⟩ 8 (by kernel_rfl) (by kernel_rfl) (by kernel_rfl) (by kernel_rfl)) ?_
  intro W base args ds gs before hval0 hW hcnd _
  exact post_of_spec (P := Tryz.prog) (n := 8) (tb := 4) Tryz.laidOut rfl (fun ds hl => by
    match ds, hl with
    | [d1, d2], _ => rfl) (by kernel_rfl) (by kernel_rfl) rfl Tryz.underlying4 tn_spec W base args ds gs before hval0 hW

theorem tn_holds : Rows.TowerNobodySaid :=
  OpenClaim.holds_of_wide 4 Tryz.f4 rfl rfl rfl rfl rfl rfl rfl ⟨rfl, rfl, rfl, rfl, rfl⟩ rfl rfl rfl rfl rfl (by kernel_rfl) Tryz.func4 (by kernel_rfl)
    (of_decide_eq_true (by kernel_rfl)) (by unfold Func.isWrapper; first | (rw [if_pos (by decide +kernel)]; kernel_rfl) | (rw [if_neg (by decide +kernel)]; exact ⟨rfl, rfl⟩))
    (fun os started H enc _ => tn_lifted os started H enc)
#print axioms tn_holds
end Go.Proofs.YtdkcobnhcpgpaaaGreat

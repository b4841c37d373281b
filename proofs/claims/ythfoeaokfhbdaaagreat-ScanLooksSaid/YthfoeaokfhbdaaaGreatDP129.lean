/-
 bartizanlaw31.TowerNobody: for every input it returns true, and the input reads behind the call as it read before. No condition.
-/
import Derived.Test.YthfoeaokfhbdaaaGreatDP23
import Derived.Test.YthfoeaokfhbdaaaGreatAL24
import Derived.Test.YthfoeaokfhbdaaaGreatRows
import Derived.Test.YthfoeaokfhbdaaaGreatDP125
import Derived.Test.YthfoeaokfhbdaaaGreatDP123
import Derived.Test.YthfoeaokfhbdaaaGreatDP140
set_option linter.unusedSimpArgs false
set_option linter.unusedVariables false
set_option maxRecDepth 100000
set_option maxHeartbeats 8000000
namespace Go.Proofs.YthfoeaokfhbdaaaGreat
open Go Go.AL Go.Proofs.YthfoeaokfhbdaaaGreat.T Go.ChangeShapes Go.WideShapes Go.ChangeAt Go.RowKit

theorem Tryz.own : ownKnob Tryz.prog.godebug = none := by kernel_rfl
theorem Tryz.laidOut : laidOutB Tryz.prog = true := by kernel_rfl
theorem toNat_ofNat' {n : Nat} (h : n < 256) : (UInt8.ofNat n).toNat = n := by
 rw [UInt8.toNat_ofNat']; omega
theorem ty_byte {n : Nat} {a : AV} (h : Ty Tryz.prog (n + 1) 5 a) : ∃ b, a = u8 b ∧ True := by
 obtain ⟨x, rfl, h1, h2⟩ := h.int_inv Tryz.underlying5
 have h1' : (0 : Int) ≤ x := h1
 have h2' : x ≤ 255 := h2
 refine ⟨UInt8.ofNat x.toNat, ?_, trivial⟩
 rw [u8, toNat_ofNat' (by omega)]
 congr 2; omega
theorem ty_sum {n : Nat} {a : AV} (h : Ty Tryz.prog (n + 2) 23 a) : ∃ s, a = sumA s := by
 obtain ⟨L, rfl, hl, k⟩ := h.arr_inv Tryz.underlying23 (m := 1) (by kernel_rfl)
 obtain ⟨l, rfl, _⟩ := list_inv (f := u8) (p := fun _ => True) (fun x hx => ty_byte (k x hx))
 rw [List.length_map] at hl
 exact ⟨⟨l, hl⟩, rfl⟩
theorem ty_int {n : Nat} {a : AV} (h : Ty Tryz.prog (n + 1) 3 a) : ∃ x, a = n64 x := by
 obtain ⟨x, rfl, _⟩ := h.int_inv Tryz.underlying3
 exact ⟨x, rfl⟩
theorem ty_int64 {n : Nat} {a : AV} (h : Ty Tryz.prog (n + 1) 2 a) : ∃ x, a = n64 x := by
 obtain ⟨x, rfl, _⟩ := h.int_inv Tryz.underlying2
 exact ⟨x, rfl⟩
theorem ty_ref {n : Nat} {a : AV} (h : Ty Tryz.prog (n + 3) 25 a) : ∃ r, a = refA r := by
 obtain ⟨L, rfl, k⟩ := h.struct_inv Tryz.underlying25 (m := 33) (ts := [23, 3]) (by kernel_rfl) rfl
 obtain ⟨a0, _, rfl, h0, k⟩ := k.cons_inv
 obtain ⟨a1, _, rfl, h1, k⟩ := k.cons_inv
 cases k.nil_inv
 obtain ⟨x0, rfl⟩ := ty_sum h0
 obtain ⟨x1, rfl⟩ := ty_int h1
 exact ⟨⟨x0, x1⟩, rfl⟩
theorem ty_chan {n : Nat} {a : AV} (h : Ty Tryz.prog (n + 4) 66 a) : ∃ c, a = chanA c := by
 obtain ⟨L, rfl, k⟩ := h.struct_inv Tryz.underlying66 (m := 39) (ts := [3, 3, 3, 25, 2, 3, 3]) (by kernel_rfl) rfl
 obtain ⟨a0, _, rfl, h0, k⟩ := k.cons_inv
 obtain ⟨a1, _, rfl, h1, k⟩ := k.cons_inv
 obtain ⟨a2, _, rfl, h2, k⟩ := k.cons_inv
 obtain ⟨a3, _, rfl, h3, k⟩ := k.cons_inv
 obtain ⟨a4, _, rfl, h4, k⟩ := k.cons_inv
 obtain ⟨a5, _, rfl, h5, k⟩ := k.cons_inv
 obtain ⟨a6, _, rfl, h6, k⟩ := k.cons_inv
 cases k.nil_inv
 obtain ⟨x0, rfl⟩ := ty_int h0
 obtain ⟨x1, rfl⟩ := ty_int h1
 obtain ⟨x2, rfl⟩ := ty_int h2
 obtain ⟨x3, rfl⟩ := ty_ref h3
 obtain ⟨x4, rfl⟩ := ty_int64 h4
 obtain ⟨x5, rfl⟩ := ty_int h5
 obtain ⟨x6, rfl⟩ := ty_int h6
 exact ⟨⟨x0, x1, x2, x3, x4, x5, x6⟩, rfl⟩

end Go.Proofs.YthfoeaokfhbdaaaGreat

namespace Go.Proofs.YthfoeaokfhbdaaaGreat
open Go Go.AL Go.Proofs.YthfoeaokfhbdaaaGreat.T Go.ChangeShapes Go.WideShapes Go.ChangeAt Go.RowKit
theorem ty_bytes {n : Nat} {a : AV} (h : Ty Tryz.prog (n + 2) 36 a) : ∃ l, a = .sl 1 (u8s l) 0 := by
 obtain ⟨L, rfl, hl, k⟩ := h.sl_inv Tryz.underlying36 (m := 1) (by kernel_rfl)
 obtain ⟨l, rfl, _⟩ := list_inv (f := u8) (p := fun _ => True) (fun x hx => ty_byte (k x hx))
 exact ⟨l, rfl⟩
theorem ty_rec {n : Nat} {a : AV} (h : Ty Tryz.prog (n + 3) 173 a) : ∃ r, a = recA r := by
 obtain ⟨L, rfl, k⟩ := h.struct_inv Tryz.underlying173 (m := 67) (ts := [3, 3, 3, 23, 23]) (by kernel_rfl) rfl
 obtain ⟨a0, _, rfl, h0, k⟩ := k.cons_inv
 obtain ⟨a1, _, rfl, h1, k⟩ := k.cons_inv
 obtain ⟨a2, _, rfl, h2, k⟩ := k.cons_inv
 obtain ⟨a3, _, rfl, h3, k⟩ := k.cons_inv
 obtain ⟨a4, _, rfl, h4, k⟩ := k.cons_inv
 cases k.nil_inv
 obtain ⟨x0, rfl⟩ := ty_int h0
 obtain ⟨x1, rfl⟩ := ty_int h1
 obtain ⟨x2, rfl⟩ := ty_int h2
 obtain ⟨x3, rfl⟩ := ty_sum h3
 obtain ⟨x4, rfl⟩ := ty_sum h4
 exact ⟨⟨x0, x1, x2, x3, x4⟩, rfl⟩
theorem ty_srec {n : Nat} {a : AV} (h : Ty Tryz.prog (n + 4) 175 a) : ∃ r, a = srecA r := by
 obtain ⟨M, rfl, k2⟩ := h.struct_inv Tryz.underlying175 (m := 68) (ts := [173, 36]) (by kernel_rfl) rfl
 obtain ⟨b0, _, rfl, g0, k2⟩ := k2.cons_inv
 obtain ⟨b1, _, rfl, g1, k2⟩ := k2.cons_inv
 cases k2.nil_inv
 obtain ⟨x0, rfl⟩ := ty_rec g0
 obtain ⟨x1, rfl⟩ := ty_bytes g1
 exact ⟨⟨x0, x1⟩, rfl⟩
theorem ty_sign {n : Nat} {a : AV} (h : Ty Tryz.prog (n + 3) 127 a) : ∃ r, a = signA r := by
 obtain ⟨M, rfl, k2⟩ := h.struct_inv Tryz.underlying127 (m := 33) (ts := [3, 23]) (by kernel_rfl) rfl
 obtain ⟨b0, _, rfl, g0, k2⟩ := k2.cons_inv
 obtain ⟨b1, _, rfl, g1, k2⟩ := k2.cons_inv
 cases k2.nil_inv
 obtain ⟨x0, rfl⟩ := ty_int g0
 obtain ⟨x1, rfl⟩ := ty_sum g1
 exact ⟨⟨x0, x1⟩, rfl⟩
theorem ty_two {n : Nat} {a : AV} (h : Ty Tryz.prog (n + 3) 169 a) : ∃ s t, a = .vec 32 [sumA s, sumA t] := by
 obtain ⟨L, rfl, hl, k⟩ := h.arr_inv Tryz.underlying169 (m := 32) (by kernel_rfl)
 match L, hl with
 | [x, y], _ =>
  obtain ⟨s, rfl⟩ := ty_sum (k x (by simp))
  obtain ⟨t, rfl⟩ := ty_sum (k y (by simp))
  exact ⟨s, t, rfl⟩
theorem ty_state {n : Nat} {a : AV} (h : Ty Tryz.prog (n + 4) 171 a) : ∃ s, a = stateA s := by
 obtain ⟨M, rfl, k⟩ := h.struct_inv Tryz.underlying171 (m := 67) (ts := [3, 2, 2, 169]) (by kernel_rfl) rfl
 obtain ⟨a0, _, rfl, h0, k⟩ := k.cons_inv
 obtain ⟨a1, _, rfl, h1, k⟩ := k.cons_inv
 obtain ⟨a2, _, rfl, h2, k⟩ := k.cons_inv
 obtain ⟨a3, _, rfl, h3, k⟩ := k.cons_inv
 cases k.nil_inv
 obtain ⟨x0, rfl⟩ := ty_int h0
 obtain ⟨x1, rfl⟩ := ty_int64 h1
 obtain ⟨x2, rfl⟩ := ty_int64 h2
 obtain ⟨x3, x4, rfl⟩ := ty_two h3
 exact ⟨⟨x0, x1, x2, x3, x4⟩, rfl⟩
theorem ty_brec {n : Nat} {a : AV} (h : Ty Tryz.prog (n + 5) 177 a) : ∃ r, a = brA r ∧ True := by
 obtain ⟨M, rfl, k⟩ := h.struct_inv Tryz.underlying177 (m := 274) (ts := [3, 66, 171, 127, 23, 3, 23, 175, 36]) (by kernel_rfl) rfl
 obtain ⟨a0, _, rfl, h0, k⟩ := k.cons_inv
 obtain ⟨a1, _, rfl, h1, k⟩ := k.cons_inv
 obtain ⟨a2, _, rfl, h2, k⟩ := k.cons_inv
 obtain ⟨a3, _, rfl, h3, k⟩ := k.cons_inv
 obtain ⟨a4, _, rfl, h4, k⟩ := k.cons_inv
 obtain ⟨a5, _, rfl, h5, k⟩ := k.cons_inv
 obtain ⟨a6, _, rfl, h6, k⟩ := k.cons_inv
 obtain ⟨a7, _, rfl, h7, k⟩ := k.cons_inv
 obtain ⟨a8, _, rfl, h8, k⟩ := k.cons_inv
 cases k.nil_inv
 obtain ⟨x0, rfl⟩ := ty_int h0
 obtain ⟨x1, rfl⟩ := ty_chan h1
 obtain ⟨x2, rfl⟩ := ty_state h2
 obtain ⟨x3, rfl⟩ := ty_sign h3
 obtain ⟨x4, rfl⟩ := ty_sum h4
 obtain ⟨x5, rfl⟩ := ty_int h5
 obtain ⟨x6, rfl⟩ := ty_sum h6
 obtain ⟨x7, rfl⟩ := ty_srec h7
 obtain ⟨x8, rfl⟩ := ty_bytes h8
 exact ⟨⟨x0, x1, x2, x3, x4, x5, x6, x7, x8⟩, rfl, trivial⟩
theorem ty_brs {n : Nat} {a : AV} (h : Ty Tryz.prog (n + 6) 96 a) : ∃ l, a = .sl 274 (brsA l) 0 := by
 obtain ⟨L, rfl, hl, k⟩ := h.sl_inv Tryz.underlying96 (m := 274) (by kernel_rfl)
 obtain ⟨l, rfl, _⟩ := list_inv (f := brA) (p := fun _ => True) (fun x hx => ty_brec (k x hx))
 exact ⟨l, rfl⟩
end Go.Proofs.YthfoeaokfhbdaaaGreat

namespace Go.Proofs.YthfoeaokfhbdaaaGreat
open Go Go.AL Go.Proofs.YthfoeaokfhbdaaaGreat.T Go.ChangeShapes Go.WideShapes Go.ChangeAt Go.RowKit
theorem ty_ints {n : Nat} {a : AV} (h : Ty Tryz.prog (n + 2) 110 a) : ∃ l, a = .sl 1 (vals .i64 l) 0 := by
 obtain ⟨L, rfl, hl, k⟩ := h.sl_inv Tryz.underlying110 (m := 1) (by kernel_rfl)
 obtain ⟨l, rfl, _⟩ := list_inv (f := n64) (p := fun _ => True) (fun x hx => by obtain ⟨y, rfl⟩ := ty_int (k x hx); exact ⟨y, rfl, trivial⟩)
 exact ⟨l, rfl⟩
theorem ty_way {n : Nat} {a : AV} (h : Ty Tryz.prog (n + 3) 186 a) : ∃ r, a = wayA r := by
 obtain ⟨M, rfl, k⟩ := h.struct_inv Tryz.underlying186 (m := 35) (ts := [110, 23, 3, 3]) (by kernel_rfl) rfl
 obtain ⟨a0, _, rfl, h0, k⟩ := k.cons_inv
 obtain ⟨a1, _, rfl, h1, k⟩ := k.cons_inv
 obtain ⟨a2, _, rfl, h2, k⟩ := k.cons_inv
 obtain ⟨a3, _, rfl, h3, k⟩ := k.cons_inv
 cases k.nil_inv
 obtain ⟨x0, rfl⟩ := ty_ints h0
 obtain ⟨x1, rfl⟩ := ty_sum h1
 obtain ⟨x2, rfl⟩ := ty_int h2
 obtain ⟨x3, rfl⟩ := ty_int h3
 exact ⟨⟨x0, x1, x2, x3⟩, rfl⟩
theorem ty_ways {n : Nat} {a : AV} (h : Ty Tryz.prog (n + 4) 140 a) : ∃ l, a = .sl 35 (waysA l) 0 := by
 obtain ⟨L, rfl, hl, k⟩ := h.sl_inv Tryz.underlying140 (m := 35) (by kernel_rfl)
 obtain ⟨l, rfl, _⟩ := list_inv (f := wayA) (p := fun _ => True) (fun x hx => by obtain ⟨y, rfl⟩ := ty_way (k x hx); exact ⟨y, rfl, trivial⟩)
 exact ⟨l, rfl⟩
theorem ty_out {n : Nat} {a : AV} (h : Ty Tryz.prog (n + 5) 142 a) : ∃ r, a = outA r := by
 obtain ⟨M, rfl, k⟩ := h.struct_inv Tryz.underlying142 (m := 2) (ts := [2, 140]) (by kernel_rfl) rfl
 obtain ⟨a0, _, rfl, h0, k⟩ := k.cons_inv
 obtain ⟨a1, _, rfl, h1, k⟩ := k.cons_inv
 cases k.nil_inv
 obtain ⟨x0, rfl⟩ := ty_int64 h0
 obtain ⟨x1, rfl⟩ := ty_ways h1
 exact ⟨⟨x0, x1⟩, rfl⟩
theorem ty_outs {n : Nat} {a : AV} (h : Ty Tryz.prog (n + 6) 35 a) : ∃ l, a = .sl 2 (outsA l) 0 := by
 obtain ⟨L, rfl, hl, k⟩ := h.sl_inv Tryz.underlying35 (m := 2) (by kernel_rfl)
 obtain ⟨l, rfl, _⟩ := list_inv (f := outA) (p := fun _ => True) (fun x hx => by obtain ⟨y, rfl⟩ := ty_out (k x hx); exact ⟨y, rfl, trivial⟩)
 exact ⟨l, rfl⟩
theorem ty_in {n : Nat} {a : AV} (h : Ty Tryz.prog (n + 4) 44 a) : ∃ r, a = inA r := by
 obtain ⟨M, rfl, k⟩ := h.struct_inv Tryz.underlying44 (m := 35) (ts := [25, 3, 36]) (by kernel_rfl) rfl
 obtain ⟨a0, _, rfl, h0, k⟩ := k.cons_inv
 obtain ⟨a1, _, rfl, h1, k⟩ := k.cons_inv
 obtain ⟨a2, _, rfl, h2, k⟩ := k.cons_inv
 cases k.nil_inv
 obtain ⟨x0, rfl⟩ := ty_ref h0
 obtain ⟨x1, rfl⟩ := ty_int h1
 obtain ⟨x2, rfl⟩ := ty_bytes h2
 exact ⟨⟨x0, x1, x2⟩, rfl⟩
theorem ty_ins {n : Nat} {a : AV} (h : Ty Tryz.prog (n + 5) 34 a) : ∃ l, a = .sl 35 (insA l) 0 := by
 obtain ⟨L, rfl, hl, k⟩ := h.sl_inv Tryz.underlying34 (m := 35) (by kernel_rfl)
 obtain ⟨l, rfl, _⟩ := list_inv (f := inA) (p := fun _ => True) (fun x hx => by obtain ⟨y, rfl⟩ := ty_in (k x hx); exact ⟨y, rfl, trivial⟩)
 exact ⟨l, rfl⟩
theorem ty_op {n : Nat} {a : AV} (h : Ty Tryz.prog (n + 3) 38 a) : ∃ r, a = opT r := by
 obtain ⟨M, rfl, k⟩ := h.struct_inv Tryz.underlying38 (m := 37) (ts := [3, 3, 3, 2, 23, 36]) (by kernel_rfl) rfl
 obtain ⟨a0, _, rfl, h0, k⟩ := k.cons_inv
 obtain ⟨a1, _, rfl, h1, k⟩ := k.cons_inv
 obtain ⟨a2, _, rfl, h2, k⟩ := k.cons_inv
 obtain ⟨a3, _, rfl, h3, k⟩ := k.cons_inv
 obtain ⟨a4, _, rfl, h4, k⟩ := k.cons_inv
 obtain ⟨a5, _, rfl, h5, k⟩ := k.cons_inv
 cases k.nil_inv
 obtain ⟨x0, rfl⟩ := ty_int h0
 obtain ⟨x1, rfl⟩ := ty_int h1
 obtain ⟨x2, rfl⟩ := ty_int h2
 obtain ⟨x3, rfl⟩ := ty_int64 h3
 obtain ⟨x4, rfl⟩ := ty_sum h4
 obtain ⟨x5, rfl⟩ := ty_bytes h5
 exact ⟨⟨x0, x1, x2, x3, x4, x5⟩, rfl⟩
theorem ty_signs {n : Nat} {a : AV} (h : Ty Tryz.prog (n + 4) 39 a) : ∃ l, a = .sl 33 (signsA l) 0 := by
 obtain ⟨L, rfl, hl, k⟩ := h.sl_inv Tryz.underlying39 (m := 33) (by kernel_rfl)
 obtain ⟨l, rfl, _⟩ := list_inv (f := signA) (p := fun _ => True) (fun x hx => by obtain ⟨y, rfl⟩ := ty_sign (k x hx); exact ⟨y, rfl, trivial⟩)
 exact ⟨l, rfl⟩
theorem ty_tx {n : Nat} {a : AV} (h : Ty Tryz.prog (n + 7) 41 a) : ∃ r, a = txA r := by
 obtain ⟨M, rfl, k⟩ := h.struct_inv Tryz.underlying41 (m := 40) (ts := [34, 35, 38, 39]) (by kernel_rfl) rfl
 obtain ⟨a0, _, rfl, h0, k⟩ := k.cons_inv
 obtain ⟨a1, _, rfl, h1, k⟩ := k.cons_inv
 obtain ⟨a2, _, rfl, h2, k⟩ := k.cons_inv
 obtain ⟨a3, _, rfl, h3, k⟩ := k.cons_inv
 cases k.nil_inv
 obtain ⟨x0, rfl⟩ := ty_ins (n := n + 1) h0
 obtain ⟨x1, rfl⟩ := ty_outs h1
 obtain ⟨x2, rfl⟩ := ty_op (n := n + 3) h2
 obtain ⟨x3, rfl⟩ := ty_signs (n := n + 2) h3
 exact ⟨⟨x0, x1, x2, x3⟩, rfl⟩
theorem ty_txs {n : Nat} {a : AV} (h : Ty Tryz.prog (n + 8) 85 a) : ∃ l, a = .sl 40 (txsA l) 0 := by
 obtain ⟨L, rfl, hl, k⟩ := h.sl_inv Tryz.underlying85 (m := 40) (by kernel_rfl)
 obtain ⟨l, rfl, _⟩ := list_inv (f := txA) (p := fun _ => True) (fun x hx => by obtain ⟨y, rfl⟩ := ty_tx (k x hx); exact ⟨y, rfl, trivial⟩)
 exact ⟨l, rfl⟩
end Go.Proofs.YthfoeaokfhbdaaaGreat

namespace Go.Proofs.YthfoeaokfhbdaaaGreat
open Go Go.AL Go.Proofs.YthfoeaokfhbdaaaGreat.T Go.ChangeShapes Go.WideShapes Go.ChangeAt Go.RowKit
theorem sk_args (xs : List AV) (h : TyF (Ty Tryz.prog 8) Tryz.f6.params.toList xs) : FnSpec Tryz.prog 6 0 xs [] (.val (.bool true)) [] 0 := by
 have hp : Tryz.f6.params.toList = [96, 35, 85] := rfl
 rw [hp] at h
 obtain ⟨a0, _, rfl, h0, h⟩ := h.cons_inv
 obtain ⟨a1, _, rfl, h1, h⟩ := h.cons_inv
 obtain ⟨a2, _, rfl, h2, h⟩ := h.cons_inv
 cases h.nil_inv
 obtain ⟨x0, rfl⟩ := ty_brs (n := 2) h0
 obtain ⟨x1, rfl⟩ := ty_outs (n := 2) h1
 obtain ⟨x2, rfl⟩ := ty_txs (n := 0) h2
 exact scanl_spec 0 x0 x1 x2

theorem sk_lifted (os : Os) (started : os.Started) (H : Type) (enc : TypeId × Value → H) :
  ReturnsInHanded {} Tryz.checked os 6 .any (Rows.scanLooksSpec.pre6 enc Tryz.prog Tryz.f6 Rows.scanLooksRow.domain false) (Rows.scanLooksSpec.post enc Tryz.prog Tryz.f6 false true false false) := by
 refine returnsInHanded_of_change (C := Tryz.checked) Tryz.own started (by kernel_rfl) Tryz.func6
  (ChangeSpec.witness6 (enc := enc) (C := Tryz.checked) false ⟨#[], #[.slice none 0 0, .slice none 0 0, .slice none 0 0], []⟩ 8 (by kernel_rfl) (by kernel_rfl) (by kernel_rfl) (by kernel_rfl)) ?_
 intro W base args ds gs before hval0 hW hcnd _
 exact post_of_spec (P := Tryz.prog) (n := 8) (tb := 4) Tryz.laidOut rfl (fun ds hl => by
  match ds, hl with
  | [d1, d2, d3], _ => rfl) (by kernel_rfl) (by kernel_rfl) rfl Tryz.underlying4 sk_args W base args ds gs before hval0 hW

theorem sk_holds : Rows.ScanLooksSaid :=
 OpenClaim.holds_of_wide 6 Tryz.f6 rfl rfl rfl rfl rfl rfl rfl ⟨rfl, rfl, rfl, rfl, rfl⟩ rfl rfl rfl rfl rfl (by kernel_rfl) Tryz.func6 (by kernel_rfl)
  (of_decide_eq_true (by kernel_rfl)) (by unfold Func.isWrapper; first | (rw [if_pos (by decide +kernel)]; kernel_rfl) | (rw [if_neg (by decide +kernel)]; exact ⟨rfl, rfl⟩))
  (fun os started H enc _ => sk_lifted os started H enc)
#print axioms sk_holds
end Go.Proofs.YthfoeaokfhbdaaaGreat

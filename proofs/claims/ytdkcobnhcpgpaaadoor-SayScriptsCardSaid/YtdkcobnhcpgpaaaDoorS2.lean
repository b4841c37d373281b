/-
  say.hex walked, over the contracts of strings.Builder.
-/
import Derived.Test.YtdkcobnhcpgpaaaDoorS1
import Derived.WalkKit
import Derived.BigCall
namespace Go.Proofs
open Go.RowKit

/-- a digit of the base 16 -/
def Tryd.hexDigit (n : Nat) : UInt8 := if n < 10 then UInt8.ofNat (48 + n) else UInt8.ofNat (87 + n)
def Tryd.hexOf : List UInt8 → List UInt8
  | [] => []
  | b :: t => Tryd.hexDigit (b.toNat / 16) :: Tryd.hexDigit (b.toNat % 16) :: Tryd.hexOf t

theorem Tryd.hexOf_length : ∀ l : List UInt8, (Tryd.hexOf l).length = 2 * l.length
  | [] => rfl
  | b :: t => by simp [Tryd.hexOf, Tryd.hexOf_length t]; omega
theorem Tryd.hexOf_append : ∀ l m : List UInt8, Tryd.hexOf (l ++ m) = Tryd.hexOf l ++ Tryd.hexOf m
  | [], m => rfl
  | b :: t, m => by simp [Tryd.hexOf, Tryd.hexOf_append t m]
def Tryd.hexTab : ByteArray := ⟨#[48, 49, 50, 51, 52, 53, 54, 55, 56, 57, 97, 98, 99, 100, 101, 102]⟩
theorem Tryd.hexTab_at (i : Nat) (h : i < Tryd.hexTab.size) : Tryd.hexTab[i] = Tryd.hexDigit i := by
  have h' : i < 16 := h
  have key : ∀ i : Fin 16, Tryd.hexTab[i.val]'(i.isLt) = Tryd.hexDigit i.val := by decide
  exact key ⟨i, h'⟩
theorem Tryd.hex_step (l : List UInt8) (k : Nat) (hk : k < l.length) :
    Tryd.hexOf (l.take (k + 1)) = Tryd.hexOf (l.take k) ++ [Tryd.hexDigit ((l.getD k 0).toNat / 16), Tryd.hexDigit ((l.getD k 0).toNat % 16)] := by
  rw [List.take_add_one, Tryd.hexOf_append, List.getElem?_eq_getElem hk, List.getD_eq_getElem?_getD, List.getElem?_eq_getElem hk]
  rfl

theorem Tryd.hex_nil (a : Option Addr) (c : Nat) (w : World) :
    Calls Tryd.prog 20 #[.slice a 0 c] w fun e w' => e = .returned (.string ⟨#[46]⟩) ∧ w' = w := by
  go_enter Tryd.func20, Tryd.ntmps20
  go_wp2
  go_ret
  exact ⟨rfl, rfl⟩

set_option maxHeartbeats 4000000 in
set_option maxRecDepth 1000000 in
theorem Tryd.hex_walk (bk o n c : Nat) (l : List UInt8) (w : World) (hn : l.length = n) (h0 : 0 < n) (hcells : ∀ j, j < n → w.cell? ⟨bk, o + j, none⟩ = some (.int .u8 (l.getD j 0).toNat)) (hbk : bk < w.heap.size) (hlen : 2 * n ≤ 140737488355328) :
    Calls Tryd.prog 20 #[.slice (some ⟨bk, o, none⟩) n c] w fun e w' => e = .returned (.string ⟨(Tryd.hexOf l).toArray⟩) ∧ Below w.heap.size w w' := by
  go_enter Tryd.func20, Tryd.ntmps20
  have hz : ((n : Int) == 0) = false := by simp; omega
  go_wp2
  try simp only [hz]
  go_loopw [13] (fun vi wr => ∃ k : Nat, k ≤ n ∧ vi = .int .i64 k ∧ Lib.IsBuilderF 54 5 w.heap.size w.heap.size (Lib.byteCells (Tryd.hexOf (l.take k))) wr ∧ Below w.heap.size w wr) (fun vi _ => n - (RowKit.intOf vi).toNat)
  case atStart =>
    exact ⟨0, Nat.zero_le _, rfl, Lib.IsBuilderF.of (Lib.fresh_isBuilder 54 5 w), (Below.refl _ w).alloc (Nat.le_refl _) _⟩
  case round =>
    obtain ⟨k, hk, rfl, hI, hbw⟩ := hrel
    have hsz : w.heap.size ≤ wr.heap.size := hbw.size
    by_cases hlt : k < n
    · obtain ⟨x, hxk⟩ : ∃ x : Nat, x = (l.getD k 0).toNat := ⟨_, rfl⟩
      have hx : x < 256 := by rw [hxk]; exact UInt8.toNat_lt _
      have hc : wr.cell? ⟨bk, o + k, none⟩ = some (.int .u8 (x : Nat)) := by rw [hxk]; exact (hbw.cell (p := ⟨bk, o + k, none⟩) hbk).trans (hcells k hlt)
      have hst := Tryd.hex_step l k (by omega)
      rw [← hxk] at hst
      have hST : Hid (Tryd.hexOf (l.take (k + 1)) = Tryd.hexOf (l.take k) ++ [Tryd.hexDigit (x / 16), Tryd.hexDigit (x % 16)]) := hst
      clear hxk hst
      have hi1 : 0 ≤ (x : Int) / 16 ∧ (x : Int) / 16 < 16 := by omega
      have hi2 : 0 ≤ (x : Int) % 16 ∧ (x : Int) % 16 < 16 := by omega
      have hL : (Tryd.hexOf (l.take k)).length = 2 * k := by rw [Tryd.hexOf_length, List.length_take]; omega
      go_wp2_with (go_at_call 33; refine (Tryd.Builder_WriteByte_k w.heap.size w.heap.size _ _ _ hI ?hl1 hsz).mono ?_)
      case hl1 => rw [Lib.byteCells_length]; omega
      rintro e W1 ⟨rfl, h1, b1, k1⟩
      have hI1 : Lib.IsBuilderF 54 5 w.heap.size w.heap.size _ W1 := Or.inr h1
      have hc1 : W1.cell? ⟨bk, o + k, none⟩ = some (.int .u8 (x : Nat)) := (b1.cell (p := ⟨bk, o + k, none⟩) hbk).trans hc
      have hsz1 := Nat.le_trans hsz b1.size
      go_wp2_with (go_at_call 33; refine (Tryd.Builder_WriteByte_k w.heap.size w.heap.size _ _ _ hI1 ?hl2 hsz1).mono ?_)
      case hl2 => simp [Lib.byteCells_length]; omega
      rintro e W2 ⟨rfl, h2, b2, k2⟩
      go_wp2
      go_roundw
      case rel =>
        refine ⟨k + 1, by omega, by go_num, ?_, (hbw.trans b1).trans b2⟩
        have e1 := Tryd.hexTab_at (x / 16) (by have : Tryd.hexTab.size = 16 := rfl; omega)
        have e2 := Tryd.hexTab_at (x % 16) (by have : Tryd.hexTab.size = 16 := rfl; omega)
        rw [hST.out, Lib.byteCells_append]
        refine Or.inr ?_
        simp only [Lib.byteCells, List.map_cons, List.map_nil, ← e1, ← e2]
        simpa [Lib.byteCells, Tryd.hexTab] using h2
      case measure => simp [RowKit.intOf]; omega
    · have hke : k = n := by omega
      subst hke
      go_wp2_with (go_at_call 32; refine (Tryd.Builder_String_any_k w.heap.size w.heap.size _ _ hI hsz).mono ?_)
      rintro e W1 ⟨rfl, _, b1, _⟩
      go_wp2
      go_ret
      subst hn
      simp only [List.take_length]
      exact ⟨rfl, hbw.trans b1⟩
end Go.Proofs

/-
  say: contracts of the library's functions that its text calls, and of hex; texts as lists of bytes.
-/
import Derived.Test.YtdkcobnhcpgpaaaDoorS2
import Derived.Test.YtdkcobnhcpgpaaaDoorAL22
set_option linter.unusedSimpArgs false
set_option linter.unusedVariables false
set_option maxRecDepth 100000
namespace Go.Proofs.YtdkcobnhcpgpaaaDoor
open Go Go.AL Go.RowKit

/-! ### texts -/
abbrev txt (l : List UInt8) : AV := .val (.string (bstr l))
theorem bs_size (l : List UInt8) : (bstr l).size = l.length := by cases l <;> rfl
theorem bs_app (a b : List UInt8) : bstr a ++ bstr b = bstr (a ++ b) := by
  apply ByteArray.ext
  rw [ByteArray.data_append]
  simp [bstr]
theorem bs_eq (a b : List UInt8) : (bstr a = bstr b) = (a = b) := by
  simp only [eq_iff_iff]
  exact ⟨bstr_inj, fun h => by rw [h]⟩
theorem bs_ext (l : List UInt8) (i j : Nat) : (bstr l).extract i j = bstr ((l.take j).drop i) := by
  apply ByteArray.ext
  rw [ByteArray.data_extract]
  simp only [bstr, List.extract_toArray, List.extract_eq_take_drop, List.take_drop]
  by_cases h : i ≤ j
  · rw [show i + (j - i) = j by omega]
  · rw [show i + (j - i) = i by omega, List.drop_eq_nil_of_le (by rw [List.length_take]; omega), List.drop_eq_nil_of_le (by rw [List.length_take]; omega)]
theorem mk_bstr (l : List UInt8) : (⟨l.toArray⟩ : ByteArray) = bstr l := by cases l <;> rfl
theorem empty_bstr : ByteArray.empty = bstr [] := by decide

/-! ### the library -/
theorem callable {f : Nat} {fn : Func} (h : Tryd.prog.funcs[f]? = some fn) (h1 : (fn.name == "runtime.NumGoroutine") = false) (h2 : fn.body.isNone = false) : Callable Tryd.prog f := ⟨fn, h, h1, h2⟩

theorem same_below {w w' : World} (h : w' = w) : Below w.heap.size w w' := h ▸ Below.refl _ _

theorem index_spec (nx : Nat) (l : List UInt8) (c : UInt8) : FnSpec Tryd.prog 43 nx [txt l, txt [c]] [] (.val (.int .i64 (Lib.indexByte l c))) [] 0 := by
  refine .of_calls (callable Tryd.func43 (by kernel_rfl) (by kernel_rfl)) rfl fun vs g w ha hi => ?_
  obtain ⟨u, v, rfl, hu, hv⟩ := args_two ha
  obtain ⟨rfl, _⟩ := V1_val hu
  obtain ⟨rfl, _⟩ := V1_val hv
  refine (Tryd.strings_Index_one (bstr l) c w).mono ?_
  rintro e w' ⟨rfl, h⟩
  exact ⟨rfl, same_below h⟩
theorem count_spec (nx : Nat) (l : List UInt8) (c : UInt8) : FnSpec Tryd.prog 42 nx [txt l, txt [c]] [] (.val (.int .i64 (Lib.countByte l c))) [] 0 := by
  refine .of_calls (callable Tryd.func42 (by kernel_rfl) (by kernel_rfl)) rfl fun vs g w ha hi => ?_
  obtain ⟨u, v, rfl, hu, hv⟩ := args_two ha
  obtain ⟨rfl, _⟩ := V1_val hu
  obtain ⟨rfl, _⟩ := V1_val hv
  refine (Tryd.strings_Count_one (bstr l) c w).mono ?_
  rintro e w' ⟨rfl, h⟩
  exact ⟨rfl, same_below h⟩
theorem indexByte_spec (nx : Nat) (l : List UInt8) (c : UInt8) : FnSpec Tryd.prog 45 nx [txt l, .val (.int .u8 c.toNat)] [] (.val (.int .i64 (Lib.indexByte l c))) [] 0 := by
  refine .of_calls (callable Tryd.func45 (by kernel_rfl) (by kernel_rfl)) rfl fun vs g w ha hi => ?_
  obtain ⟨u, v, rfl, hu, hv⟩ := args_two ha
  obtain ⟨rfl, _⟩ := V1_val hu
  obtain ⟨rfl, _⟩ := V1_val hv
  refine (Tryd.strings_IndexByte (bstr l) c.toNat w).mono ?_
  rintro e w' ⟨rfl, h⟩
  refine ⟨?_, same_below h⟩
  have : ((c.toNat : Int)).toNat.toUInt8 = c := by rw [Int.toNat_natCast]; exact UInt8.ofNat_toNat
  rw [this]; rfl
theorem trimPrefix_spec (nx : Nat) (l p : List UInt8) : FnSpec Tryd.prog 44 nx [txt l, txt p] [] (txt (Lib.trimPrefix l p)) [] 0 := by
  refine .of_calls (callable Tryd.func44 (by kernel_rfl) (by kernel_rfl)) rfl fun vs g w ha hi => ?_
  obtain ⟨u, v, rfl, hu, hv⟩ := args_two ha
  obtain ⟨rfl, _⟩ := V1_val hu
  obtain ⟨rfl, _⟩ := V1_val hv
  refine (Tryd.strings_TrimPrefix (bstr l) (bstr p) w).mono ?_
  rintro e w' ⟨rfl, h⟩
  exact ⟨rfl, same_below h⟩
theorem trimSuffix_spec (nx : Nat) (l p : List UInt8) (hl : l.length < 2 ^ 62) : FnSpec Tryd.prog 30 nx [txt l, txt p] [] (txt (Lib.trimSuffix l p)) [] 0 := by
  refine .of_calls (callable Tryd.func30 (by kernel_rfl) (by kernel_rfl)) rfl fun vs g w ha hi => ?_
  obtain ⟨u, v, rfl, hu, hv⟩ := args_two ha
  obtain ⟨rfl, _⟩ := V1_val hu
  obtain ⟨rfl, _⟩ := V1_val hv
  refine (Tryd.strings_TrimSuffix (bstr l) (bstr p) w (by rw [bs_size]; omega)).mono ?_
  rintro e w' ⟨rfl, h⟩
  exact ⟨rfl, same_below h⟩

def txts (l : List (List UInt8)) : List AV := l.map txt
theorem txts_vals (l : List (List UInt8)) : txts l = ((l.map bstr).map Value.string).map .val := by simp [txts, txt]
theorem txts_length (l : List (List UInt8)) : (txts l).length = l.length := by simp [txts]

theorem join_spec (nx tok : Nat) (x : List UInt8) (l : List (List UInt8)) (sep : List UInt8) (h1 : (x :: l).length ≤ 140737488355328) (h2 : (Lib.join (x :: l) sep).length ≤ 140737488355328) :
    FnSpec Tryd.prog 21 nx [.sl 1 (txts (x :: l)) tok, txt sep] [] (txt (Lib.join (x :: l) sep)) [] 0 := by
  refine .of_calls (callable Tryd.func21 (by kernel_rfl) (by kernel_rfl)) rfl fun vs g w ha hi => ?_
  obtain ⟨u, v, rfl, hu, hv⟩ := args_two ha
  obtain ⟨rfl, _⟩ := V1_val hv
  rcases V1_sl hu with ⟨hn, _⟩ | ⟨b, o, c, rfl, hc, hm, _⟩
  · cases hn
  have hb := mem_lt hi hm (by omega) (by simp [txts])
  have hcell := mem_one hm (txts_vals _)
  have hl : (txts (x :: l)).length = ((x :: l).map bstr).length := by rw [txts_length, List.length_map]
  have e1 : ((x :: l).map bstr).map (·.data.toList) = x :: l := by
    rw [List.map_map]
    conv => rhs; rw [← List.map_id (x :: l)]
    exact List.map_congr_left fun a _ => rfl
  have := Tryd.strings_Join b o c ((x :: l).map bstr) (bstr sep) w (fun j y hj => hcell j _ (by simp only [List.getElem?_map] at hj ⊢; rw [hj]; rfl)) hb (by rw [List.length_map]; exact h1) (by rw [← hl]; exact hc) (by rw [e1]; exact h2)
  rw [hl]
  refine this.mono ?_
  rintro e w' ⟨rfl, h⟩
  exact ⟨by rw [e1]; rfl, h⟩

/-! ### hex -/
def hexT (l : List UInt8) : List UInt8 := if l = [] then [46] else Tryd.hexOf l

theorem hex_spec (nx tok : Nat) (l : List UInt8) (hl : 2 * l.length ≤ 140737488355328) : FnSpec Tryd.prog 20 nx [.sl 1 (u8s l) tok] [] (txt (hexT l)) [] 0 := by
  refine .of_calls (callable Tryd.func20 (by kernel_rfl) (by kernel_rfl)) rfl fun vs g w ha hi => ?_
  obtain ⟨u, rfl, hu⟩ := args_one ha
  have e1 : u8s l = (l.map fun b => Value.int .u8 (b.toNat : Int)).map .val := by simp [u8s, u8]
  by_cases h0 : l = []
  · subst h0
    have : ∃ a c, u = .slice a 0 c := by
      rcases V1_sl hu with ⟨_, base, rfl⟩ | ⟨b, o, c, rfl, _⟩
      · exact ⟨_, _, rfl⟩
      · exact ⟨_, _, rfl⟩
    obtain ⟨a, c, rfl⟩ := this
    refine (Tryd.hex_nil a c w).mono ?_
    rintro e w' ⟨rfl, h⟩
    exact ⟨rfl, same_below h⟩
  · rcases V1_sl hu with ⟨hn, _⟩ | ⟨b, o, c, rfl, hc, hm, _⟩
    · simp [u8s] at hn; exact absurd hn h0
    have hb := mem_lt hi hm (by omega) (by simpa [u8s] using h0)
    have hcell := mem_one hm e1
    have hn : (u8s l).length = l.length := by simp [u8s]
    rw [hn]
    refine (Tryd.hex_walk b o l.length c l w rfl (List.length_pos_iff.2 h0) (fun j hj => hcell j _ ?_) hb hl).mono ?_
    · rw [List.getElem?_map, List.getD_eq_getElem?_getD, List.getElem?_eq_getElem hj]; rfl
    · rintro e w' ⟨rfl, h⟩
      exact ⟨by rw [hexT, if_neg h0]; rfl, h⟩
end Go.Proofs.YtdkcobnhcpgpaaaDoor

/-
  say: the plain law: texts of acts.
-/
import Derived.Test.YtdkcobnhcpgpaaaDoorS20
import Derived.Test.YtdkcobnhcpgpaaaDoorS17
set_option linter.unusedSimpArgs false
set_option linter.unusedVariables false
set_option maxRecDepth 100000
namespace Go.Proofs.YtdkcobnhcpgpaaaDoor
open Go Go.AL Go.Proofs

def wantL (l : List Act_) : List Act_ := l.filter rightB
theorem rightB_iff (a : Act_) : rightB a = true ↔ RightP a := by simp [rightB]
theorem script_join : ∀ l : List Act_, scriptT l = joinN ((wantL l).map lineT)
  | [] => rfl
  | a :: l => by
    by_cases h : RightP a
    · have h1 : rightB a = true := (rightB_iff a).2 h
      simp [scriptT, wantL, List.filter_cons, h1, lineT_ne h, joinN_cons, script_join l]
    · have h1 : rightB a = false := by rw [Bool.eq_false_iff]; exact fun e => h ((rightB_iff a).1 e)
      simp [scriptT, wantL, List.filter_cons, h1, lineT_nil h, script_join l]
theorem ten_word (k : Int) : (10 : UInt8) ∉ wordOf k := by
  unfold wordOf
  split
  · rename_i h
    exact (word_facts ⟨k.toNat, by omega⟩ (by show 1 ≤ k.toNat; omega)).2.2
  · simp
theorem ten_dec (n : Int) : (10 : UInt8) ∉ decT n := by
  unfold decT
  split
  · intro h
    rcases List.mem_cons.1 h with h | h
    · cases h
    · exact not_mem_dec (n := n.natAbs) (c := 10) (.inl (by decide)) h
  · exact not_mem_dec (.inl (by decide))
theorem hexv_ten : ∀ x : Fin 16, Tryd.hexDigit x.val ≠ 10 := by decide
theorem ten_hex (l : List UInt8) : (10 : UInt8) ∉ hexT l := by
  unfold hexT
  split
  · simp
  · intro h
    obtain ⟨x, hx⟩ := hexOf_mem l _ h
    exact hexv_ten x hx.symm
theorem ten_line (a : Act_) : (10 : UInt8) ∉ lineT a := by
  unfold lineT
  split
  · have h1 := ten_word a.k
    have h2 := ten_dec a.i
    have h3 := ten_dec a.n
    have h4 := ten_hex a.d
    simp only [List.mem_append, not_or]
    refine ⟨⟨⟨h1, ?_⟩, ?_⟩, ?_⟩
    · split
      · intro h; rcases List.mem_cons.1 h with h | h
        · cases h
        · exact h2 h
      · simp
    · split
      · intro h; rcases List.mem_cons.1 h with h | h
        · cases h
        · exact h3 h
      · simp
    · split
      · intro h; rcases List.mem_cons.1 h with h | h
        · cases h
        · exact h4 h
      · simp
  · simp
theorem read_lines : ∀ (w : List Act_) (hw : ∀ a ∈ w, RightP a) (i : Nat) (rest : List (List UInt8)) (acc : List Act_), readL i (w.map lineT ++ rest) acc = readL (i + w.length) rest (acc ++ w)
  | [], _, i, rest, acc => by simp
  | a :: w, hw, i, rest, acc => by
    rw [List.map_cons, List.cons_append, readL, parse_line a (hw a List.mem_cons_self)]
    simp only [if_true]
    rw [read_lines w (fun b hb => hw b (List.mem_cons_of_mem _ hb))]
    rw [List.length_cons, List.append_assoc]
    congr 1
    omega
theorem want_right (l : List Act_) : ∀ a ∈ wantL l, RightP a := fun a ha => (rightB_iff a).1 (List.mem_filter.1 ha).2
theorem want_ten (l : List Act_) : ∀ x ∈ (wantL l).map lineT, (10 : UInt8) ∉ x := fun x hx => by
  obtain ⟨a, _, rfl⟩ := List.mem_map.1 hx
  exact ten_line a
theorem read_script (l : List Act_) (h : l.length ≤ 4000) : readT (scriptT l) = (wantL l, 0, 0) := by
  have hwl : (wantL l).length ≤ l.length := List.length_filter_le _ _
  have hr := want_right l
  have ht := want_ten l
  rw [script_join]
  generalize wantL l = w at *
  rcases List.eq_nil_or_concat w with rfl | ⟨w', a, rfl⟩
  · rfl
  · rw [List.concat_eq_append] at *
    have h1 : joinN ((w' ++ [a]).map lineT) = joinN (w'.map lineT) ++ lineT a ++ [10] := by rw [List.map_append, List.map_cons, List.map_nil, joinN_snoc]
    have h2 : splitC 10 (joinN (w'.map lineT) ++ lineT a) = (w' ++ [a]).map lineT := by
      rw [split_join _ (ten_line a) _ (fun x hx => ht x (by rw [List.map_append]; exact List.mem_append_left _ hx)), List.map_append]; rfl
    rw [h1, readT, if_neg (by simp), trim_cut, h2, if_neg (by rw [List.length_map]; omega)]
    have := read_lines (w' ++ [a]) hr 0 [] []
    rw [List.append_nil] at this
    rw [this]
    rfl
theorem read_other (l : List Act_) (o : List UInt8) (h : l.length ≤ 4000) (h0 : o ≠ []) (h10 : (10 : UInt8) ∉ o) :
    readT (scriptT l ++ o) = if (parseT o).2 = 0 then (wantL l ++ [(parseT o).1], 0, 0) else ([], ((wantL l).length : Int), (parseT o).2) := by
  have hwl : (wantL l).length ≤ l.length := List.length_filter_le _ _
  have h1 : splitC 10 (joinN ((wantL l).map lineT) ++ o) = (wantL l).map lineT ++ [o] := split_join o h10 _ (want_ten l)
  rw [script_join, readT, if_neg (by simp [h0]), trim_not h0 h10, h1, if_neg (by rw [List.length_append, List.length_map]; simp; omega), read_lines _ (want_right l), readL]
  split
  · rw [readL]; rfl
  · simp
theorem lineT_small (a : Act_) (h : a.d.length ≤ 200) : (lineT a).length ≤ 500 := by
  unfold lineT
  split
  · rename_i hr
    obtain ⟨k1, k2, p1, p2, p3, b1, b2, b3, b4, b5⟩ := hr
    have lI := decT_len (n := a.i) (by omega) (by omega)
    have lN := decT_len (n := a.n) (by omega) (by omega)
    have lD := hexT_len a.d
    have hwl := wordOf_len a.k
    have e1 : (if hasIL a.k then 32 :: decT a.i else []).length ≤ 21 := by split <;> simp; omega
    have e2 : (if hasNL a.k then 32 :: decT a.n else []).length ≤ 21 := by split <;> simp; omega
    have e3 : (if hasDL a.k then 32 :: hexT a.d else []).length ≤ 402 := by split <;> simp; omega
    simp only [List.length_append]
    omega
  · simp
theorem scriptT_small : ∀ (l : List Act_), (∀ a ∈ l, a.d.length ≤ 200) → (scriptT l).length ≤ 501 * l.length
  | [], _ => by simp [scriptT]
  | a :: l, h => by
    have h1 := lineT_small a (h a List.mem_cons_self)
    have h2 := scriptT_small l (fun b hb => h b (List.mem_cons_of_mem _ hb))
    rw [scriptT, List.length_append, List.length_cons]
    have : (if lineT a = [] then [] else lineT a ++ [10]).length ≤ 501 := by split <;> simp; omega
    omega
end Go.Proofs.YtdkcobnhcpgpaaaDoor

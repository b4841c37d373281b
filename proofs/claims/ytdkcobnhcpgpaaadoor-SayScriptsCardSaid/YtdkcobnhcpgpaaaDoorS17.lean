/-
  say.Script walked.
-/
import Derived.Test.YtdkcobnhcpgpaaaDoorS16
import Derived.WalkKit
import Derived.BigCall
import Derived.Shelf.Strings.MapGrows
set_option linter.unusedSimpArgs false
set_option linter.unusedVariables false
namespace Go.Proofs.YtdkcobnhcpgpaaaDoor
open Go Go.AL Go.Proofs Go.RowKit

theorem loop_ne (b : ByteArray) : ∀ (n i : Nat) (r : List UInt8), b.size - i = n → r ≠ [] → ByteArray.toList.loop b i r ≠ [] := by
  intro n
  induction n with
  | zero =>
    intro i r h hr
    rw [ByteArray.toList.loop, if_neg (by omega)]
    simpa using hr
  | succ n ih =>
    intro i r h hr
    rw [ByteArray.toList.loop, if_pos (by omega)]
    exact ih (i + 1) _ (by omega) (by simp)
theorem toList_ne (b : ByteArray) (h : 0 < b.size) : b.toList ≠ [] := by
  rw [ByteArray.toList, ByteArray.toList.loop, if_pos h]
  exact loop_ne b _ 1 _ rfl (by simp)
theorem emp_nil : (bstr []).toList.isEmpty = true := by rw [← empty_bstr, ByteArray.toList_empty]; rfl
theorem emp_ne {l : List UInt8} (h : l ≠ []) : (bstr l).toList.isEmpty = false := by
  have := toList_ne (bstr l) (by rw [bs_size]; exact List.length_pos_iff.2 h)
  simpa using this
/-- acts as a text -/
def scriptT : List Act_ → List UInt8
  | [] => []
  | a :: l => (if lineT a = [] then [] else lineT a ++ [10]) ++ scriptT l
theorem scriptT_app : ∀ l m : List Act_, scriptT (l ++ m) = scriptT l ++ scriptT m
  | [], m => rfl
  | a :: l, m => by simp [scriptT, scriptT_app l m]

theorem act_cells {g : G} {w : World} {a : Act_} {tok : Nat} {cs : List Value} (h : R g w (.one (actA a tok) cs)) :
    ∃ b m c, cs = [.int .i64 a.k, .int .i64 a.i, .int .i64 a.n, .slice b m c] ∧ V1 g w (actA a tok) (.agg cs.toArray) := by
  have hv : V1 g w (actA a tok) (.agg cs.toArray) := V0.of_agg (by simpa using h) rfl
  unfold actA at h
  cases h with
  | agg h1 _ =>
    cases h1 with
    | seqCons k1 h1 =>
    cases h1 with
    | seqCons k2 h1 =>
    cases h1 with
    | seqCons k3 h1 =>
    cases h1 with
    | seqCons k4 h1 =>
    cases h1
    cases k1; cases k2; cases k3
    obtain ⟨v, rfl, _⟩ := k4.single rfl
    rcases V1_sl (show V1 g w (.sl 1 (u8s a.d) tok) v from V0.of_cell k4 rfl) with ⟨_, base, rfl⟩ | ⟨b, o, c, rfl, _⟩
    · exact ⟨_, _, _, rfl, hv⟩
    · exact ⟨_, _, _, rfl, hv⟩

theorem isb_below {T e : TypeId} {B b : Nat} {bs : List Value} {W W' : World} (h : Lib.IsBuilderF T e B b bs W) (hb : Below W.heap.size W W') : Lib.IsBuilderF T e B b bs W' := by
  rcases h with h | h
  · exact .inl (h.below hb)
  · exact .inr (h.below hb)
theorem line_calls {g : G} {w : World} {v : Value} (x : Act_) (hd : x.d.length < 2 ^ 40) (hi : Inv g w) (hV : V1 g w (actA x 0) v) :
    Calls Tryd.prog 8 #[v] w fun e w' => e = .returned (.string (bstr (lineT x))) ∧ Below w.heap.size w w' := by
  refine ((line_spec 0 0 x hd (.inl (by omega))).2 #[v] (g.cut 0) w ⟨rfl, fun i a y ha hy => ?_⟩ hi ⟨fun n r h => by simp [Heap.get] at h, fun n n' r r' b h => by simp [Heap.get] at h⟩ (fun m _ hm => by have := hm.2; omega)).mono ?_
  · match i, ha, hy with
    | 0, ha, hy => injection ha with ha; injection hy with hy; subst ha hy; exact hV.cut (by simp [actA, AV.nb, AV.nbs, nb_u8s])
    | i + 1, ha, hy => simp at ha
  · rintro e w' ⟨r, g', rfl, hr, hp⟩
    obtain ⟨rfl, _⟩ := V1_val hr
    exact ⟨rfl, hp.delta.os, hp.delta.tape, hp.delta.output, hp.delta.size, fun b hb => (hp.delta.keep b hb (fun ⟨m, s, hm, _⟩ => by simp [keys] at hm)).1⟩
theorem inv_below {g : G} {w w' : World} (hi : Inv g w) (hb : Below w.heap.size w w') : Inv g w' := fun b hb' => hi b (Nat.le_trans hb.size hb')
theorem ext_below {g : G} {w w' : World} (hi : Inv g w) (hb : Below w.heap.size w w') : Ext g w g w' := by
  refine ⟨fun _ h => h, fun _ _ => Nat.le_refl _, fun _ _ _ _ => rfl, fun _ => Nat.le_refl _, fun b o ho => ?_⟩
  have hlt : b < w.heap.size := by
    rcases Nat.lt_or_ge b w.heap.size with h' | h'
    · exact h'
    · rw [hi b h'] at ho; omega
  exact hb.cell (p := ⟨b, o, none⟩) hlt

set_option maxHeartbeats 4000000 in
set_option maxRecDepth 1000000 in
theorem script_walk (a : Option Addr) (n c : Nat) (l : List Act_) (g : G) (w : World) (hi : Inv g w) (hn : l.length = n)
    (ha : n = 0 ∨ ∃ bk o, a = some ⟨bk, o, none⟩ ∧ R g w (.mem 4 (actsA l) bk o)) (hd : ∀ x ∈ l, x.d.length < 2 ^ 40) (hlen : (scriptT l).length ≤ 140737488355328) (hn2 : n < 2 ^ 40) :
    Calls Tryd.prog 16 #[.slice a n c] w fun e w' => e = .returned (.string (bstr (scriptT l))) ∧ Below w.heap.size w w' := by
  go_enter Tryd.func16, Tryd.ntmps16
  go_wp2
  go_loopw [9] (fun vi wr => ∃ k : Nat, k ≤ n ∧ vi = .int .i64 k ∧ Lib.IsBuilderF 54 5 w.heap.size w.heap.size (Lib.byteCells (scriptT (l.take k))) wr ∧ Below w.heap.size w wr) (fun vi _ => n - (RowKit.intOf vi).toNat)
  case atStart =>
    exact ⟨0, Nat.zero_le _, rfl, Lib.IsBuilderF.of (Lib.fresh_isBuilder 54 5 w), (Below.refl _ w).alloc (Nat.le_refl _) _⟩
  case round =>
    obtain ⟨k, hk, rfl, hI, hbw⟩ := hrel
    have hsz : w.heap.size ≤ wr.heap.size := hbw.size
    by_cases hlt : k < n
    · rcases ha with ha | ⟨bk, o, rfl, hm⟩
      · omega
      obtain ⟨cs, r1, r2, r3, r4⟩ := hm.mem_get (i := k) (by rw [acts_len]; omega)
      rw [acts_get (by omega)] at r1
      have hx : l[k] ∈ l := List.getElem_mem _
      have htk : l.take (k + 1) = l.take k ++ [l[k]] := (List.take_append_getElem (by omega)).symm
      generalize l[k] = x at *
      obtain ⟨b3, m3, q3, rfl, hV⟩ := act_cells r1
      have hbk : bk < w.heap.size := mem_lt hi hm (by omega) (fun h => by have := congrArg List.length h; rw [acts_len] at this; simp only [List.length_nil] at this; omega)
      have h0 : wr.cell? ⟨bk, o + k * 4, none⟩ = some (.int .i64 x.k) := (hbw.cell (p := ⟨bk, o + k * 4, none⟩) hbk).trans (r3 0 _ rfl)
      have h1 : wr.cell? ⟨bk, o + k * 4 + 1, none⟩ = some (.int .i64 x.i) := (hbw.cell (p := ⟨bk, o + k * 4 + 1, none⟩) hbk).trans (r3 1 _ rfl)
      have h2 : wr.cell? ⟨bk, o + k * 4 + 2, none⟩ = some (.int .i64 x.n) := (hbw.cell (p := ⟨bk, o + k * 4 + 2, none⟩) hbk).trans (r3 2 _ rfl)
      have h3 : wr.cell? ⟨bk, o + k * 4 + 3, none⟩ = some (.slice b3 m3 q3) := (hbw.cell (p := ⟨bk, o + k * 4 + 3, none⟩) hbk).trans (r3 3 _ rfl)
      have hb0 : ∀ o, Below w.heap.size w (wr.alloc o) := fun o => hbw.alloc hsz o
      go_wp2_with (go_at_call 8; refine (line_calls x (hd x hx) (inv_below hi (hb0 _)) (hV.ext (ext_below hi (hb0 _)))).mono ?_)
      rintro e W1 ⟨rfl, b1⟩
      have hb1 : Below w.heap.size w W1 := (hb0 _).trans (b1.mono (by simp; omega))
      have hI1 := isb_below hI ((Below.refl _ wr).alloc (Nat.le_refl _) _ |>.trans (b1.mono (by simp)))
      have hsz1 : w.heap.size ≤ W1.heap.size := hb1.size
      have hsl : (scriptT (l.take k)).length + (if lineT x = [] then [] else lineT x ++ [10]).length ≤ 140737488355328 := by
        have e1 : scriptT l = scriptT (l.take (k + 1)) ++ scriptT (l.drop (k + 1)) := by rw [← scriptT_app, List.take_append_drop]
        have e2 := congrArg List.length e1
        rw [htk, scriptT_app, List.length_append, List.length_append] at e2
        simp only [scriptT, List.append_nil] at e2
        omega
      by_cases hx0 : lineT x = []
      · have he : (!(bstr (lineT x)).toList.isEmpty) = false := by rw [hx0, emp_nil]; rfl
        have HX : Hid (lineT x = []) := hx0
        clear hx0
        go_wp2
        go_roundw
        case rel =>
          refine ⟨k + 1, by omega, by go_num, ?_, hb1⟩
          rw [htk, scriptT_app]
          simpa [scriptT, HX.out] using hI1
        case measure => simp [RowKit.intOf]; omega
      · have he : (!(bstr (lineT x)).toList.isEmpty) = true := by rw [emp_ne hx0]; rfl
        rw [if_neg hx0, List.length_append, List.length_cons, List.length_nil] at hsl
        have hov : ¬ 9223372036854775807 < (bstr (lineT x)).size + 1 := by rw [bs_size]; omega
        go_wp2_with (go_at_call 31; refine (Tryd.Builder_WriteString_k w.heap.size w.heap.size _ _ _ hI1 ?hl1 hsz1).mono ?_)
        case hl1 =>
          rw [Lib.byteCells_length]
          rw [show (bstr (lineT x) ++ { data := #[10] } : ByteArray).size = (lineT x).length + 1 from by rw [show ({ data := #[10] } : ByteArray) = bstr [10] from rfl, bs_app, bs_size, List.length_append]; rfl]
          exact hsl
        rintro e W2 ⟨rfl, h2, b2, k2⟩
        go_wp2
        go_roundw
        case rel =>
          refine ⟨k + 1, by omega, by go_num, ?_, hb1.trans b2⟩
          rw [htk, scriptT_app]
          refine Or.inr ?_
          simpa [scriptT, hx0, Lib.byteCells, Lib.strCells, bstr] using h2
        case measure => simp [RowKit.intOf]; omega
    · have hke : k = n := by omega
      subst hke
      go_wp2_with (go_at_call 32; refine (Tryd.Builder_String_any_k w.heap.size w.heap.size _ _ hI hsz).mono ?_)
      rintro e W1 ⟨rfl, _, b1, _⟩
      go_wp2
      go_ret
      subst hn
      simp only [List.take_length]
      exact ⟨rfl, hbw.trans b1⟩

theorem script_spec (nx tok : Nat) (l : List Act_) (hd : ∀ x ∈ l, x.d.length < 2 ^ 40) (hlen : (scriptT l).length ≤ 140737488355328) (hn2 : l.length < 2 ^ 40) :
    FnSpec Tryd.prog 16 nx [.sl 4 (actsA l) tok] [] (txt (scriptT l)) [] 0 := by
  refine .of_calls (callable Tryd.func16 (by kernel_rfl) (by kernel_rfl)) rfl fun vs g w ha hi => ?_
  obtain ⟨u, rfl, hu⟩ := args_one ha
  rcases V1_sl hu with ⟨hn, base, rfl⟩ | ⟨b, o, c, rfl, hc, hm, _⟩
  · have hl : l.length = 0 := by have := congrArg List.length hn; rw [acts_len] at this; simpa using this
    exact script_walk base 0 0 l g w hi hl (.inl rfl) hd hlen (by omega)
  · have hl := acts_len l
    rw [hl]
    exact script_walk (some ⟨b, o, none⟩) l.length c l g w hi rfl (.inr ⟨b, o, rfl, hm⟩) hd hlen hn2
end Go.Proofs.YtdkcobnhcpgpaaaDoor

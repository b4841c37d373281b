/-
  A slice that a function made and wrote, handed back: from then on it stays what it is.
-/
import Derived.Test.YtdkcobnhcpgpaaaGreatAL22
set_option linter.unusedSimpArgs false
set_option linter.unusedVariables false
namespace Go.AL
open Go

def sealV (n sz : Nat) (L : List AV) (x y : AV) : Prop := x = y ∨ ∃ lo len, x = .aref n 0 [] sz lo len ∧ y = .sl sz ((L.drop lo).take len) 0 ∧ lo + len ≤ L.length
def sealR (n sz : Nat) (L : List AV) : AV → AV → Prop
  | .tup as, .tup bs => as.length = bs.length ∧ ∀ (i : Nat) (x y : AV), as[i]? = some x → bs[i]? = some y → sealV n sz L x y
  | a, b => sealV n sz L a b

theorem seal_ext {g : G} {w : World} {b m : Nat} (h0 : g.imm b = 0) : Ext g w (g.immSet b m) w :=
  ⟨fun _ h => h, fun _ _ => Nat.le_refl _, fun _ _ _ _ => rfl, fun k => by simp only [G.immSet]; split <;> (try subst_vars) <;> omega, fun _ _ _ => rfl⟩

theorem sealV_V0 {g : G} {w : World} {n sz b : Nat} {L : List AV} {arr : Array Value} {T : TypeId} {x : Nat × Nat} {u v : AV} {c : Value} (hs : sealV n sz L u v) (hl : g.loc n 0 = some (b, x)) (hb : w.heap[b]? = some (.cells arr T (0, 0)))
    (hr : R g w (.one (.vec sz L) arr.toList)) (h0 : g.imm b = 0) (hv : V0 g w u c) : V0 (g.immSet b arr.size) w v c := by
  have hx := seal_ext (w := w) (m := arr.size) h0
  rcases hs with rfl | ⟨lo, len, rfl, rfl, hle⟩
  · exact hv.ext hx
  · obtain ⟨b', c', x', rfl, k1, k2, k3⟩ := V1_aref (show V1 g w (.aref n 0 [] sz lo len) c from hv)
    rw [hl] at k2
    obtain ⟨rfl, rfl⟩ := Prod.mk.inj (Option.some.inj k2)
    cases hr with
    | vec hu =>
      have hlen := hu.ulength
      have hm : R (g.immSet b arr.size) w (.mem sz L b 0) := R.mem_of (hu.ext hx) (RowAt.of_heap hb) (by simp [G.immSet])
      have h2 := (hm.mem_drop lo (by omega)).mem_take len
      have h3 : ((L.drop lo).take len).length = len := by rw [List.length_take, List.length_drop]; omega
      have := R.sl (tok := 0) (by rw [h3]; exact k3) h2 trivial
      rw [h3] at this
      exact V0.of_cell this rfl

theorem sealR_V1 {g : G} {w : World} {n sz b : Nat} {L : List AV} {arr : Array Value} {T : TypeId} {x : Nat × Nat} {u v : AV} {c : Value} (hs : sealR n sz L u v) (hl : g.loc n 0 = some (b, x)) (hb : w.heap[b]? = some (.cells arr T (0, 0)))
    (hr : R g w (.one (.vec sz L) arr.toList)) (h0 : g.imm b = 0) (hv : V1 g w u c) : V1 (g.immSet b arr.size) w v c := by
  have hx := seal_ext (w := w) (m := arr.size) h0
  unfold sealR at hs
  split at hs
  · rename_i as bs
    obtain ⟨h1, h2⟩ := hs
    obtain ⟨ws, rfl, h3, h4⟩ := hv
    refine ⟨ws, rfl, h1 ▸ h3, fun i y z hy hz => ?_⟩
    have hi : i < as.length := by
      rw [h1]
      by_cases hc : i < bs.length
      · exact hc
      · rw [List.getElem?_eq_none (by omega)] at hy; cases hy
    have hxi := List.getElem?_eq_getElem hi
    have hsv := h2 i _ _ hxi hy
    rcases h4 i _ z hxi hz with q | q
    · rcases hsv with e | ⟨lo, len, e, _⟩
      · exact .inl (e ▸ q)
      · rw [q] at e; cases e
    · exact .inr (sealV_V0 hsv hl hb hr h0 q)
  · rcases hs with rfl | ⟨lo, len, rfl, rfl, hle⟩
    · exact hv.ext hx
    · exact sealV_V0 (.inr ⟨lo, len, rfl, rfl, hle⟩) hl hb hr h0 hv

/-- **What a function made, wrote and hands back stays what it is.** -/
theorem FnSpec.stay {P : Program} {f nx k n sz : Nat} {L : List AV} {args : List AV} {av av' : AV} {wr : Heap} (h : FnSpec P f nx args [] av wr k) (hn : wr.get n = some (.obj (.vec sz L))) (hw : ∀ m ∈ keys wr, nx ≤ m)
    (ha : sealR n sz L av av') (hnb : av'.nb nx) : FnSpec P f nx args [] av' [] 0 := by
  refine ⟨h.1, fun vs g w hargs hi hH hf => ?_⟩
  refine (h.2 vs g w hargs hi hH hf).mono ?_
  rintro e w' ⟨v, g', rfl, hv, hp⟩
  have hmem : n ∈ keys wr := Classical.byContradiction fun hc => by rw [Heap.get_none wr n hc] at hn; cases hn
  obtain ⟨q1, q2⟩ := hp.res n _ hn hmem
  obtain ⟨hu, b, x, arr, T, hl, hb, hr, h0⟩ := q1
  have hbn : w.heap.size ≤ b := by
    rcases q2 b (by simp [blkOf, hl]) with ⟨m, s, _, c2, _⟩ | c
    · simp [Heap.get] at c2
    · exact c
  have hlt : ∀ m, g.use m → m < nx := fun m hm => by
    by_cases hc : m < nx
    · exact hc
    · exact absurd hm (hf m (by omega))
  have hbw : b < w'.heap.size := by
    rcases Nat.lt_or_ge b w'.heap.size with h' | h'
    · exact h'
    · rw [Array.getElem?_eq_none h'] at hb; cases hb
  have hd := hp.delta
  have hnoD : ∀ b', ¬ Blks g ([] : Heap) (keys wr) b' := by rintro b' ⟨m, s, _, c2, _⟩; simp [Heap.get] at c2
  refine ⟨v, (g'.immSet b arr.size).cut nx, rfl, (sealR_V1 ha hl hb hr h0 hv).cut hnb, ⟨?_, fun m r hr hm => by simp [keys] at hm, fun m m' r r' b' hm => by simp [keys] at hm⟩⟩
  refine ⟨⟨fun m hm => ⟨hd.ext.use m hm, hlt m hm⟩, hd.ext.bd, hd.ext.loc, fun b' => ?_, hd.ext.cell⟩, hd.os, hd.tape, hd.output, hd.size, fun b' hb' _ => ?_, fun m hm => ?_, fun m hm _ => ?_, fun hi' b' hb' => ?_⟩
  · have := hd.ext.imm b'
    simp only [G.cut, G.immSet]
    split
    · rename_i e; subst e; omega
    · exact this
  · obtain ⟨e1, e2⟩ := hd.keep b' hb' (hnoD b')
    refine ⟨e1, ?_⟩
    simp only [G.cut, G.immSet]
    rw [if_neg (by omega)]
    exact e2
  · obtain ⟨m1, m2⟩ := hm
    rcases hd.names m m1 with c | c
    · exact .inl c
    · simp at c; omega
  · exact hd.bdk m hm (fun hc => by have := hw m hc; have := hlt m hm; omega)
  · have := hd.inv hi' b' hb'
    simp only [G.cut, G.immSet]
    rw [if_neg (by omega)]
    exact this
end Go.AL

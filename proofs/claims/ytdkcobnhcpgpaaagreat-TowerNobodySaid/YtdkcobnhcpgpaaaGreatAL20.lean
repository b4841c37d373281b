/-
  To forget of a contract what lies behind a result.
-/
import Derived.Test.YtdkcobnhcpgpaaaGreatAL19
set_option linter.unusedSimpArgs false
set_option linter.unusedVariables false
namespace Go.AL
open Go

/-- Results that say less: at the top of a value, and in the parts of a tuple. -/
def subR : AV → AV → Prop
  | .tup as, .tup bs => as.length = bs.length ∧ ∀ (i : Nat) (x y : AV), as[i]? = some x → bs[i]? = some y → x = y ∨ (y.good = true ∧ subA x y)
  | a, b => subA a b

theorem subA_good {x y : AV} (h : subA x y) (hy : y.good = true) : x.good = true := by
  unfold subA at h
  split at h
  · rfl
  · cases hy
  · rw [h]; exact hy
theorem subR_V1 {g : G} {w : World} {a b : AV} {v : Value} (h : subR a b) (hv : V1 g w a v) : V1 g w b v := by
  unfold subR at h
  split at h
  · rename_i as bs
    obtain ⟨h1, h2⟩ := h
    obtain ⟨ws, rfl, h3, h4⟩ := hv
    refine ⟨ws, rfl, h1 ▸ h3, fun i y z hy hz => ?_⟩
    have hi : i < as.length := by
      rw [h1]
      by_cases hc : i < bs.length
      · exact hc
      · rw [List.getElem?_eq_none (by omega)] at hy; cases hy
    have hx := List.getElem?_eq_getElem hi
    rcases h2 i _ _ hx hy with e | ⟨e1, e2⟩
    · exact h4 i y z (e ▸ hx) hz
    · have hxg := subA_good e2 e1
      rcases h4 i _ z hx hz with q | q
      · rw [q] at hxg; cases hxg
      · exact .inr ((subA_V1 e2 (.of_V0 q)).toV0 e1)
  · exact subA_V1 h hv

/-- **A contract that tells less of its result, and nothing of new names.** -/
theorem FnSpec.forget {P : Program} {f nx k : Nat} {args : List AV} {Hc : Heap} {av av' : AV} {wr wr' : Heap} (h : FnSpec P f nx args Hc av wr k) (ha : subR av av') (hnb : av'.nb nx) (hl : nbL nx wr')
    (h1 : ∀ n ∈ keys wr', n ∈ keys wr ∧ wr'.get n = wr.get n ∧ (wr'.get n).isSome = true) (h2 : ∀ n ∈ keys wr, n ∉ keys wr' → Hc.get n = none ∧ nx ≤ n) : FnSpec P f nx args Hc av' wr' 0 := by
  refine ⟨h.1, fun vs g w hargs hi hH hf => ?_⟩
  refine (h.2 vs g w hargs hi hH hf).mono ?_
  rintro e w' ⟨v, g', rfl, hv, hp⟩
  have hlt : ∀ n, g.use n → n < nx := fun n hn => by
    by_cases hc : n < nx
    · exact hc
    · exact absurd hn (hf n (by omega))
  have hd := (hp.delta.cut (m := nx) hlt).mono (D' := Blks g Hc (keys wr')) (T' := (· ∈ keys wr')) (N' := (· ∈ ([] : List Nat)))
    (fun b _ ⟨n, r, c1, c2, c3⟩ => ⟨n, r, (Classical.byContradiction fun hc => by rw [(h2 n c1 hc).1] at c2; cases c2), c2, c3⟩)
    (fun n hn hm => by
      by_cases hc : n ∈ keys wr'
      · exact hc
      · have := (h2 n hm hc).2; have := hlt n hn; omega)
    (fun n hn => by
      obtain ⟨c1, c2⟩ := hn
      simp at c1
      omega)
  refine ⟨v, g'.cut nx, rfl, (subR_V1 ha hv).cut hnb, ⟨hd, fun n r hr hn => ?_, fun n n' r r' b hn hn' hr hr' hb hb' => ?_⟩⟩
  · obtain ⟨c1, c2, _⟩ := h1 n hn
    obtain ⟨q1, q2⟩ := hp.res n r (c2 ▸ hr) c1
    obtain ⟨k1, k2⟩ := nbL_get hl hr
    refine ⟨q1.cut k1 k2, fun b hb => ?_⟩
    rw [blkOf_cut] at hb
    rcases q2 b hb with ⟨n', s, c3, c4, c5⟩ | c
    · exact .inl ⟨n', s, (Classical.byContradiction fun hc => by rw [(h2 n' c3 hc).1] at c4; cases c4), c4, c5⟩
    · exact .inr c
  · obtain ⟨c1, c2, _⟩ := h1 n hn
    obtain ⟨c1', c2', _⟩ := h1 n' hn'
    rw [blkOf_cut] at hb hb'
    exact hp.disj n n' r r' b c1 c1' (c2 ▸ hr) (c2' ▸ hr') hb hb'

/-- .. where nothing was lent. -/
theorem FnSpec.forget0 {P : Program} {f nx k : Nat} {args : List AV} {av av' : AV} {wr : Heap} (h : FnSpec P f nx args [] av wr k) (ha : subR av av') (hnb : av'.nb nx) (hw : ∀ n ∈ keys wr, nx ≤ n) : FnSpec P f nx args [] av' [] 0 :=
  h.forget ha hnb trivial (fun n hn => by simp [keys] at hn) (fun n hn _ => ⟨rfl, hw n hn⟩)
end Go.AL

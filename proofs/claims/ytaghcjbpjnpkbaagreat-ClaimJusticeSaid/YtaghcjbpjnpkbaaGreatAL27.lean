/-
  Contracts told otherwise: an object that says less, a tail that grows to where a full slice ends.
-/
import Derived.Test.YtaghcjbpjnpkbaaGreatAL26
set_option linter.unusedSimpArgs false
set_option linter.unusedVariables false
namespace Go.AL
open Go

theorem FnSpec.wrle {P : Program} {f nx k n : Nat} {args : List AV} {Hc wr : Heap} {av a a' : AV} (h : FnSpec P f nx args Hc av ((n, some (.obj a)) :: wr) k) (hs : a.le a') : FnSpec P f nx args Hc av ((n, some (.obj a')) :: wr) k := by
  refine ⟨h.1, fun vs g w hargs hi hH hf => (h.2 vs g w hargs hi hH hf).mono ?_⟩
  rintro e w' ⟨v, g', rfl, hv, hp⟩
  have back : ∀ m r, Heap.get ((n, some (.obj a')) :: wr) m = some r → ∃ r0, Heap.get ((n, some (.obj a)) :: wr) m = some r0 ∧ (∀ g, blkOf g m r = blkOf g m r0) ∧ ∀ g w, resOK g w m r0 → resOK g w m r := by
    intro m r hr
    simp only [Heap.get] at hr ⊢
    by_cases hm : n = m
    · rw [if_pos hm] at hr ⊢
      injection hr with hr; subst hr
      refine ⟨_, rfl, fun _ => rfl, fun g w ⟨c0, b, x, arr, T, c1, c2, c3, c4⟩ => ⟨c0, b, x, arr, T, c1, c2, AV.le_R a hs _ c3, c4⟩⟩
    · rw [if_neg hm] at hr ⊢
      exact ⟨r, hr, fun _ => rfl, fun _ _ h => h⟩
  refine ⟨v, g', rfl, hv, ⟨hp.delta, fun m r hr hm => ?_, fun m m' r r' b hm hm' hr hr' hb hb' => ?_⟩⟩
  · obtain ⟨r0, c1, c2, c3⟩ := back m r hr
    obtain ⟨q1, q2⟩ := hp.res m r0 c1 hm
    exact ⟨c3 _ _ q1, fun b hb => q2 b (by rw [← c2]; exact hb)⟩
  · obtain ⟨r0, c1, c2, _⟩ := back m r hr
    obtain ⟨r1, d1, d2, _⟩ := back m' r' hr'
    exact hp.disj m m' r0 r1 b hm hm' c1 d1 (by rw [← c2]; exact hb) (by rw [← d2]; exact hb')

theorem FnSpec.bump {P : Program} {f nx k q e e' : Nat} {args : List AV} {Hc wr : Heap} {av : AV} (h : FnSpec P f nx args Hc av wr k) (hq : Hc.get q = some (.tail e)) (hn : q ∉ keys wr) (hlt : e < e') : FnSpec P f nx args Hc av ((q, some (.tail e')) :: wr) k := by
  refine ⟨h.1, fun vs g w hargs hi hH hf => (h.2 vs g w hargs hi hH hf).mono ?_⟩
  rintro x w' ⟨v, g', rfl, hv, hp⟩
  obtain ⟨u1, u2, _⟩ := hH.ok q _ hq
  have u3 : g'.bd q = e := (hp.delta.bdk q u1 hn).trans u2
  have u4 : g'.use q := hp.delta.ext.use q u1
  let g2 : G := { g' with bd := fun m => if m = q then e' else g'.bd m, loc := fun m d => if m = q ∧ d = e' then none else g'.loc m d }
  have hd : Delta g' w' g2 w' (fun _ => False) (· = q) (fun _ => False) := by
    refine ⟨⟨fun _ h => h, fun m hm => ?_, fun m hm d hd => ?_, fun _ => Nat.le_refl _, fun _ _ _ => rfl⟩, rfl, rfl, rfl, Nat.le_refl _, fun _ _ _ => ⟨rfl, rfl⟩, fun _ h => .inl h, fun m hm hne => ?_, fun h => h⟩
    · show g'.bd m ≤ if m = q then e' else g'.bd m
      split
      · rename_i h; subst h; omega
      · exact Nat.le_refl _
    · show (if m = q ∧ d = e' then none else g'.loc m d) = g'.loc m d
      rw [if_neg]
      rintro ⟨rfl, rfl⟩
      omega
    · show (if m = q then e' else g'.bd m) = g'.bd m
      rw [if_neg hne]
  refine ⟨v, g2, rfl, hv.ext hd.ext, ⟨(hp.delta.trans hd).mono (fun b hb c => ?_) (fun m _ c => ?_) (fun m c => ?_), fun m r hr hm => ?_, fun m m' r r' b hm hm' hr hr' hb hb' => ?_⟩⟩
  · rcases c with ⟨m, r, c1, c2, c3⟩ | c
    · exact ⟨m, r, by simp only [keys, List.map_cons, List.mem_cons]; exact .inr c1, c2, c3⟩
    · exact c.elim
  · rcases c with c | c
    · simp only [keys, List.map_cons, List.mem_cons]; exact .inr c
    · simp only [keys, List.map_cons, List.mem_cons]; exact .inl c
  · rcases c with c | c
    · exact c
    · exact c.elim
  · by_cases hmq : q = m
    · subst hmq
      simp only [Heap.get, if_true, Option.some.injEq] at hr
      subst hr
      refine ⟨⟨u4, by simp [g2], fun b endc capc hl => by simp [g2] at hl⟩, fun b hb => by simp [blkOf, g2] at hb⟩
    · simp only [Heap.get, if_neg hmq] at hr
      have hm2 : m ∈ keys wr := by
        simp only [keys, List.map_cons, List.mem_cons] at hm
        exact hm.resolve_left (fun h => hmq h.symm)
      obtain ⟨c1, c2⟩ := hp.res m r hr hm2
      obtain ⟨d1, d2⟩ := c1.frame hd (fun h => hmq h.symm) (fun _ _ h => h)
      refine ⟨d1, fun b hb => ?_⟩
      rcases c2 b (d2 ▸ hb) with ⟨m', r', c3, c4, c5⟩ | c
      · exact .inl ⟨m', r', by simp only [keys, List.map_cons, List.mem_cons]; exact .inr c3, c4, c5⟩
      · exact .inr c
  · have none_q : ∀ r b, Heap.get ((q, some (.tail e')) :: wr) q = some r → blkOf g2 q r = some b → False := by
      intro r b hr hb
      simp only [Heap.get, if_true, Option.some.injEq] at hr
      subst hr
      simp [blkOf, g2] at hb
    by_cases h1 : q = m
    · subst h1; exact (none_q r b hr hb).elim
    · by_cases h2 : q = m'
      · subst h2; exact (none_q r' b hr' hb').elim
      · have in1 : m ∈ keys wr := by
          simp only [keys, List.map_cons, List.mem_cons] at hm
          exact hm.resolve_left (fun h => h1 h.symm)
        have in2 : m' ∈ keys wr := by
          simp only [keys, List.map_cons, List.mem_cons] at hm'
          exact hm'.resolve_left (fun h => h2 h.symm)
        simp only [Heap.get, if_neg h1] at hr
        simp only [Heap.get, if_neg h2] at hr'
        obtain ⟨c1, _⟩ := hp.res m r hr in1
        obtain ⟨c2, _⟩ := hp.res m' r' hr' in2
        obtain ⟨_, d1⟩ := c1.frame hd (fun h => h1 h.symm) (fun _ _ h => h)
        obtain ⟨_, d2⟩ := c2.frame hd (fun h => h2 h.symm) (fun _ _ h => h)
        exact hp.disj m m' r r' b in1 in2 hr hr' (d1 ▸ hb) (d2 ▸ hb')

theorem FnSpec.perm {P : Program} {f nx k : Nat} {args : List AV} {Hc wr wr' : Heap} {av : AV} (h : FnSpec P f nx args Hc av wr k) (h1 : ∀ n, Heap.get wr' n = Heap.get wr n) (h2 : ∀ n, n ∈ keys wr ↔ n ∈ keys wr') : FnSpec P f nx args Hc av wr' k := by
  refine ⟨h.1, fun vs g w hargs hi hH hf => (h.2 vs g w hargs hi hH hf).mono ?_⟩
  rintro e w' ⟨v, g', rfl, hv, hp⟩
  refine ⟨v, g', rfl, hv, ⟨hp.delta.mono (fun b _ ⟨n, r, c1, c2, c3⟩ => ⟨n, r, (h2 n).1 c1, c2, c3⟩) (fun n _ c => (h2 n).1 c) (fun _ c => c), fun n r hr hn => ?_, fun n n' r r' b hn hn' hr hr' hb hb' => ?_⟩⟩
  · obtain ⟨q1, q2⟩ := hp.res n r (by rw [← h1]; exact hr) ((h2 n).2 hn)
    refine ⟨q1, fun b hb => ?_⟩
    rcases q2 b hb with ⟨m, s, c1, c2, c3⟩ | c
    · exact .inl ⟨m, s, (h2 m).1 c1, c2, c3⟩
    · exact .inr c
  · exact hp.disj n n' r r' b ((h2 n).2 hn) ((h2 n').2 hn') (by rw [← h1]; exact hr) (by rw [← h1]; exact hr') hb hb'

theorem FnSpec.frame {P : Program} {f nx k : Nat} {args : List AV} {Hc Hb wr : Heap} {av : AV} (h : FnSpec P f nx args Hc av wr k) (hs : ∀ n r, Hc.get n = some r → Hb.get n = some r) : FnSpec P f nx args Hb av wr k := by
  refine ⟨h.1, fun vs g w hargs hi hH hf => (h.2 vs g w hargs hi ⟨fun n r hr => hH.ok n r (hs n r hr), fun n n' r r' b hr hr' hb hb' => hH.disj n n' r r' b (hs n r hr) (hs n' r' hr') hb hb'⟩ hf).mono ?_⟩
  rintro e w' ⟨v, g', rfl, hv, hp⟩
  have hb : ∀ b, Blks g Hc (keys wr) b → Blks g Hb (keys wr) b := fun b ⟨n, r, c1, c2, c3⟩ => ⟨n, r, c1, hs n r c2, c3⟩
  exact ⟨v, g', rfl, hv, ⟨hp.delta.mono (fun b _ c => hb b c) (fun n _ c => c) (fun _ c => c), fun n r hr hn => ⟨(hp.res n r hr hn).1, fun b hb' => ((hp.res n r hr hn).2 b hb').imp (hb b) id⟩, hp.disj⟩⟩
end Go.AL

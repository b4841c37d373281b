/-
  An empty slice that comes out full, told as one that may be appended to.
-/
import Derived.Test.YtaghcjbpjnpkbaaGreatAL25
set_option linter.unusedSimpArgs false
set_option linter.unusedVariables false
namespace Go.AL
open Go

theorem FnSpec.tail0 {P : Program} {f nx s s' : Nat} {args : List AV} (h : FnSpec P f nx args [] (.sl s [] 1) [] 0) (j k : Nat) (hj : j < k) :
    FnSpec P f nx args [] (.sl s' [] (nx + j + 2)) [(nx + j, some (.tail 0))] k := by
  refine ⟨h.1, fun vs g w hargs hi hH hf => ?_⟩
  refine (h.2 vs g w hargs hi hH hf).mono ?_
  rintro e w' ⟨v, g', rfl, hv, hp⟩
  have hun : ¬ g'.use (nx + j) := fun hu => by
    rcases hp.delta.names _ hu with q | q
    · exact hf _ (by omega) q
    · simp at q
  have hd := Delta.name (w := w') hun (fun _ => none) 0 (Blks g [] (keys [(nx + j, some (Res.tail 0))])) (· ∈ keys [(nx + j, some (Res.tail 0))]) (· ∈ ((List.range k).map (nx + ·))) (by simpa using hj)
  refine ⟨v, _, rfl, ?_, ⟨(hp.delta.trans hd).mono (fun b _ q => ?_) (fun n _ q => ?_) (fun n q => ?_), fun n r hr hn => ?_, fun n n' r r' b hn hn' _ _ _ _ => ?_⟩⟩
  · rcases V1_sl hv with ⟨_, base, rfl⟩ | ⟨b, o, c, rfl, q1, q2, q3⟩
    · exact .of_V0 (V0.of_cell .slNil rfl)
    · exact .of_V0 (V0.of_cell (.sl q1 .memNil (.inl q3)) rfl)
  · rcases q with q | q
    · obtain ⟨n, r, c1, _⟩ := q
      simp [keys] at c1
    · exact q
  · rcases q with q | q
    · simp [keys] at q
    · exact q
  · rcases q with q | q
    · simp at q
    · exact q
  · simp [keys] at hn; subst hn
    simp [Heap.get] at hr; subst hr
    exact ⟨⟨.inl rfl, by simp [G.newName], fun b e' c' hb => by simp [G.newName] at hb⟩, fun b hb => by simp [blkOf, G.newName] at hb⟩
  · simp [keys] at hn hn'; omega
theorem FnSpec.empty1 {P : Program} {f nx k sz : Nat} {as : List AV} {Hc wr : Heap} {av : AV} (h1 : ∀ b, FnSpec P f nx (.val (.slice b 0 0) :: as) Hc av wr k) : FnSpec P f nx (.sl sz [] 1 :: as) Hc av wr k := by
  refine ⟨(h1 none).1, fun vs g w hargs hi hH hf => ?_⟩
  obtain ⟨hl, hv⟩ := hargs
  match hvs : vs.toList, hl with
  | v :: rest, hl =>
    rw [hvs] at hv
    have h0 := hv 0 _ v rfl rfl
    have key : ∀ b, v = .slice b 0 0 → Calls P f vs w fun e w' => ∃ v g', e = .returned v ∧ V1 g' w' av v ∧ StepPost g w Hc wr ((List.range k).map (nx + ·)) g' w' := by
      intro b e
      subst e
      refine (h1 b).2 vs g w ⟨by rw [hvs]; exact hl, fun i x y hx hy => ?_⟩ hi hH hf
      rw [hvs] at hy
      cases i with
      | zero => simp at hx hy; subst hx hy; exact V1_mk rfl
      | succ i => exact hv (i + 1) x y (by simpa using hx) (by simpa using hy)
    rcases V1_sl h0 with ⟨_, base, e⟩ | ⟨b, o, c, e, _, _, q⟩
    · exact key _ e
    · have q : c = 0 := q
      subst q
      exact key _ e
end Go.AL

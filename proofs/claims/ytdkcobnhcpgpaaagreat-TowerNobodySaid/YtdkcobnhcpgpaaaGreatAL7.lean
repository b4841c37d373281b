/-
  The layer AL, part 7: one operation of a region, as it comes up; contracts of functions.
-/
import Derived.Test.YtdkcobnhcpgpaaaGreatAL6
set_option linter.unusedSimpArgs false
set_option linter.unusedVariables false
namespace Go.AL
open Go

def EnvAt (g : G) (w : World) (env : Env) (tmps : Array Value) (t : Nat) : Prop := env.get t = .undef ∨ ∃ v, tmps[t]? = some v ∧ V1 g w (env.get t) v

theorem EnvAt.eval {g : G} {w : World} {env : Env} {a : Act} {t : Nat} (h : EnvAt g w env a.tmps t) : V1 g w (env.get t) (a.eval (.tmp t)) := by
  rcases h with h | ⟨v, h1, h2⟩
  · rw [h]; trivial
  · simpa [Act.eval, h1] using h2

theorem EnvAt.ext {g g' : G} {w w' : World} {env : Env} {tmps : Array Value} {t : Nat} (hx : Ext g w g' w') (h : EnvAt g w env tmps t) : EnvAt g' w' env tmps t :=
  h.imp id fun ⟨v, h1, h2⟩ => ⟨v, h1, h2.ext hx⟩

theorem evA_ok {g : G} {w : World} {env : Env} {a : Act} (x : Operand) (h : ∀ t, x = .tmp t → EnvAt g w env a.tmps t) : V1 g w (evA env x) (a.eval x) := by
  cases x with
  | tmp t => exact (h t rfl).eval
  | const v => exact V1_const g w v
  | global n => trivial
  | func f => exact V0.of_cell (.clos (cs := []) .useqNil (by simp)) rfl

structure HeapOn (g : G) (w : World) (H : Heap) (S : Nat → Prop) : Prop where
  ok : ∀ n, S n → ∀ r, H.get n = some r → resOK g w n r
  disj : ∀ n n' r r' b, S n → S n' → H.get n = some r → H.get n' = some r' → blkOf g n r = some b → blkOf g n' r' = some b → n = n'

theorem HeapOK.on {g : G} {w : World} {H : Heap} (h : HeapOK g w H) (S : Nat → Prop) : HeapOn g w H S :=
  ⟨fun n _ r hr => h.ok n r hr, fun n n' r r' b _ _ => h.disj n n' r r' b⟩

/-- Operation number i, where the temporaries that it looks at are as told: it puts what is told, and leaves what is told. -/
def StepSem (P : Program) (ops : Array Oper) (i : Nat) (o : Oper) (env : Env) (H : Heap) (av : AV) (rd : List Nat) (wr : Heap) (nw : List Nat) (FR : Nat → Prop) : Prop :=
  ∀ (Q : Exit → Act → World → Prop) (a : Act) (g : G) (w : World) (Kc : Act → World → Prop), (∀ t ∈ o.looksAt ops, EnvAt g w env a.tmps t) → Inv g w → HeapOn g w H (fun n => n ∈ rd ∨ n ∈ keys wr) → (∀ n, FR n → ¬ g.use n) →
    (∀ v g' w', V1 g' w' av v → StepPost g w H wr nw g' w' → Kc (a.put o.dst v) w') → wpOp P ops Q i Kc a w

def Wants (ops : Array Oper) (env : Env) (o : Oper) : Prop :=
  ∀ j want, o.guard = some (j, want) → ∃ t, (ops[j]?).bind (·.dst) = some t ∧ env.get t = .val (.bool want)
def Not (ops : Array Oper) (env : Env) (o : Oper) : Prop :=
  ∃ j want t, o.guard = some (j, want) ∧ (ops[j]?).bind (·.dst) = some t ∧ (env.get t = .val (.bool (!want)) ∨ env.get t = .tup [])

theorem mem_looks_guard {ops : Array Oper} {o : Oper} {j : Nat} {want : Bool} {t : Nat} (hg : o.guard = some (j, want)) (ht : (ops[j]?).bind (·.dst) = some t) : t ∈ o.looksAt ops := by
  simp [Oper.looksAt, hg, ht]
theorem mem_looks_operand {ops : Array Oper} {o : Oper} {t : Nat} (h : Operand.tmp t ∈ o.op.operands) : t ∈ o.looksAt ops := by
  refine List.mem_append_left _ (List.mem_filterMap.2 ⟨.tmp t, by simpa using h, rfl⟩)

theorem wants_true {ops : Array Oper} {env : Env} {o : Oper} {a : Act} {g : G} {w : World} (h : Wants ops env o) (he : ∀ t ∈ o.looksAt ops, EnvAt g w env a.tmps t) : Region.wanted o (yielded ops a.tmps) = true := by
  unfold Region.wanted
  cases hg : o.guard with
  | none => rfl
  | some jw =>
    obtain ⟨j, want⟩ := jw
    obtain ⟨t, h1, h2⟩ := h j want hg
    have h3 := he t (mem_looks_guard hg h1)
    rcases h3 with h3 | ⟨v, h3, h4⟩
    · rw [h2] at h3; cases h3
    · rw [h2] at h4
      obtain ⟨rfl, _⟩ := V1_val h4
      simp [yielded, h1, h3]

theorem wants_false {ops : Array Oper} {env : Env} {o : Oper} {a : Act} {g : G} {w : World} (h : Not ops env o) (he : ∀ t ∈ o.looksAt ops, EnvAt g w env a.tmps t) : Region.wanted o (yielded ops a.tmps) = false := by
  obtain ⟨j, want, t, hg, h1, h2⟩ := h
  have h3 := he t (mem_looks_guard hg h1)
  unfold Region.wanted
  rw [hg]
  rcases h3 with h3 | ⟨v, h3, h4⟩
  · rcases h2 with h2 | h2 <;> (rw [h2] at h3; cases h3)
  · rcases h2 with h2 | h2
    · rw [h2] at h4
      obtain ⟨rfl, _⟩ := V1_val h4
      simp [yielded, h1, h3]
    · rw [h2] at h4
      obtain ⟨ws, rfl, _⟩ := h4
      simp [yielded, h1, h3]

theorem StepSem.prim {P : Program} {ops : Array Oper} {i : Nat} {o : Oper} {env : Env} {H : Heap} {out : Out} (hi : ops[i]? = some o) (hw : Wants ops env o) (h : OpOK P o env H out) (hv : out.vc) {FR : Nat → Prop} (hF : ∀ n ∈ out.nw, FR n) :
    StepSem P ops i o env H out.av out.rd out.wr out.nw FR := by
  intro Q a g w Kc he hinv hH hfr hK
  obtain ⟨g', w', v, hrun, h1, h2⟩ := h a.eval g w (fun _ => rfl) (fun x hx => evA_ok x fun t ht => he t (mem_looks_operand (ht ▸ hx))) hinv (fun n hn r hr => hH.ok n hn r hr) (fun n hn => hfr n (hF n hn)) hv
  unfold wpOp
  simp only [hi, wants_true hw he, if_true]
  refine .inl ?_
  unfold Oper.wp
  rcases hrun with hrun | ⟨hrun, rfl⟩
  · rw [hrun]; exact hK v g' w' h1 h2
  · rw [hrun]; exact hK _ g' w' h1 h2

theorem StepSem.skip {P : Program} {ops : Array Oper} {i : Nat} {o : Oper} {env : Env} {H : Heap} (hi : ops[i]? = some o) (hw : Not ops env o) {FR : Nat → Prop} {rd : List Nat} : StepSem P ops i o env H (.tup []) rd [] [] FR := by
  intro Q a g w Kc he hinv hH hfr hK
  unfold wpOp
  simp only [hi, wants_false hw he]
  refine hK Go.undef g w ⟨#[], rfl, by simp, fun i x y hx => by simp at hx⟩ (StepPost.same g w H [])

/-! ### contracts -/
def ArgsOK (g : G) (w : World) (args : List AV) (vs : List Value) : Prop := args.length = vs.length ∧ ∀ (i : Nat) (x : AV) (y : Value), args[i]? = some x → vs[i]? = some y → V1 g w x y

def Callable (P : Program) (f : Nat) : Prop := ∃ fn, P.funcs[f]? = some fn ∧ (fn.name == "runtime.NumGoroutine") = false ∧ fn.body.isNone = false

/-- **The contract of a function.** -/
def FnSpec (P : Program) (f nx : Nat) (args : List AV) (Hc : Heap) (av : AV) (wr : Heap) (k : Nat) : Prop :=
  Callable P f ∧ ∀ (vs : Array Value) (g : G) (w : World), ArgsOK g w args vs.toList → Inv g w → HeapOK g w Hc → (∀ n, nx ≤ n → ¬ g.use n) →
    Calls P f vs w fun e w' => ∃ v g', e = .returned v ∧ V1 g' w' av v ∧ StepPost g w Hc wr ((List.range k).map (nx + ·)) g' w'

/-- A part of a heap, lent. -/
def SubH : Heap → Heap → Prop
  | [], _ => True
  | (n, r) :: t, H => (match r with
      | some (.robj a) => Res.obj? (H.get n) = some a
      | some r => H.get n = some r
      | none => False) ∧ SubH t H

theorem SubH.get {H : Heap} : ∀ {Hc : Heap} {n : Nat} {r : Res}, SubH Hc H → Hc.get n = some r → H.get n = some r ∨ ∃ a, r = .robj a ∧ Res.obj? (H.get n) = some a
  | [], n, r, _, h => by simp [Heap.get] at h
  | (k, s) :: t, n, r, hs, h => by
    obtain ⟨h1, h2⟩ := hs
    simp only [Heap.get] at h
    by_cases hk : k = n
    · rw [if_pos hk] at h
      subst hk h
      cases r with
      | robj a => exact .inr ⟨a, rfl, h1⟩
      | _ => exact .inl h1
    · rw [if_neg hk] at h
      exact SubH.get h2 h

theorem SubH.res {H : Heap} {Hc : Heap} {n : Nat} {r : Res} (hs : SubH Hc H) (h : Hc.get n = some r) : ∃ r', H.get n = some r' ∧ (∀ g, blkOf g n r' = blkOf g n r) ∧ ∀ g w, resOK g w n r' → resOK g w n r := by
  rcases hs.get h with h1 | ⟨a, rfl, h1⟩
  · exact ⟨r, h1, fun _ => rfl, fun _ _ h => h⟩
  · cases hr : H.get n with
    | none => simp [hr, Res.obj?] at h1
    | some r =>
      cases r <;> simp [hr, Res.obj?] at h1 <;> subst h1 <;> exact ⟨_, rfl, fun _ => rfl, fun _ _ h => h⟩

theorem get_some_key {H : Heap} {n : Nat} {r : Res} (h : H.get n = some r) : n ∈ keys H := by
  rcases Classical.em (n ∈ keys H) with h1 | h1
  · exact h1
  · rw [Heap.get_none H n h1] at h; cases h

theorem StepSem.call {P : Program} {ops : Array Oper} {i : Nat} {o : Oper} {env : Env} {H : Heap} {x : Operand} {xs : Array Operand} {ts : Array TypeId} {f nx k : Nat} {caps : List AV} {Hc wr : Heap} {av : AV} (hi : ops[i]? = some o) (hw : Wants ops env o)
    (ho : o.op = .call ⟨.value x, xs, ts⟩) (hx : evA env x = .clos f caps) (h : FnSpec P f nx (xs.toList.map (evA env) ++ caps) Hc av wr k) (hs : SubH Hc H) {rd : List Nat} (hrd : ∀ n ∈ keys Hc, n ∈ rd) (hwk : ∀ n ∈ keys wr, n ∈ rd ∨ nx ≤ n) :
    StepSem P ops i o env H av rd wr ((List.range k).map (nx + ·)) (fun n => nx ≤ n) := by
  intro Q a g w Kc he hinv hH hfr hK
  obtain ⟨⟨fn, hf1, hf2, hf3⟩, hcall⟩ := h
  have hop : ∀ y ∈ o.op.operands, V1 g w (evA env y) (a.eval y) := fun y hy => evA_ok y fun t ht => he t (mem_looks_operand (ht ▸ hy))
  have h1 := hop x (by simp [Op.operands, ho, Call.operands])
  rw [hx] at h1
  obtain ⟨cs, hv, hcs, hag⟩ := V1_clos h1
  have hexec : (execOp a.eval o).run P w = .ok (.enter f (xs.map a.eval ++ cs.toArray)) w := by
    have e1 : (callFunc f (xs.map a.eval ++ cs.toArray)).run P w = .ok (.enter f (xs.map a.eval ++ cs.toArray)) w := by
      unfold callFunc
      simp only [Sem.run_bind, run_program, Result.andThen_ok, hf1]
      simp [hf2, hf3] at *
    simp [execOp, ho, resolve, Deferred.ofValue, hv, invoke, e1]
  have hargs : ArgsOK g w (xs.toList.map (evA env) ++ caps) (xs.map a.eval ++ cs.toArray).toList := by
    have hl : cs.length = caps.length := by have := hcs.ulength; omega
    refine ⟨by simp [hl], fun j y z hy hz => ?_⟩
    simp only [Array.toList_append, Array.toList_map] at hz
    rcases Nat.lt_or_ge j xs.toList.length with hj | hj
    · rw [List.getElem?_append_left (by simpa using hj), List.getElem?_map, List.getElem?_eq_getElem hj] at hy hz
      simp only [Option.map_some, Option.some.injEq] at hy hz
      subst hy hz
      exact hop _ (by
        have : xs.toList[j] ∈ xs := Array.mem_toList_iff.1 (List.getElem_mem hj)
        simp [Op.operands, ho, Call.operands, this])
    · rw [List.getElem?_append_right (by simpa using hj)] at hy hz
      simp only [List.length_map] at hy hz
      generalize j - xs.toList.length = m at hy hz
      have hm : m < caps.length := by
        rcases Nat.lt_or_ge m caps.length with h | h
        · exact h
        · rw [List.getElem?_eq_none h] at hy; cases hy
      obtain ⟨k1, k2, k3⟩ := hcs.useq_part hm
      have e1 : caps.getD m .undef = y := by rw [List.getD_eq_getElem?_getD, hy]; rfl
      have hz' : cs[m]? = some z := by simpa using hz
      have hmc : m < cs.length := by omega
      have e2 : (cs.drop (m * 1)).take 1 = [z] := by
        rw [Nat.mul_one, List.drop_eq_getElem_cons hmc]
        rw [List.getElem?_eq_getElem hmc] at hz'
        injection hz' with hz'
        rw [hz']; rfl
      rw [e1, e2] at k1
      exact .of_V0 (V0.of_cell k1 (hag y (List.mem_of_getElem? hy)))
  have hHc : HeapOK g w Hc := by
    refine ⟨fun n r hr => ?_, fun n n' r r' b hr hr' hb hb' => ?_⟩
    · obtain ⟨r', q1, q2, q3⟩ := hs.res hr
      exact q3 _ _ (hH.ok n (.inl (hrd n (get_some_key hr))) r' q1)
    · obtain ⟨s, q1, q2, _⟩ := hs.res hr
      obtain ⟨s', q1', q2', _⟩ := hs.res hr'
      exact hH.disj n n' s s' b (.inl (hrd n (get_some_key hr))) (.inl (hrd n' (get_some_key hr'))) q1 q1' (by rw [q2]; exact hb) (by rw [q2']; exact hb')
  have hmono : ∀ b, Blks g Hc (keys wr) b → Blks g H (keys wr) b := by
    rintro b ⟨n, r, hn, hr, hb⟩
    obtain ⟨s, q1, q2, _⟩ := hs.res hr
    exact ⟨n, s, hn, q1, by rw [q2]; exact hb⟩
  unfold wpOp
  simp only [hi, wants_true hw he, if_true]
  refine .inl ?_
  unfold Oper.wp
  rw [hexec, Oper.upon_enter]
  refine (hcall _ g w hargs hinv hHc hfr).mono ?_
  rintro e w' ⟨v, g', rfl, hv', hp⟩
  exact hK v g' w' hv' ⟨hp.delta.mono (fun b _ hb => hmono b hb) (fun _ _ h => h) (fun _ h => h),
    fun n r hr hn => ⟨(hp.res n r hr hn).1, fun b hb => ((hp.res n r hr hn).2 b hb).imp (hmono b) id⟩, hp.disj⟩

end Go.AL

/-
  The layer AL, part 6f: maps: looked up, written, cleared of a key, counted; keys are whole numbers, or structs and arrays of plain parts.
-/
import Derived.Test.YtaghcjbpjnpkbaaGreatAL6e
import Derived.MapKept
import GoSem.Builtin.Delete
import Derived.WideKeyRuns
set_option linter.unusedSimpArgs false
set_option linter.unusedVariables false
namespace Go.AL
open Go

noncomputable def lookA (k : AV) : List (AV × AV) → Option AV
  | [] => none
  | (a, v) :: r => if eqB k a then some v else lookA k r
noncomputable def setA (k v : AV) : List (AV × AV) → List (AV × AV)
  | [] => [(k, v)]
  | (a, u) :: r => if eqB k a then (k, v) :: r else (a, u) :: setA k v r
noncomputable def delA (k : AV) : List (AV × AV) → List (AV × AV)
  | [] => []
  | (a, u) :: r => if eqB k a then r else (a, u) :: delA k r

/-! ### entries of distinct keys, in any order -/
theorem lookA_some {k v : AV} : ∀ {es : List (AV × AV)}, (es.map (·.1)).Nodup → (lookA k es = some v ↔ (k, v) ∈ es)
  | [], _ => by simp [lookA]
  | (a, u) :: r, h => by
    simp only [List.map_cons, List.nodup_cons] at h
    by_cases q : k = a
    · subst q
      have : (k, v) ∉ r := fun hm => h.1 (List.mem_map.2 ⟨_, hm, rfl⟩)
      simp [lookA, eqB_yes rfl, this, eq_comm]
    · simp [lookA, eqB_no q, lookA_some h.2, q]
theorem lookA_none {k : AV} : ∀ {es : List (AV × AV)}, (lookA k es = none ↔ k ∉ es.map (·.1))
  | [] => by simp [lookA]
  | (a, u) :: r => by
    by_cases q : k = a
    · subst q; simp [lookA, eqB_yes rfl]
    · simp only [lookA, eqB_no q, Bool.false_eq_true, if_false, lookA_none, List.map_cons, List.mem_cons, q, false_or]
theorem lookA_perm {k : AV} {es es' : List (AV × AV)} (hp : es.Perm es') (hn : (es.map (·.1)).Nodup) : lookA k es = lookA k es' := by
  cases h : lookA k es with
  | none =>
    rw [lookA_none, (hp.map _).mem_iff] at h
    exact (lookA_none.2 h).symm
  | some v =>
    have hn' : (es'.map (·.1)).Nodup := (hp.map _).nodup_iff.1 hn
    rw [lookA_some hn, hp.mem_iff] at h
    exact ((lookA_some hn').2 h).symm
theorem setA_keys {k v : AV} : ∀ (es : List (AV × AV)), (setA k v es).map (·.1) = if lookA k es = none then es.map (·.1) ++ [k] else es.map (·.1)
  | [] => by simp [setA, lookA]
  | (a, u) :: r => by
    by_cases q : k = a
    · subst q; simp [setA, lookA, eqB_yes rfl]
    · have ih := setA_keys (v := v) (k := k) r
      simp only [setA, lookA, eqB_no q, Bool.false_eq_true, if_false, List.map_cons, ih]
      split <;> simp
theorem setA_nodup {k v : AV} {es : List (AV × AV)} (h : (es.map (·.1)).Nodup) : ((setA k v es).map (·.1)).Nodup := by
  rw [setA_keys]
  split
  · rename_i q
    rw [lookA_none] at q
    rw [List.nodup_append]
    exact ⟨h, by simp, fun a ha b hb => by simp at hb; subst hb; exact fun e => q (e ▸ ha)⟩
  · exact h
theorem delA_sub {k : AV} : ∀ (es : List (AV × AV)), (delA k es).Sublist es
  | [] => .slnil
  | (a, u) :: r => by
    simp only [delA]
    split
    · exact List.sublist_cons_self _ _
    · exact (delA_sub r).cons_cons _
theorem delA_nodup {k : AV} {es : List (AV × AV)} (h : (es.map (·.1)).Nodup) : ((delA k es).map (·.1)).Nodup := h.sublist ((delA_sub es).map _)
theorem setA_perm {k v : AV} {es es' : List (AV × AV)} (hp : es.Perm es') (hn : (es.map (·.1)).Nodup) : (setA k v es).Perm (setA k v es') := by
  induction hp with
  | nil => exact .refl _
  | cons x _ ih =>
    obtain ⟨a, u⟩ := x
    simp only [List.map_cons, List.nodup_cons] at hn
    by_cases q : k = a
    · subst q; simp only [setA, eqB_yes rfl, if_true]; exact .cons _ (by assumption)
    · simp only [setA, eqB_no q, Bool.false_eq_true, if_false]; exact .cons _ (ih hn.2)
  | swap x y l =>
    obtain ⟨a, u⟩ := x
    obtain ⟨b, t⟩ := y
    simp only [List.map_cons, List.nodup_cons, List.mem_cons, not_or] at hn
    by_cases q : k = a
    · subst q
      have : k ≠ b := fun e => hn.1.1 e.symm
      simp only [setA, eqB_yes rfl, eqB_no this, Bool.false_eq_true, if_false, if_true]; exact .swap _ _ _
    · by_cases q2 : k = b
      · subst q2
        simp only [setA, eqB_yes rfl, eqB_no q, Bool.false_eq_true, if_false, if_true]; exact .swap _ _ _
      · simp only [setA, eqB_no q, eqB_no q2, Bool.false_eq_true, if_false]; exact .swap _ _ _
  | trans h1 _ ih1 ih2 => exact (ih1 hn).trans (ih2 ((h1.map _).nodup_iff.1 hn))
theorem delA_perm {k : AV} {es es' : List (AV × AV)} (hp : es.Perm es') (hn : (es.map (·.1)).Nodup) : (delA k es).Perm (delA k es') := by
  induction hp with
  | nil => exact .refl _
  | cons x _ ih =>
    obtain ⟨a, u⟩ := x
    simp only [List.map_cons, List.nodup_cons] at hn
    by_cases q : k = a
    · subst q; simp only [delA, eqB_yes rfl, if_true]; assumption
    · simp only [delA, eqB_no q, Bool.false_eq_true, if_false]; exact .cons _ (ih hn.2)
  | swap x y l =>
    obtain ⟨a, u⟩ := x
    obtain ⟨b, t⟩ := y
    simp only [List.map_cons, List.nodup_cons, List.mem_cons, not_or] at hn
    by_cases q : k = a
    · subst q
      have : k ≠ b := fun e => hn.1.1 e.symm
      simp only [delA, eqB_yes rfl, eqB_no this, Bool.false_eq_true, if_false, if_true]; exact .refl _
    · by_cases q2 : k = b
      · subst q2
        simp only [delA, eqB_yes rfl, eqB_no q, Bool.false_eq_true, if_false, if_true]; exact .refl _
      · simp only [delA, eqB_no q, eqB_no q2, Bool.false_eq_true, if_false]; exact .swap _ _ _
  | trans h1 _ ih1 ih2 => exact (ih1 hn).trans (ih2 ((h1.map _).nodup_iff.1 hn))

theorem MapR.length {g : G} {w : World} {es : List (AV × AV)} {L : List MapEntry} (h : MapR g w es L) : es.length = L.length := by
  induction h with
  | nil => rfl
  | cons _ _ _ ih => simp [ih]
theorem MapR.append {g : G} {w : World} {es fs : List (AV × AV)} {L M : List MapEntry} (h : MapR g w es L) (h2 : MapR g w fs M) : MapR g w (es ++ fs) (L ++ M) := by
  induction h with
  | nil => exact h2
  | cons k1 k2 _ ih => exact .cons k1 k2 ih

section
variable {P : Program}
theorem findKey_of {w : World} {T : TypeId} {d : TypeDesc} {k : Value} {es : List MapEntry} {r : Option (Nat × Value)} (hu : P.underlying T = some d) (h : Instr.findNow d k es 0 = some r) : (Instr.findKey T k es).run P w = .ok r w := by
  simp [Instr.findKey, run_underlying hu, h]


theorem ck_run {g : G} {w : World} (em : Bool) : ∀ (n : Nat) (T : TypeId) (a : AV) (v : Value), V0 g w a v → cmpOK P n T a → ∀ d, n ≤ d → (Instr.checkKey em d T v).run P w = .ok () w
  | 0, _, _, _, _, h => h.elim
  | n + 1, T, a, v, ha, h => by
    intro d hd
    obtain ⟨d, rfl⟩ : ∃ d', d = d' + 1 := ⟨d - 1, by omega⟩
    unfold cmpOK at h
    split at h
    · obtain ⟨rfl, _⟩ := V1_val (.of_V0 ha)
      simp [Instr.checkKey, run_underlying (tint_und h)]
    · obtain ⟨rfl, _⟩ := V1_val (.of_V0 ha)
      simp [Instr.checkKey, run_underlying (tbool_und h)]
    · obtain ⟨rfl, _⟩ := V1_val (.of_V0 ha)
      simp [Instr.checkKey, run_underlying (tstr_und h)]
    · rename_i m ps
      obtain ⟨h0, h⟩ := h
      split at h
      · rename_i fs hfs
        unfold tcmp at hfs
        split at hfs
        · rename_i fl hu
          split at hfs
          · cases hfs
          · rename_i hcond
            injection hfs with hfs
            subst hfs
            simp only [Bool.or_eq_true, not_or, Bool.not_eq_true] at hcond
            obtain ⟨xs, rfl, hx⟩ := V0.agg ha rfl
            have hx' : R g w (.seq ps xs.toList) := by cases hx; assumption
            rw [Instr.checkKey]
            simp only [Sem.run_bind, run_underlying hu, Result.andThen_ok]
            rw [← Array.forIn_toList]
            have key : ∀ (L : List Field) (ps : List AV) (off : Nat) (cs : List Value), R g w (.seq ps cs) → xs.toList.drop off = cs → L.any (fun f => f.name == "_") = false →
                cmpParts P (cmpOK P n) ps (L.map fun f => (f.offset, f.type)) off →
                (forIn L PUnit.unit (fun (f : Field) (_ : PUnit) => (if f.name ≠ "_" then do
                  let y ← part f.type xs f.offset
                  Instr.checkKey em d f.type y
                  Pure.pure (ForInStep.yield PUnit.unit) else Pure.pure (ForInStep.yield PUnit.unit) : Sem (ForInStep PUnit)))).run P w = .ok PUnit.unit w := by
              intro L
              induction L with
              | nil => intro ps off cs _ _ _ _; simp
              | cons f L ih =>
                intro ps off cs hr e1 hn hc
                cases ps with
                | nil => exact hc.elim
                | cons p ps =>
                  obtain ⟨a1, a2, a3, a4, a5⟩ := hc
                  simp only [List.any_cons, Bool.or_eq_false_iff] at hn
                  generalize hs1 : Sh.seq (p :: ps) cs = s1 at hr
                  cases hr <;> simp at hs1
                  rename_i p' ps' cs1 ds1 k1 k2
                  obtain ⟨⟨rfl, rfl⟩, hcs⟩ := hs1
                  rw [hcs] at e1
                  have m1 := k1.length
                  obtain ⟨va, r1, r2⟩ := part_run (P := P) (T := f.type) (cs := xs) (off := off) (a := p) (g := g) (w := w) (by rw [e1, ← m1, List.take_left]; exact k1) a2 a3
                  have hq := ck_run em n f.type p va r2 a4 d (by omega)
                  have hname : f.name ≠ "_" := by simpa using hn.1
                  have ih2 := ih ps (off + p.csize) ds1 k2 (by rw [← List.drop_drop, e1, ← m1, List.drop_left]) hn.2 a5
                  simp only [List.forIn_cons, hname, ne_eq, not_false_eq_true, if_true, Sem.run_bind, a1, r1, hq, Result.andThen_ok, Sem.run_pure]
                  exact ih2
            have := key fl.toList ps 0 _ hx' (by simp) hcond.2 h
            simp at this ⊢
            rw [this]; rfl
        · cases hfs
      · exact h.elim
    · rename_i sz ps
      split at h
      · rename_i len e hT
        obtain ⟨h1, h2, h3⟩ := h
        split at h3
        · rename_i bb hag
          have hu := tarr_und hT
          obtain ⟨xs, rfl, hx⟩ := V0.agg ha rfl
          have hx' : R g w (.useq sz ps xs.toList) := by cases hx; assumption
          rw [Instr.checkKey]
          simp only [Sem.run_bind, run_underlying hu, Result.andThen_ok]
          simp only [Std.Legacy.Range.forIn_eq_forIn_range', Std.Legacy.Range.size, Nat.sub_zero, Nat.add_sub_cancel, Nat.div_one]
          have each : ∀ i, i < len → ∃ va, (part e xs (i * sz)).run P w = .ok va w ∧ (Instr.checkKey em d e va).run P w = .ok () w := by
            intro i hi
            have i1 : i < ps.length := by omega
            obtain ⟨p1, p2, p3⟩ := h3 (ps.getD i .undef) (by rw [List.getD_eq_getElem?_getD, List.getElem?_eq_getElem i1]; exact List.getElem_mem i1)
            obtain ⟨u1, u2, u3⟩ := hx'.useq_part i1
            obtain ⟨va, r1, r2⟩ := part_run (P := P) (T := e) (cs := xs) (off := i * sz) (a := ps.getD i .undef) (g := g) (w := w) (by rw [p1]; exact u1) (by rw [p1]; exact h2) (by rw [p2]; exact hag)
            exact ⟨va, r1, ck_run em n e _ va r2 p3 d (by omega)⟩
          have key : ∀ (k s : Nat), s + k ≤ len → (forIn (List.range' s k) PUnit.unit (fun (i : Nat) (_ : PUnit) => (do
                let z ← sizeOf e
                let y ← part e xs (i * z)
                Instr.checkKey em d e y
                Pure.pure (ForInStep.yield PUnit.unit) : Sem (ForInStep PUnit)))).run P w = .ok PUnit.unit w := by
            intro k
            induction k with
            | zero => intro s _; simp
            | succ k ih =>
              intro s hs
              obtain ⟨va, r1, r2⟩ := each s (by omega)
              have ih2 := ih (s + 1) (by omega)
              simp only [List.range'_succ, List.forIn_cons, Sem.run_bind, tsz_run h2, r1, r2, Result.andThen_ok, Sem.run_pure]
              exact ih2
          have := key len 0 (by omega)
          simp at this ⊢
          rw [this]; rfl
        · exact h3.elim
      · exact h.elim
    · exact h.elim

theorem plain_det {g : G} {w : World} : ∀ (n : Nat) (T : TypeId) (a : AV), cmpOK P n T a → ∀ cs ds, R g w (.one a cs) → R g w (.one a ds) → cs = ds
  | 0, _, _, h, _, _, _, _ => h.elim
  | n + 1, T, a, h, cs, ds, h1, h2 => by
    unfold cmpOK at h
    split at h
    · cases h1; cases h2; rfl
    · cases h1; cases h2; rfl
    · cases h1; cases h2; rfl
    · rename_i m ps
      obtain ⟨h0, h⟩ := h
      split at h
      · rename_i fs hfs
        cases h1 with
        | agg k1 _ => cases h2 with
          | agg k2 _ =>
            have key : ∀ (ps : List AV) (fs : List (Nat × TypeId)) (off : Nat) (cs ds : List Value), cmpParts P (cmpOK P n) ps fs off → R g w (.seq ps cs) → R g w (.seq ps ds) → cs = ds := by
              intro ps
              induction ps with
              | nil => intro fs off cs ds _ k1 k2; cases k1; cases k2; rfl
              | cons p ps ih =>
                intro fs off cs ds hc k1 k2
                cases fs with
                | nil => exact hc.elim
                | cons f fs =>
                  obtain ⟨o, t⟩ := f
                  obtain ⟨_, _, _, a4, a5⟩ := hc
                  cases k1 with
                  | seqCons u1 u2 => cases k2 with
                    | seqCons v1 v2 => rw [plain_det n t p a4 _ _ u1 v1, ih fs _ _ _ a5 u2 v2]
            exact key ps fs 0 cs ds h k1 k2
      · exact h.elim
    · rename_i sz ps
      split at h
      · rename_i len e hT
        obtain ⟨_, _, h3⟩ := h
        split at h3
        · rename_i bb hag
          cases h1 with
          | vec k1 => cases h2 with
            | vec k2 =>
              have key : ∀ (ps : List AV) (cs ds : List Value), (∀ p ∈ ps, cmpOK P n e p) → R g w (.useq sz ps cs) → R g w (.useq sz ps ds) → cs = ds := by
                intro ps
                induction ps with
                | nil => intro cs ds _ k1 k2; cases k1; cases k2; rfl
                | cons p ps ih =>
                  intro cs ds hc k1 k2
                  cases k1 with
                  | useqCons u1 _ u2 => cases k2 with
                    | useqCons v1 _ v2 => rw [plain_det n e p (hc p (by simp)) _ _ u1 v1, ih _ _ (fun q hq => hc q (by simp [hq])) u2 v2]
              exact key ps cs ds (fun p hp => (h3 p hp).2.2) k1 k2
        · exact h3.elim
      · exact h.elim
    · exact h.elim

def flatV : Value → Bool
  | .int _ _ | .bool _ | .string _ => true
  | _ => false
theorem plain_flat {g : G} {w : World} : ∀ (n : Nat) (T : TypeId) (a : AV), cmpOK P n T a → ∀ cs, R g w (.one a cs) → ∀ c ∈ cs, flatV c = true
  | 0, _, _, h, _, _ => h.elim
  | n + 1, T, a, h, cs, h1 => by
    unfold cmpOK at h
    split at h
    · cases h1; simp [flatV]
    · cases h1; simp [flatV]
    · cases h1; simp [flatV]
    · rename_i m ps
      obtain ⟨h0, h⟩ := h
      split at h
      · rename_i fs hfs
        cases h1 with
        | agg k1 _ =>
          have key : ∀ (ps : List AV) (fs : List (Nat × TypeId)) (off : Nat) (cs : List Value), cmpParts P (cmpOK P n) ps fs off → R g w (.seq ps cs) → ∀ c ∈ cs, flatV c = true := by
            intro ps
            induction ps with
            | nil => intro fs off cs _ k1; cases k1; simp
            | cons p ps ih =>
              intro fs off cs hc k1
              cases fs with
              | nil => exact hc.elim
              | cons f fs =>
                obtain ⟨o, t⟩ := f
                obtain ⟨_, _, _, a4, a5⟩ := hc
                cases k1 with
                | seqCons u1 u2 =>
                  intro c hcm
                  rcases List.mem_append.1 hcm with q | q
                  · exact plain_flat n t p a4 _ u1 c q
                  · exact ih fs _ _ a5 u2 c q
          exact key ps fs 0 cs h k1
      · exact h.elim
    · rename_i sz ps
      split at h
      · rename_i len e hT
        obtain ⟨_, _, h3⟩ := h
        split at h3
        · cases h1 with
          | vec k1 =>
            have key : ∀ (ps : List AV) (cs : List Value), (∀ p ∈ ps, cmpOK P n e p) → R g w (.useq sz ps cs) → ∀ c ∈ cs, flatV c = true := by
              intro ps
              induction ps with
              | nil => intro cs _ k1; cases k1; simp
              | cons p ps ih =>
                intro cs hc k1
                cases k1 with
                | useqCons u1 _ u2 =>
                  intro c hcm
                  rcases List.mem_append.1 hcm with q | q
                  · exact plain_flat n e p (hc p (by simp)) _ u1 c q
                  · exact ih _ (fun q hq => hc q (by simp [hq])) u2 c q
            exact key ps cs (fun p hp => (h3 p hp).2.2) k1
        · exact h3.elim
      · exact h.elim
    · exact h.elim
theorem same_flat {n : Nat} : ∀ {v : Value}, flatV v = true → Instr.sameBits n v v = true := by
  intro v h
  cases v <;> simp [flatV] at h <;> cases n <;> simp [Instr.sameBits, bytes_beq]
theorem plain_same {g : G} {w : World} {n : Nat} {T : TypeId} {a : AV} {v u : Value} (h : cmpOK P n T a) (h1 : V0 g w a v) (h2 : V0 g w a u) : v = u ∧ Instr.sameBits 10000 v u = true := by
  have hc := plain_det n T a h _ _ h1.1 h2.1
  have hf := plain_flat n T a h _ h1.1
  have hag : isAggV v = isAggV u := h1.2.trans h2.2.symm
  have e : v = u := by
    cases v <;> cases u <;> simp_all [isAggV, Value.cells] <;> first | (cases hc; rfl) | (apply Array.ext'; exact hc)
  refine ⟨e, ?_⟩
  subst e
  cases v with
  | agg xs =>
    show (xs.size == xs.size && (xs.toList.zip xs.toList).all fun (x, y) => Instr.sameBits 9999 x y) = true
    simp only [beq_self_eq_true, Bool.true_and, List.all_eq_true]
    rintro ⟨x, y⟩ hm
    have hxy : x = y := by
      generalize xs.toList = l at hm
      induction l with
      | nil => simp at hm
      | cons z l ih =>
        simp only [List.zip_cons_cons, List.mem_cons] at hm
        rcases hm with q | q
        · injection q with q1 q2; rw [q1, q2]
        · exact ih q
    subst hxy
    exact same_flat (hf x (List.of_mem_zip hm).1)
  | _ => exact same_flat (hf _ (by simp [Value.cells]))

theorem find_ask {T : TypeId} {g : G} {w : World} {a : AV} {v : Value} (hc : cmpOK P 8 T a) (hv : V0 g w a v) : ∀ {es : List (AV × AV)} {L : List MapEntry} (j0 : Nat), MapR g w es L → (∀ p ∈ es, cmpOK P 8 T p.1) →
    (lookA a es = none ∧ (Instr.findAsking T v L j0).run P w = .ok none w ∧ (∀ u, setA a u es = es ++ [(a, u)]) ∧ delA a es = es) ∨
    (∃ j e u, lookA a es = some u ∧ (Instr.findAsking T v L j0).run P w = .ok (some (j0 + j, e.val)) w ∧ L[j]? = some e ∧ (e.key = v ∧ Instr.sameBits 10000 e.key v = true) ∧ V0 g w u e.val ∧
      (∀ g' w' (x : AV) (x' : Value), V0 g' w' a v → MapR g' w' es L → V0 g' w' x x' → MapR g' w' (setA a x es) (L.set j { e with key := v, val := x' })) ∧
      (∀ g' w', MapR g' w' es L → MapR g' w' (delA a es) (L.eraseIdx j)))
  | _, _, j0, .nil, _ => .inl ⟨rfl, by simp [Instr.findAsking], fun _ => rfl, rfl⟩
  | _, _, j0, .cons (p := p) (es := es) (e := e) (L := L) h1 h2 h3, hk => by
    have hkp := hk p (by simp)
    have heq : (Op.equal T v e.key).run P w = .ok (eqB a p.1) w := eq_run 8 T a p.1 v e.key hv h1 hc hkp 10000 (by decide)
    obtain ⟨pa, pb⟩ := p
    simp only at heq h1 h2
    cases q : eqB a pa with
    | true =>
      rw [q] at heq
      have e1 : a = pa := by rw [eqB_true] at q; exact q
      subst e1
      refine .inr ⟨0, e, pb, by simp [lookA, q], by simp [Instr.findAsking, heq], rfl, plain_same hc h1 hv, h2, fun g' w' x x' ha hm hx => ?_, fun g' w' hm => ?_⟩
      · cases hm with
        | cons m1 m2 m3 =>
          simp only [setA, q, if_true, List.set_cons_zero]
          exact .cons ha hx m3
      · cases hm with
        | cons m1 m2 m3 =>
          simp only [delA, q, if_true, List.eraseIdx_cons_zero]
          exact m3
    | false =>
      rw [q] at heq
      rcases find_ask hc hv (j0 + 1) h3 (fun p hp => hk p (by simp [hp])) with ⟨a1, a2, a3, a4⟩ | ⟨j, e', u, a1, a2, a3, a4, a5, a6, a7⟩
      · exact .inl ⟨by simp [lookA, q, a1], by simp [Instr.findAsking, heq, a2], fun v => by simp [setA, q, a3], by simp [delA, q, a4]⟩
      · refine .inr ⟨j + 1, e', u, by simp [lookA, q, a1], by simp only [Instr.findAsking, Sem.run_bind, heq, Result.andThen_ok, Bool.false_eq_true, if_false, a2]; congr 3; omega, by simpa using a3, a4, a5, fun g' w' x x' ha hm hx => ?_, fun g' w' hm => ?_⟩
        · cases hm with
          | cons m1 m2 m3 =>
            simp only [setA, q, Bool.false_eq_true, if_false, List.set_cons_succ]
            exact .cons m1 m2 (a6 g' w' x x' ha m3 hx)
        · cases hm with
          | cons m1 m2 m3 =>
            simp only [delA, q, Bool.false_eq_true, if_false, List.eraseIdx_cons_succ]
            exact .cons m1 m2 (a7 g' w' m3)
def twide (P : Program) (T : TypeId) : Bool := match P.underlying T with | some (.array _ _) | some (.struct _) => true | _ => false
def keyOK (P : Program) (T : TypeId) (a : AV) : Prop :=
  match a with
  | .val (.int k _) => tint P T = some k
  | .agg n ps => twide P T = true ∧ cmpOK P 8 T (.agg n ps)
  | .vec n ps => twide P T = true ∧ cmpOK P 8 T (.vec n ps)
  | _ => False
theorem keyOK_cmp {T : TypeId} {a : AV} (h : keyOK P T a) : cmpOK P 8 T a := by
  unfold keyOK at h
  split at h
  · unfold cmpOK; exact h
  · exact h.2
  · exact h.2
  · exact h.elim
theorem findKey_ask {w : World} {g : G} {T : TypeId} {a : AV} {v : Value} {es : List (AV × AV)} {L : List MapEntry} (ha : keyOK P T a) (hv : V0 g w a v) (hm : MapR g w es L) (hk : ∀ p ∈ es, keyOK P T p.1) :
    (Instr.findKey T v L).run P w = (Instr.findAsking T v L 0).run P w := by
  unfold keyOK at ha
  split at ha
  · rename_i kd x
    obtain ⟨rfl, _⟩ := V1_val (.of_V0 hv)
    have hu := tint_und ha
    have key : ∀ {es : List (AV × AV)} {L : List MapEntry} (j0 : Nat), MapR g w es L → (∀ p ∈ es, keyOK P T p.1) → ∃ r, Instr.findNow (.int kd) (.int kd x) L j0 = some r ∧ (Instr.findAsking T (.int kd x) L j0).run P w = .ok r w := by
      intro es L j0 hm
      induction hm generalizing j0 with
      | nil => intro _; exact ⟨none, rfl, by simp [Instr.findAsking]⟩
      | @cons p es e L h1 h2 h3 ih =>
        intro hk
        have hp := hk p (by simp)
        have hcp := keyOK_cmp hp
        have heq : (Op.equal T (.int kd x) e.key).run P w = .ok (eqB (.val (.int kd x)) p.1) w := eq_run 8 T _ p.1 _ e.key hv h1 (by unfold cmpOK; exact ha) hcp 10000 (by decide)
        have hint : ∃ y, p.1 = .val (.int kd y) := by
          unfold keyOK at hp
          split at hp
          · rename_i k2 y e2
            rw [ha] at hp; injection hp with hp; subst hp
            exact ⟨y, by assumption⟩
          · have := hp.1; simp [twide, hu] at this
          · have := hp.1; simp [twide, hu] at this
          · exact hp.elim
        obtain ⟨y, hy⟩ := hint
        rw [hy] at h1 heq
        obtain ⟨he, _⟩ := V1_val (.of_V0 h1)
        obtain ⟨r, r1, r2⟩ := ih (j0 + 1) (fun p hp => hk p (by simp [hp]))
        by_cases e1 : x = y
        · subst e1
          rw [eqB_yes rfl] at heq
          exact ⟨some (j0, e.val), by simp [Instr.findNow, Instr.sameNow, he], by simp [Instr.findAsking, heq]⟩
        · rw [eqB_no (fun h => e1 (by injection h with h; injection h))] at heq
          have hb : (x == y) = false := by simpa using e1
          exact ⟨r, by simp [Instr.findNow, Instr.sameNow, he, hb, r1], by simp [Instr.findAsking, heq, r2]⟩
    obtain ⟨r, r1, r2⟩ := key 0 hm hk
    rw [r2]
    exact findKey_of hu r1
  · exact run_findKey_eq w ha.1 v L
  · exact run_findKey_eq w ha.1 v L
  · exact ha.elim

theorem keyOK_ck {T : TypeId} {a : AV} {v : Value} {g : G} {w : World} (h : keyOK P T a) (hv : V0 g w a v) (b : Bool) : (Instr.checkKey b 10000 T v).run P w = .ok () w := ck_run b 8 T a v hv (keyOK_cmp h) 10000 (by decide)
theorem keyOK_good {T : TypeId} {a : AV} (h : keyOK P T a) : a.good = true := by
  unfold keyOK at h
  split at h
  · rfl
  · rfl
  · rfl
  · exact h.elim
theorem find_key {T : TypeId} {g : G} {w : World} {a : AV} {v : Value} {es : List (AV × AV)} {L : List MapEntry} (ha : keyOK P T a) (hv : V0 g w a v) (hm : MapR g w es L) (hk : ∀ p ∈ es, keyOK P T p.1) :
    (lookA a es = none ∧ (Instr.findKey T v L).run P w = .ok none w ∧ (∀ u, setA a u es = es ++ [(a, u)]) ∧ delA a es = es) ∨
    (∃ j e u, lookA a es = some u ∧ (Instr.findKey T v L).run P w = .ok (some (j, e.val)) w ∧ L[j]? = some e ∧ (e.key = v ∧ Instr.sameBits 10000 e.key v = true) ∧ V0 g w u e.val ∧
      (∀ g' w' (x : AV) (x' : Value), V0 g' w' a v → MapR g' w' es L → V0 g' w' x x' → MapR g' w' (setA a x es) (L.set j { e with key := v, val := x' })) ∧
      (∀ g' w', MapR g' w' es L → MapR g' w' (delA a es) (L.eraseIdx j))) := by
  rw [findKey_ask ha hv hm hk]
  rcases find_ask (keyOK_cmp ha) hv 0 hm (fun p hp => keyOK_cmp (hk p hp)) with h | ⟨j, e, u, h1, h2, h3⟩
  · exact .inl h
  · rw [Nat.zero_add] at h2
    exact .inr ⟨j, e, u, h1, h2, h3⟩
end

section
variable {P : Program} {o : Oper} {env : Env} {H : Heap}

theorem mpRes {g : G} {w : World} {n : Nat} {es : List (AV × AV)} (hn : Res.mp? (H.get n) = some es) (h : ∀ r, H.get n = some r → resOK g w n r) : resOK g w n (.mp es) := by
  cases hr : H.get n with
  | none => simp [hr, Res.mp?] at hn
  | some r =>
    cases r <;> simp [hr, Res.mp?] at hn <;> subst hn
    · have h2 := h _ hr; exact h2
    · have h2 := h _ hr; exact h2
    · obtain ⟨h0, b, x, arr, h1, h2, h3, h4⟩ := h _ hr
      exact ⟨h0, b, x, arr, _, h1, h2, ⟨⟨_, .refl _, h3.1⟩, h3.2.1, h3.2.2.1⟩, h4⟩

theorem op_lookup {T kt et : TypeId} {x y : Operand} {c : Bool} {n : Nat} {es : List (AV × AV)} {z : AV} (ho : o.op = .lookup T x y c) (hx : evA env x = .map n) (hn : Res.mp? (H.get n) = some es) (hT : tmap P T = some (kt, et)) (hz : ZeroOK P et z) :
    OpOK P o env H ⟨keyOK P kt (evA env y) ∧ ∀ p ∈ es, keyOK P kt p.1, if c then .tup [(lookA (evA env y) es).getD z, .val (.bool (lookA (evA env y) es).isSome)] else (lookA (evA env y) es).getD z, [n], [], []⟩ := by
  refine .pure fun ρ g w hop hrd hvc => ?_
  obtain ⟨v1, v2⟩ := hvc
  have h1 := hop x (by simp [Op.operands, ho])
  have h2 := (hop y (by simp [Op.operands, ho])).toV0 (keyOK_good v1)
  rw [hx] at h1
  obtain ⟨b, y', hv, huse, hl⟩ := V1_map h1
  obtain ⟨_, b', x', arr, clk, hl', hb, ⟨⟨es', hp, hr⟩, hnd, _⟩, _⟩ := mpRes hn (hrd n (by simp))
  rw [hl] at hl'; simp at hl'; obtain ⟨rfl, rfl⟩ := hl'
  have v2' : ∀ p ∈ es', keyOK P kt p.1 := fun p hp' => v2 p (hp.mem_iff.1 hp')
  have hlk : ∀ k, lookA k es = lookA k es' := fun k => lookA_perm hp.symm hnd
  simp only [hlk]
  obtain ⟨zv, hz1, hz2⟩ := hz.run
  have hget := MapKept.run_getObj_map (P := P) hb
  have hck := fun em => keyOK_ck (P := P) (w := w) v1 h2 em
  generalize evA env y = ky at *
  have fin : ∀ (a : AV) (v : Value) (s : Bool), V0 g w a v → lookA ky es' = (if s then some a else none) → (s = false → a = z) →
      V1 g w (if c then .tup [(lookA ky es').getD z, .val (.bool (lookA ky es').isSome)] else (lookA ky es').getD z) (if c then .tuple #[v, .bool s] else v) := by
    intro a v s ha hs hsz
    have e1 : (lookA ky es').getD z = a := by rw [hs]; cases s <;> simp [hsz]
    have e2 : (lookA ky es').isSome = s := by rw [hs]; cases s <;> rfl
    rw [e1, e2]
    cases c with
    | false => exact .of_V0 ha
    | true =>
      refine ⟨_, rfl, rfl, fun j p q hp hq => ?_⟩
      match j, hp, hq with
      | 0, hp, hq => simp at hp hq; subst hp hq; exact .inr ha
      | 1, hp, hq =>
        simp at hp hq; subst hp hq
        exact .inr (V0.of_cell (.val rfl) rfl)
      | j + 2, hp, hq => simp at hp
  rcases find_key v1 h2 hr v2' with ⟨a1, a2, _⟩ | ⟨j, e, v, a1, a2, a3, a4, a5, _⟩
  · refine ⟨_, ?_, fin z zv false (hz2 g w) (by rw [a1]; rfl) (fun _ => rfl)⟩
    simp [execOp, ho, hv, Instr.lookup, run_underlying (tmap_und hT), hget, hck, a2, hz1]
  · refine ⟨_, ?_, fin v e.val true a5 (by rw [a1]; rfl) (fun h => by cases h)⟩
    simp [execOp, ho, hv, Instr.lookup, run_underlying (tmap_und hT), hget, hck, a2]

theorem op_lookup_nil {T kt et : TypeId} {x y : Operand} {c : Bool} {z : AV} (ho : o.op = .lookup T x y c) (hx : evA env x = .val (.map none)) (hT : tmap P T = some (kt, et)) (hz : ZeroOK P et z) :
    OpOK P o env H ⟨keyOK P kt (evA env y), if c then .tup [z, .val (.bool false)] else z, [], [], []⟩ := by
  refine .pure fun ρ g w hop hrd hvc => ?_
  have h1 := hop x (by simp [Op.operands, ho])
  have h2 := (hop y (by simp [Op.operands, ho])).toV0 (keyOK_good hvc)
  rw [hx] at h1
  obtain ⟨hv, _⟩ := V1_val h1
  obtain ⟨zv, hz1, hz2⟩ := hz.run
  have hck := fun em => keyOK_ck (P := P) (w := w) hvc h2 em
  have hf : (Instr.findKey kt (ρ y) []).run P w = .ok none w := by
    rcases find_key hvc h2 (.nil : MapR g w [] []) (fun p hp => by simp at hp) with ⟨_, a2, _⟩ | ⟨j, e, u, a1, _⟩
    · exact a2
    · simp [lookA] at a1
  refine ⟨if c then .tuple #[zv, .bool false] else zv, ?_, ?_⟩
  · simp [execOp, ho, hv, Instr.lookup, run_underlying (tmap_und hT), hck, hf, hz1]
  · cases c with
    | false => exact .of_V0 (hz2 g w)
    | true =>
      refine ⟨_, rfl, rfl, fun j p q hp hq => ?_⟩
      match j, hp, hq with
      | 0, hp, hq => simp at hp hq; subst hp hq; exact .inr (hz2 g w)
      | 1, hp, hq =>
        simp at hp hq; subst hp hq
        exact .inr (V0.of_cell (.val rfl) rfl)
      | j + 2, hp, hq => simp at hp

theorem Delta.setMap {g : G} {w : World} {b : Nat} {ob ob' : Obj} (hb : w.heap[b]? = some ob) (him : g.imm b = 0) (D T N : Nat → Prop) (hD : D b) :
    Delta g w g { w with heap := w.heap.setIfInBounds b ob' } D T N := by
  have hold : ∀ k, k ≠ b → (w.heap.setIfInBounds b ob')[k]? = w.heap[k]? := fun k hk => by
    rw [Array.getElem?_setIfInBounds_ne (by omega)]
  refine ⟨⟨fun _ h => h, fun _ _ => Nat.le_refl _, fun _ _ _ _ => rfl, fun k => Nat.le_refl _, fun k q hq => ?_⟩, rfl, rfl, rfl, by simp, fun k hk hd => ⟨hold k (fun h => hd (by rw [h]; exact hD)), rfl⟩, fun _ h => .inl h, fun _ _ _ => rfl, fun hi k hk => hi k (by simpa using hk)⟩
  have hk : k ≠ b := fun h => by rw [h, him] at hq; omega
  simp [World.cell?, hold k hk]

theorem modify_set {arr : Array MapEntry} {j : Nat} {e : MapEntry} (f : MapEntry → MapEntry) (h : arr.toList[j]? = some e) : (arr.modify j f).toList = arr.toList.set j (f e) := by
  apply List.ext_getElem?
  intro k
  rw [Array.getElem?_toList, Array.getElem?_modify, List.getElem?_set]
  by_cases hk : j = k
  · subst hk
    rw [Array.getElem?_toList] at h
    have hlt : j < arr.size := by
      rcases Nat.lt_or_ge j arr.size with h' | h'
      · exact h'
      · rw [Array.getElem?_eq_none h'] at h; cases h
    obtain ⟨_, rfl⟩ := Array.getElem?_eq_some_iff.1 h
    simp [hlt]
  · simp [hk]

theorem map_done {n b : Nat} {g : G} {w : World} {x' : Nat × Nat} {es es' : List (AV × AV)} {arr arr' : Array MapEntry} {clk clk' : Nat} (hn : H.get n = some (.mp es)) (huse : g.use n) (hl : g.loc n 0 = some (b, x')) (hb : w.heap[b]? = some (.map arr clk)) (him : g.imm b = 0)
    (hm : ∀ w', Delta g w g w' (Blks g H (keys [(n, some (Res.mp es'))])) (· ∈ keys [(n, some (Res.mp es'))]) (· ∈ ([] : List Nat)) → (∃ es2, es2.Perm es' ∧ MapR g w' es2 arr'.toList) ∧ (es'.map (·.1)).Nodup ∧ BornOK arr'.toList clk') :
    StepPost g w H [(n, some (.mp es'))] [] g { w with heap := w.heap.setIfInBounds b (.map arr' clk') } := by
  have hblk : Blks g H (keys [(n, some (Res.mp es'))]) b := ⟨n, _, by simp [keys], hn, by simp [blkOf, hl]⟩
  have hd := Delta.setMap (g := g) (ob' := .map arr' clk') hb him (Blks g H (keys [(n, some (Res.mp es'))])) (· ∈ keys [(n, some (Res.mp es'))]) (· ∈ ([] : List Nat)) hblk
  refine ⟨hd, fun k r hr' hk => ?_, fun k k' r r' b2 hk hk' _ _ _ _ => ?_⟩
  · simp [keys] at hk; subst hk
    simp [Heap.get] at hr'; subst hr'
    have hlt : b < w.heap.size := by
      rcases Nat.lt_or_ge b w.heap.size with h' | h'
      · exact h'
      · rw [Array.getElem?_eq_none h'] at hb; cases hb
    refine ⟨⟨huse, b, x', arr', clk', hl, by simp [hlt], hm _ hd, him⟩, fun b2 hb2 => .inl ?_⟩
    simp [blkOf, hl] at hb2; subst hb2; exact hblk
  · simp [keys] at hk hk'; omega
theorem stays {k : Value} {w : World} (h : Instr.sameBits 10000 k k = true) : (Instr.keyThatStays k k).run P w = .ok k w := by simp [Instr.keyThatStays, h]
theorem op_mapUpdate {T kt et : TypeId} {x y v : Operand} {n : Nat} {es : List (AV × AV)} (ho : o.op = .mapUpdate T x y v ∨ o.op = .insert T x y v) (hx : evA env x = .map n) (hn : H.get n = some (.mp es)) (hT : tmap P T = some (kt, et)) :
    OpOK P o env H ⟨keyOK P kt (evA env y) ∧ (∀ p ∈ es, keyOK P kt p.1) ∧ (evA env v).good = true, .undef, [], [(n, some (.mp (setA (evA env y) (evA env v) es)))], []⟩ := by
  intro ρ g w hc0 hop hi hrd _ hvc
  obtain ⟨v1, v2, v3⟩ := hvc
  have hops : o.op.operands = #[x, y, v] := by rcases ho with ho | ho <;> simp [Op.operands, ho]
  have h1 := hop x (by simp [hops])
  have h2 := (hop y (by simp [hops])).toV0 (keyOK_good v1)
  have h3 := (hop v (by simp [hops])).toV0 v3
  rw [hx] at h1
  obtain ⟨b, y', hv, huse, hl⟩ := V1_map h1
  obtain ⟨_, b', x', arr, clk, hl', hb, ⟨⟨es', hp, hr⟩, hnd, hbo⟩, him⟩ := hrd n (.inr (by simp [keys])) _ hn
  rw [hl] at hl'; simp at hl'; obtain ⟨rfl, rfl⟩ := hl'
  have v2' : ∀ p ∈ es', keyOK P kt p.1 := fun p hp' => v2 p (hp.mem_iff.1 hp')
  have hnd' : (es'.map (·.1)).Nodup := (hp.map _).nodup_iff.2 hnd
  have hget := MapKept.run_getObj_map (P := P) hb
  have hset := fun o' => MapKept.run_setObj_map (P := P) o' hb
  have hck := fun em => keyOK_ck (P := P) (w := w) v1 h2 em
  generalize evA env y = ky at *
  generalize evA env v = kv at *
  rcases find_key v1 h2 hr v2' with ⟨a1, a2, a3, _⟩ | ⟨j, e, u, a1, a2, a3, ⟨a4, a4'⟩, a5, a6, _⟩
  · refine ⟨g, _, Go.undef, .inr ⟨?_, rfl⟩, trivial, map_done (arr' := arr.push { key := ρ y, val := ρ v, born := clk }) (clk' := clk + 1) hn huse hl hb him fun w' hd => ?_⟩
    · rcases ho with ho | ho <;> simp [execOp, ho, hv, Instr.mapUpdate, run_underlying (tmap_und hT), hget, hck, a2, hset]
    · refine ⟨⟨_, setA_perm (k := ky) (v := kv) hp hnd', ?_⟩, setA_nodup hnd, ?_⟩
      · rw [a3, Array.toList_push]
        exact (hr.ext hd.ext).append (.cons (h2.ext hd.ext) (h3.ext hd.ext) .nil)
      · rw [Array.toList_push]
        refine ⟨?_, fun e he => ?_⟩
        · rw [List.map_append, List.nodup_append]
          refine ⟨hbo.1, by simp, fun a ha b hb => ?_⟩
          simp at hb; subst hb
          obtain ⟨e, he, rfl⟩ := List.mem_map.1 ha
          have := hbo.2 e he; omega
        · rcases List.mem_append.1 he with q | q
          · have := hbo.2 e q; omega
          · simp at q; subst q; simp
  · have hj : arr[j]? = some e := by rw [← Array.getElem?_toList]; exact a3
    rw [a4] at a4'
    have hks := stays (P := P) (w := w) a4'
    refine ⟨g, _, Go.undef, .inr ⟨?_, rfl⟩, trivial, map_done (arr' := arr.modify j fun e => { e with key := ρ y, val := ρ v }) (clk' := clk) hn huse hl hb him fun w' hd => ?_⟩
    · rcases ho with ho | ho <;> simp [execOp, ho, hv, Instr.mapUpdate, run_underlying (tmap_und hT), hget, hck, a2, hset, hj, a4, hks]
    · refine ⟨⟨_, setA_perm (k := ky) (v := kv) hp hnd', ?_⟩, setA_nodup hnd, ?_⟩
      · rw [modify_set _ a3]
        exact a6 g w' _ _ (h2.ext hd.ext) (hr.ext hd.ext) (h3.ext hd.ext)
      · rw [modify_set _ a3]
        have hset : (arr.toList.set j { e with key := ρ y, val := ρ v }).map (·.born) = arr.toList.map (·.born) := by
          refine List.ext_getElem? fun i => ?_
          rw [List.getElem?_map, List.getElem?_map, List.getElem?_set]
          by_cases q : j = i
          · subst q
            have hlt := (List.getElem?_eq_some_iff.1 a3).1
            rw [if_pos rfl, if_pos hlt, a3]; rfl
          · rw [if_neg q]
        refine ⟨by rw [hset]; exact hbo.1, fun e' he' => ?_⟩
        have : e'.born ∈ arr.toList.map (·.born) := by rw [← hset]; exact List.mem_map.2 ⟨_, he', rfl⟩
        obtain ⟨e2, q1, q2⟩ := List.mem_map.1 this
        rw [← q2]; exact hbo.2 e2 q1
end
end Go.AL

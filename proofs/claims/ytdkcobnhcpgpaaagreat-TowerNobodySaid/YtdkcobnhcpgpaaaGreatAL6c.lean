/-
  The layer AL, part 6c: equality of plain values, strings, slices cut, made, copied.
-/
import Derived.Test.YtdkcobnhcpgpaaaGreatAL6b
import Derived.Laws.StructEq
import Derived.Laws.MakeOwn
import Derived.Laws.BytesArg
import Derived.Laws.IdiomStrings
set_option linter.unusedSimpArgs false
set_option linter.unusedVariables false
namespace Go.AL
open Go

/-! ### equality -/
def tcmp (P : Program) (T : TypeId) : Option (List (Nat × TypeId)) :=
  match P.underlying T with
  | some (.struct fs) => if P.stoodInHeld T || fs.toList.any (fun f => f.name == "_") then none else some (fs.toList.map fun f => (f.offset, f.type))
  | _ => none
def teq (P : Program) (T : TypeId) : Bool := !P.eqGuardType P.depth T
def tbool (P : Program) (T : TypeId) : Option Unit :=
  match P.underlying T with
  | some .bool => some ()
  | _ => none
theorem tbool_und {P : Program} {T : TypeId} (h : tbool P T = some ()) : P.underlying T = some .bool := by
  unfold tbool at h; split at h <;> simp_all

def cmpParts (P : Program) (C : TypeId → AV → Prop) : List AV → List (Nat × TypeId) → Nat → Prop
  | [], [], _ => True
  | p :: ps, (o, t) :: fs, off => o = off ∧ tsz P t = some p.csize ∧ tagg P t = some p.isAgg ∧ C t p ∧ cmpParts P C ps fs (off + p.csize)
  | _, _, _ => False

/-- A value whose equality is that of what it holds: whole numbers, truths, texts, and structs and arrays of these. -/
def cmpOK (P : Program) : Nat → TypeId → AV → Prop
  | 0, _, _ => False
  | n + 1, T, a =>
    match a with
    | .val (.int k _) => tint P T = some k
    | .val (.bool _) => tbool P T = some ()
    | .val (.string _) => tstr P T = some ()
    | .agg m ps => tsz P T = some m ∧ (match tcmp P T with
      | some fs => cmpParts P (cmpOK P n) ps fs 0
      | none => False)
    | .vec sz ps => match tarr P T with
      | some (len, e) => ps.length = len ∧ tsz P e = some sz ∧ (match tagg P e with
        | some b => ∀ p ∈ ps, p.csize = sz ∧ p.isAgg = b ∧ cmpOK P n e p
        | none => False)
      | none => False
    | _ => False

noncomputable def eqB (a b : AV) : Bool := @decide (a = b) (Classical.propDecidable _)
theorem eqB_true {a b : AV} : (eqB a b = true) = (a = b) := by simp [eqB]
theorem eqB_false {a b : AV} : (eqB a b = false) = ¬ (a = b) := by simp [eqB]
theorem eqB_yes {a b : AV} (h : a = b) : eqB a b = true := by rw [eqB_true]; exact h
theorem eqB_no {a b : AV} (h : ¬ a = b) : eqB a b = false := by rw [eqB_false]; exact h

theorem bytes_beq (a b : ByteArray) : (a == b) = decide (a = b) := by
  rw [beq_toListBytes, ByteArray.toList_eq, ByteArray.toList_eq]
  obtain ⟨⟨x⟩⟩ := a
  obtain ⟨⟨y⟩⟩ := b
  by_cases h : x = y
  · subst h; simp
  · have : ¬ ((⟨⟨x⟩⟩ : ByteArray) = ⟨⟨y⟩⟩) := fun e => h (by injection e with e; injection e)
    simp [h, this]

section
variable {P : Program}

theorem run_equalIn_array (w : World) (d : Nat) (t e : TypeId) (len n : Nat) (xs ys : Array Value) (ht : P.underlying t = some (.array len e)) (hs : tsz P e = some n) (b : List Bool) (hb : b.length = len)
    (h : ∀ i v, b[i]? = some v → ∃ x y, (part e xs (i * n)).run P w = .ok x w ∧ (part e ys (i * n)).run P w = .ok y w ∧ (Op.equalIn d e x y).run P w = .ok v w) :
    (Op.equalIn (d + 1) t (.agg xs) (.agg ys)).run P w = .ok (b.all id) w := by
  simp only [Op.equalIn, Sem.run_bind, run_underlying ht, Result.andThen_ok, tsz_run hs]
  simp only [Std.Legacy.Range.forIn_eq_forIn_range', Std.Legacy.Range.size, Nat.sub_zero, Nat.add_sub_cancel, Nat.div_one]
  have key : ∀ (b : List Bool) (k : Nat), (∀ i v, b[i]? = some v → ∃ x y, (part e xs ((k + i) * n)).run P w = .ok x w ∧ (part e ys ((k + i) * n)).run P w = .ok y w ∧ (Op.equalIn d e x y).run P w = .ok v w) →
      ((forIn (List.range' k b.length) (none, PUnit.unit) fun i (r : Option Bool × PUnit) => (do
        let a ← part e xs (i * n)
        let c ← part e ys (i * n)
        let r ← Op.equalIn d e a c
        if (!r) = true then Pure.pure (ForInStep.done (some false, PUnit.unit)) else Pure.pure (ForInStep.yield (none, PUnit.unit)) : Sem (ForInStep (Option Bool × PUnit)))).run P w) = .ok (if b.all id then (none, PUnit.unit) else (some false, PUnit.unit)) w := by
    intro b
    induction b with
    | nil => intro k _; simp
    | cons v b ih =>
      intro k hk
      obtain ⟨x, y, h1, h2, h3⟩ := hk 0 v rfl
      simp only [Nat.add_zero] at h1 h2
      simp only [List.length_cons, List.range'_succ, List.forIn_cons, Sem.run_bind, h1, h2, h3, Result.andThen_ok]
      cases v with
      | false => simp
      | true =>
        simp only [Bool.not_true, Bool.false_eq_true, if_false, Sem.run_pure, Result.andThen_ok]
        rw [ih (k + 1) (fun i v hv => by
          have := hk (i + 1) v (by simpa using hv)
          rw [show k + 1 + i = k + (i + 1) by omega]; exact this)]
        simp
  have h0 := key b 0 (by simpa using h)
  rw [hb] at h0
  have h1 : ((forIn (List.range' 0 len) ((none : Option Bool), ()) fun i (r : Option Bool × Unit) => (do
        let a ← part e xs (i * n)
        let c ← part e ys (i * n)
        let r ← Op.equalIn d e a c
        if (!r) = true then Pure.pure (ForInStep.done (some false, ())) else Pure.pure (ForInStep.yield (none, ())) : Sem (ForInStep (Option Bool × Unit)))).run P w) = .ok (if b.all id then (none, ()) else (some false, ())) w := h0
  refine Eq.trans (congrArg (fun r => Result.andThen r _) h1) ?_
  cases hb' : b.all id <;> simp [hb']

theorem eqFields_run {g : G} {w : World} {C : TypeId → AV → Prop} {d : Nat} (hC : ∀ T a b va vb, V0 g w a va → V0 g w b vb → C T a → C T b → (Op.equalIn d T va vb).run P w = .ok (eqB a b) w) {xs ys : Array Value} :
    ∀ (fs : List Field) (ps qs : List AV) (off : Nat) (cs ds : List Value), R g w (.seq ps cs) → R g w (.seq qs ds) → xs.toList.drop off = cs → ys.toList.drop off = ds → fs.any (fun f => f.name == "_") = false →
      cmpParts P C ps (fs.map fun f => (f.offset, f.type)) off → cmpParts P C qs (fs.map fun f => (f.offset, f.type)) off →
      ∃ r : Bool, (Op.eqFields d xs ys fs).run P w = .ok r w ∧ (r = true ↔ ps = qs)
  | [], ps, qs, off, cs, ds, h1, h2, _, _, _, c1, c2 => by
    cases ps with
    | cons p ps => exact c1.elim
    | nil => cases qs with
      | cons q qs => exact c2.elim
      | nil => exact ⟨true, by simp [Op.eqFields], by simp⟩
  | f :: fs, ps, qs, off, cs, ds, h1, h2, e1, e2, hn, c1, c2 => by
    cases ps with
    | nil => exact c1.elim
    | cons p ps => cases qs with
      | nil => exact c2.elim
      | cons q qs =>
        obtain ⟨a1, a2, a3, a4, a5⟩ := c1
        obtain ⟨b1, b2, b3, b4, b5⟩ := c2
        simp only [List.any_cons, Bool.or_eq_false_iff] at hn
        generalize hs1 : Sh.seq (p :: ps) cs = s1 at h1
        cases h1 <;> simp at hs1
        rename_i p' ps' cs1 ds1 k1 k2
        obtain ⟨⟨rfl, rfl⟩, hcs⟩ := hs1
        generalize hs2 : Sh.seq (q :: qs) ds = s2 at h2
        cases h2 <;> simp at hs2
        rename_i q' qs' cs2 ds2 l1 l2
        obtain ⟨⟨rfl, rfl⟩, hds⟩ := hs2
        rw [hcs] at e1
        rw [hds] at e2
        have m1 := k1.length
        have m2 := l1.length
        have hsz : p.csize = q.csize := by rw [a2] at b2; injection b2
        obtain ⟨va, r1, r2⟩ := part_run (P := P) (T := f.type) (cs := xs) (off := off) (a := p) (g := g) (w := w) (by rw [e1, ← m1, List.take_left]; exact k1) a2 a3
        obtain ⟨vb, s1, s2⟩ := part_run (P := P) (T := f.type) (cs := ys) (off := off) (a := q) (g := g) (w := w) (by rw [e2, ← m2, List.take_left]; exact l1) b2 b3
        have hq := hC f.type p q va vb r2 s2 a4 b4
        have hname : f.name ≠ "_" := by simpa using hn.1
        simp only [Op.eqFields, hname, ne_eq, not_false_eq_true, if_true, Sem.run_bind, a1, r1, s1, hq, Result.andThen_ok, decide_true]
        by_cases e : p = q
        · rw [eqB_yes e]
          obtain ⟨r, t1, t2⟩ := eqFields_run hC fs ps qs (off + p.csize) ds1 ds2 k2 l2 (by rw [← List.drop_drop, e1, ← m1, List.drop_left]) (by rw [← List.drop_drop, e2, hsz, ← m2, List.drop_left]) hn.2 a5 (by rw [hsz]; exact b5)
          exact ⟨r, by simpa using t1, by rw [t2]; simp [e]⟩
        · rw [eqB_no e]
          exact ⟨false, by simp, by simp [e]⟩

theorem eq_run {g : G} {w : World} : ∀ (n : Nat) (T : TypeId) (a b : AV) (va vb : Value), V0 g w a va → V0 g w b vb → cmpOK P n T a → cmpOK P n T b → ∀ d, n ≤ d → (Op.equalIn d T va vb).run P w = .ok (eqB a b) w
  | 0, T, a, b, va, vb, _, _, h, _ => h.elim
  | n + 1, T, a, b, va, vb, ha, hb, h, k => by
    intro d hd
    obtain ⟨d, rfl⟩ : ∃ d', d = d' + 1 := ⟨d - 1, by omega⟩
    unfold cmpOK at h
    split at h
    · rename_i kk x
      unfold cmpOK at k
      split at k
      · rename_i kk' y
        rw [h] at k; injection k with k; subst k
        obtain ⟨rfl, _⟩ := V1_val (.of_V0 ha)
        obtain ⟨rfl, _⟩ := V1_val (.of_V0 hb)
        rw [run_equalIn_int w d T _ _ x y (tint_und h)]
        by_cases e : x = y
        · subst e; rw [eqB_yes rfl]; simp
        · rw [eqB_no (fun h => e (by injection h with h; injection h))]; simp [e]
      · have := tbool_und k; simp [tint_und h] at this
      · have := tstr_und k; simp [tint_und h] at this
      · obtain ⟨_, k⟩ := k
        split at k
        · rename_i fs hfs; unfold tcmp at hfs; rw [tint_und h] at hfs; cases hfs
        · exact k.elim
      · split at k
        · rename_i hT; have := tarr_und hT; simp [tint_und h] at this
        · exact k.elim
      · exact k.elim
    · rename_i x
      unfold cmpOK at k
      split at k
      · have := tint_und k; simp [tbool_und h] at this
      · rename_i y
        obtain ⟨rfl, _⟩ := V1_val (.of_V0 ha)
        obtain ⟨rfl, _⟩ := V1_val (.of_V0 hb)
        rw [run_equalIn_bool w d T x y (tbool_und h)]
        by_cases e : x = y
        · subst e; rw [eqB_yes rfl]; simp
        · rw [eqB_no (fun h => e (by injection h with h; injection h))]; simp [e]
      · have := tstr_und k; simp [tbool_und h] at this
      · obtain ⟨_, k⟩ := k
        split at k
        · rename_i fs hfs; unfold tcmp at hfs; rw [tbool_und h] at hfs; cases hfs
        · exact k.elim
      · split at k
        · rename_i hT; have := tarr_und hT; simp [tbool_und h] at this
        · exact k.elim
      · exact k.elim
    · rename_i x
      unfold cmpOK at k
      split at k
      · have := tint_und k; simp [tstr_und h] at this
      · have := tbool_und k; simp [tstr_und h] at this
      · rename_i y
        obtain ⟨rfl, _⟩ := V1_val (.of_V0 ha)
        obtain ⟨rfl, _⟩ := V1_val (.of_V0 hb)
        have h1 : (Op.equalIn (d + 1) T (.string x) (.string y)).run P w = .ok (x == y) w := by simp [Op.equalIn, run_underlying (tstr_und h)]
        rw [h1, bytes_beq]
        by_cases e : x = y
        · subst e; rw [eqB_yes rfl]; simp
        · rw [eqB_no (fun h => e (by injection h with h; injection h))]; simp [e]
      · obtain ⟨_, k⟩ := k
        split at k
        · rename_i fs hfs; unfold tcmp at hfs; rw [tstr_und h] at hfs; cases hfs
        · exact k.elim
      · split at k
        · rename_i hT; have := tarr_und hT; simp [tstr_und h] at this
        · exact k.elim
      · exact k.elim
    · rename_i m ps
      obtain ⟨h0, h⟩ := h
      split at h
      · rename_i fs hfs
        have hfs0 := hfs
        unfold tcmp at hfs
        split at hfs
        · rename_i fl hu
          split at hfs
          · cases hfs
          · rename_i hcond
            injection hfs with hfs
            subst hfs
            simp only [Bool.or_eq_true, not_or, Bool.not_eq_true] at hcond
            unfold cmpOK at k
            split at k
            · have := tint_und k; simp [hu] at this
            · have := tbool_und k; simp [hu] at this
            · have := tstr_und k; simp [hu] at this
            · rename_i m' qs
              obtain ⟨k0, k⟩ := k
              rw [hfs0] at k
              rw [h0] at k0; injection k0 with k0; subst k0
              obtain ⟨xs, rfl, hx⟩ := V0.agg ha rfl
              obtain ⟨ys, rfl, hy⟩ := V0.agg hb rfl
              have hf : P.fieldsOf T = fl := by simp [Program.fieldsOf, hu]
              rw [run_equalIn_agg w d T xs ys (by rw [hf]; exact hu) hcond.1, hf]
              have hx' : R g w (.seq ps xs.toList) := by cases hx; assumption
              have hy' : R g w (.seq qs ys.toList) := by cases hy; assumption
              obtain ⟨r, t1, t2⟩ := eqFields_run (C := cmpOK P n) (d := d) (xs := xs) (ys := ys) (fun T a b va vb q1 q2 q3 q4 => eq_run n T a b va vb q1 q2 q3 q4 d (by omega)) fl.toList ps qs 0 _ _ hx' hy' (by simp) (by simp) hcond.2 h k
              rw [t1]
              congr 1
              by_cases e : ps = qs
              · rw [t2.2 e, eqB_yes (by rw [e])]
              · have : r = false := by cases r with
                  | false => rfl
                  | true => exact absurd (t2.1 rfl) e
                rw [this, eqB_no (fun h => e (by injection h))]
            · split at k
              · rename_i hT; have := tarr_und hT; simp [hu] at this
              · exact k.elim
            · exact k.elim
        · cases hfs
      · exact h.elim
    · rename_i sz ps
      split at h
      · rename_i len e hT
        obtain ⟨h1, h2, h3⟩ := h
        split at h3
        · rename_i bb hag
          have hu := tarr_und hT
          unfold cmpOK at k
          split at k
          · have := tint_und k; simp [hu] at this
          · have := tbool_und k; simp [hu] at this
          · have := tstr_und k; simp [hu] at this
          · obtain ⟨_, k⟩ := k
            split at k
            · rename_i fs hfs; unfold tcmp at hfs; rw [hu] at hfs; cases hfs
            · exact k.elim
          · rename_i sz' qs
            rw [hT] at k
            simp only [hag] at k
            obtain ⟨k1, k2, k3⟩ := k
            rw [h2] at k2; injection k2 with k2; subst k2
            obtain ⟨xs, rfl, hx⟩ := V0.agg ha rfl
            obtain ⟨ys, rfl, hy⟩ := V0.agg hb rfl
            have hx' : R g w (.useq sz ps xs.toList) := by cases hx; assumption
            have hy' : R g w (.useq sz qs ys.toList) := by cases hy; assumption
            have hl : (List.zipWith eqB ps qs).length = len := by simp [h1, k1]
            rw [run_equalIn_array w d T e len sz xs ys hu h2 (List.zipWith eqB ps qs) hl (fun i v hv => by
              rw [List.getElem?_zipWith] at hv
              cases hp : ps[i]? with
              | none => simp [hp] at hv
              | some p =>
                cases hq : qs[i]? with
                | none => simp [hp, hq] at hv
                | some q =>
                  simp only [hp, hq, Option.some.injEq] at hv
                  subst hv
                  have i1 : i < ps.length := by
                    rcases Nat.lt_or_ge i ps.length with h' | h'
                    · exact h'
                    · rw [List.getElem?_eq_none h'] at hp; cases hp
                  have i2 : i < qs.length := by
                    rcases Nat.lt_or_ge i qs.length with h' | h'
                    · exact h'
                    · rw [List.getElem?_eq_none h'] at hq; cases hq
                  obtain ⟨p1, p2, p3⟩ := h3 p (List.mem_of_getElem? hp)
                  obtain ⟨q1, q2, q3⟩ := k3 q (List.mem_of_getElem? hq)
                  have gp : ps.getD i .undef = p := by rw [List.getD_eq_getElem?_getD, hp]; rfl
                  have gq : qs.getD i .undef = q := by rw [List.getD_eq_getElem?_getD, hq]; rfl
                  obtain ⟨u1, u2, u3⟩ := hx'.useq_part i1
                  obtain ⟨v1, v2, v3⟩ := hy'.useq_part i2
                  rw [gp] at u1 u2
                  rw [gq] at v1 v2
                  obtain ⟨va, r1, r2⟩ := part_run (P := P) (T := e) (cs := xs) (off := i * sz) (a := p) (g := g) (w := w) (by rw [p1]; exact u1) (by rw [p1]; exact h2) (by rw [p2]; exact hag)
                  obtain ⟨vb, s1, s2⟩ := part_run (P := P) (T := e) (cs := ys) (off := i * sz) (a := q) (g := g) (w := w) (by rw [q1]; exact v1) (by rw [q1]; exact h2) (by rw [q2]; exact hag)
                  exact ⟨va, vb, r1, s1, eq_run n e p q va vb r2 s2 p3 q3 d (by omega)⟩)]
            congr 1
            have hz : ∀ (l m : List AV), l.length = m.length → ((List.zipWith eqB l m).all id = true ↔ l = m) := by
              intro l
              induction l with
              | nil => intro m hm; cases m <;> simp at hm ⊢
              | cons x l ih =>
                intro m hm
                cases m with
                | nil => simp at hm
                | cons y m =>
                  have hm' : l.length = m.length := by simpa using hm
                  simp only [List.zipWith_cons_cons, List.all_cons, Bool.and_eq_true, ih m hm', id, eqB_true, List.cons.injEq]
            by_cases e' : ps = qs
            · rw [(hz ps qs (by omega)).2 e', eqB_yes (by rw [e'])]
            · have : (List.zipWith eqB ps qs).all id = false := by
                cases hh : (List.zipWith eqB ps qs).all id with
                | false => rfl
                | true => exact absurd ((hz ps qs (by omega)).1 hh) e'
              rw [this, eqB_no (fun h => e' (by injection h))]
          · exact k.elim
        · exact h3.elim
      · exact h.elim
    · exact h.elim

end
end Go.AL

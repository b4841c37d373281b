/-
  The layer AL, part 6c: equality of plain values, strings, slices cut, made, copied.
-/
import Derived.Test.YtaghcjbpjnpkbaaGreatAL6b
import Derived.Laws.StructEq
import Derived.Laws.MakeOwn
import Derived.Laws.BytesArg
import Derived.Laws.IdiomStrings
import Derived.Laws.Slices
set_option linter.unusedSimpArgs false
set_option linter.unusedVariables false
namespace Go.AL
open Go

/-! ### equality -/
def tcmp (P : Program) (T : TypeId) : Option (List (Nat × TypeId)) :=
  match P.underlying T with
  | some (.struct fs) => if P.stoodInHeld T || fs.toList.any (fun f => f.name == "_") then none else some (fs.toList.map fun f => (f.offset, f.type))
  | _ => none
def teq (P : Program) (T : TypeId) : Bool := !P.eqGuardType P.depth T
def tbool (P : Program) (T : TypeId) : Option Unit :=
  match P.underlying T with
  | some .bool => some ()
  | _ => none
theorem tbool_und {P : Program} {T : TypeId} (h : tbool P T = some ()) : P.underlying T = some .bool := by
  unfold tbool at h; split at h <;> simp_all

def cmpParts (P : Program) (C : TypeId → AV → Prop) : List AV → List (Nat × TypeId) → Nat → Prop
  | [], [], _ => True
  | p :: ps, (o, t) :: fs, off => o = off ∧ tsz P t = some p.csize ∧ tagg P t = some p.isAgg ∧ C t p ∧ cmpParts P C ps fs (off + p.csize)
  | _, _, _ => False

def cmpOK (P : Program) : Nat → TypeId → AV → Prop
  | 0, _, _ => False
  | n + 1, T, a =>
    match a with
    | .val (.int k _) => tint P T = some k
    | .val (.bool _) => tbool P T = some ()
    | .val (.string _) => tstr P T = some ()
    | .agg m ps => tsz P T = some m ∧ (match tcmp P T with
      | some fs => cmpParts P (cmpOK P n) ps fs 0
      | none => False)
    | .vec sz ps => match tarr P T with
      | some (len, e) => ps.length = len ∧ tsz P e = some sz ∧ (match tagg P e with
        | some b => ∀ p ∈ ps, p.csize = sz ∧ p.isAgg = b ∧ cmpOK P n e p
        | none => False)
      | none => False
    | _ => False

noncomputable def eqB (a b : AV) : Bool := @decide (a = b) (Classical.propDecidable _)
theorem eqB_true {a b : AV} : (eqB a b = true) = (a = b) := by simp [eqB]
theorem eqB_false {a b : AV} : (eqB a b = false) = ¬ (a = b) := by simp [eqB]
theorem eqB_yes {a b : AV} (h : a = b) : eqB a b = true := by rw [eqB_true]; exact h
theorem eqB_no {a b : AV} (h : ¬ a = b) : eqB a b = false := by rw [eqB_false]; exact h

theorem bytes_beq (a b : ByteArray) : (a == b) = decide (a = b) := by
  rw [beq_toListBytes, ByteArray.toList_eq, ByteArray.toList_eq]
  obtain ⟨⟨x⟩⟩ := a
  obtain ⟨⟨y⟩⟩ := b
  by_cases h : x = y
  · subst h; simp
  · have : ¬ ((⟨⟨x⟩⟩ : ByteArray) = ⟨⟨y⟩⟩) := fun e => h (by injection e with e; injection e)
    simp [h, this]

section
variable {P : Program}

theorem run_equalIn_array (w : World) (d : Nat) (t e : TypeId) (len n : Nat) (xs ys : Array Value) (ht : P.underlying t = some (.array len e)) (hs : tsz P e = some n) (b : List Bool) (hb : b.length = len)
    (h : ∀ i v, b[i]? = some v → ∃ x y, (part e xs (i * n)).run P w = .ok x w ∧ (part e ys (i * n)).run P w = .ok y w ∧ (Op.equalIn d e x y).run P w = .ok v w) :
    (Op.equalIn (d + 1) t (.agg xs) (.agg ys)).run P w = .ok (b.all id) w := by
  simp only [Op.equalIn, Sem.run_bind, run_underlying ht, Result.andThen_ok, tsz_run hs]
  simp only [Std.Legacy.Range.forIn_eq_forIn_range', Std.Legacy.Range.size, Nat.sub_zero, Nat.add_sub_cancel, Nat.div_one]
  have key : ∀ (b : List Bool) (k : Nat), (∀ i v, b[i]? = some v → ∃ x y, (part e xs ((k + i) * n)).run P w = .ok x w ∧ (part e ys ((k + i) * n)).run P w = .ok y w ∧ (Op.equalIn d e x y).run P w = .ok v w) →
      ((forIn (List.range' k b.length) (none, PUnit.unit) fun i (r : Option Bool × PUnit) => (do
        let a ← part e xs (i * n)
        let c ← part e ys (i * n)
        let r ← Op.equalIn d e a c
        if (!r) = true then Pure.pure (ForInStep.done (some false, PUnit.unit)) else Pure.pure (ForInStep.yield (none, PUnit.unit)) : Sem (ForInStep (Option Bool × PUnit)))).run P w) = .ok (if b.all id then (none, PUnit.unit) else (some false, PUnit.unit)) w := by
    intro b
    induction b with
    | nil => intro k _; simp
    | cons v b ih =>
      intro k hk
      obtain ⟨x, y, h1, h2, h3⟩ := hk 0 v rfl
      simp only [Nat.add_zero] at h1 h2
      simp only [List.length_cons, List.range'_succ, List.forIn_cons, Sem.run_bind, h1, h2, h3, Result.andThen_ok]
      cases v with
      | false => simp
      | true =>
        simp only [Bool.not_true, Bool.false_eq_true, if_false, Sem.run_pure, Result.andThen_ok]
        rw [ih (k + 1) (fun i v hv => by
          have := hk (i + 1) v (by simpa using hv)
          rw [show k + 1 + i = k + (i + 1) by omega]; exact this)]
        simp
  have h0 := key b 0 (by simpa using h)
  rw [hb] at h0
  have h1 : ((forIn (List.range' 0 len) ((none : Option Bool), ()) fun i (r : Option Bool × Unit) => (do
        let a ← part e xs (i * n)
        let c ← part e ys (i * n)
        let r ← Op.equalIn d e a c
        if (!r) = true then Pure.pure (ForInStep.done (some false, ())) else Pure.pure (ForInStep.yield (none, ())) : Sem (ForInStep (Option Bool × Unit)))).run P w) = .ok (if b.all id then (none, ()) else (some false, ())) w := h0
  refine Eq.trans (congrArg (fun r => Result.andThen r _) h1) ?_
  cases hb' : b.all id <;> simp [hb']

theorem eqFields_run {g : G} {w : World} {C : TypeId → AV → Prop} {d : Nat} (hC : ∀ T a b va vb, V0 g w a va → V0 g w b vb → C T a → C T b → (Op.equalIn d T va vb).run P w = .ok (eqB a b) w) {xs ys : Array Value} :
    ∀ (fs : List Field) (ps qs : List AV) (off : Nat) (cs ds : List Value), R g w (.seq ps cs) → R g w (.seq qs ds) → xs.toList.drop off = cs → ys.toList.drop off = ds → fs.any (fun f => f.name == "_") = false →
      cmpParts P C ps (fs.map fun f => (f.offset, f.type)) off → cmpParts P C qs (fs.map fun f => (f.offset, f.type)) off →
      ∃ r : Bool, (Op.eqFields d xs ys fs).run P w = .ok r w ∧ (r = true ↔ ps = qs)
  | [], ps, qs, off, cs, ds, h1, h2, _, _, _, c1, c2 => by
    cases ps with
    | cons p ps => exact c1.elim
    | nil => cases qs with
      | cons q qs => exact c2.elim
      | nil => exact ⟨true, by simp [Op.eqFields], by simp⟩
  | f :: fs, ps, qs, off, cs, ds, h1, h2, e1, e2, hn, c1, c2 => by
    cases ps with
    | nil => exact c1.elim
    | cons p ps => cases qs with
      | nil => exact c2.elim
      | cons q qs =>
        obtain ⟨a1, a2, a3, a4, a5⟩ := c1
        obtain ⟨b1, b2, b3, b4, b5⟩ := c2
        simp only [List.any_cons, Bool.or_eq_false_iff] at hn
        generalize hs1 : Sh.seq (p :: ps) cs = s1 at h1
        cases h1 <;> simp at hs1
        rename_i p' ps' cs1 ds1 k1 k2
        obtain ⟨⟨rfl, rfl⟩, hcs⟩ := hs1
        generalize hs2 : Sh.seq (q :: qs) ds = s2 at h2
        cases h2 <;> simp at hs2
        rename_i q' qs' cs2 ds2 l1 l2
        obtain ⟨⟨rfl, rfl⟩, hds⟩ := hs2
        rw [hcs] at e1
        rw [hds] at e2
        have m1 := k1.length
        have m2 := l1.length
        have hsz : p.csize = q.csize := by rw [a2] at b2; injection b2
        obtain ⟨va, r1, r2⟩ := part_run (P := P) (T := f.type) (cs := xs) (off := off) (a := p) (g := g) (w := w) (by rw [e1, ← m1, List.take_left]; exact k1) a2 a3
        obtain ⟨vb, s1, s2⟩ := part_run (P := P) (T := f.type) (cs := ys) (off := off) (a := q) (g := g) (w := w) (by rw [e2, ← m2, List.take_left]; exact l1) b2 b3
        have hq := hC f.type p q va vb r2 s2 a4 b4
        have hname : f.name ≠ "_" := by simpa using hn.1
        simp only [Op.eqFields, hname, ne_eq, not_false_eq_true, if_true, Sem.run_bind, a1, r1, s1, hq, Result.andThen_ok, decide_true]
        by_cases e : p = q
        · rw [eqB_yes e]
          obtain ⟨r, t1, t2⟩ := eqFields_run hC fs ps qs (off + p.csize) ds1 ds2 k2 l2 (by rw [← List.drop_drop, e1, ← m1, List.drop_left]) (by rw [← List.drop_drop, e2, hsz, ← m2, List.drop_left]) hn.2 a5 (by rw [hsz]; exact b5)
          exact ⟨r, by simpa using t1, by rw [t2]; simp [e]⟩
        · rw [eqB_no e]
          exact ⟨false, by simp, by simp [e]⟩

theorem eq_run {g : G} {w : World} : ∀ (n : Nat) (T : TypeId) (a b : AV) (va vb : Value), V0 g w a va → V0 g w b vb → cmpOK P n T a → cmpOK P n T b → ∀ d, n ≤ d → (Op.equalIn d T va vb).run P w = .ok (eqB a b) w
  | 0, T, a, b, va, vb, _, _, h, _ => h.elim
  | n + 1, T, a, b, va, vb, ha, hb, h, k => by
    intro d hd
    obtain ⟨d, rfl⟩ : ∃ d', d = d' + 1 := ⟨d - 1, by omega⟩
    unfold cmpOK at h
    split at h
    · rename_i kk x
      unfold cmpOK at k
      split at k
      · rename_i kk' y
        rw [h] at k; injection k with k; subst k
        obtain ⟨rfl, _⟩ := V1_val (.of_V0 ha)
        obtain ⟨rfl, _⟩ := V1_val (.of_V0 hb)
        rw [run_equalIn_int w d T _ _ x y (tint_und h)]
        by_cases e : x = y
        · subst e; rw [eqB_yes rfl]; simp
        · rw [eqB_no (fun h => e (by injection h with h; injection h))]; simp [e]
      · have := tbool_und k; simp [tint_und h] at this
      · have := tstr_und k; simp [tint_und h] at this
      · obtain ⟨_, k⟩ := k
        split at k
        · rename_i fs hfs; unfold tcmp at hfs; rw [tint_und h] at hfs; cases hfs
        · exact k.elim
      · split at k
        · rename_i hT; have := tarr_und hT; simp [tint_und h] at this
        · exact k.elim
      · exact k.elim
    · rename_i x
      unfold cmpOK at k
      split at k
      · have := tint_und k; simp [tbool_und h] at this
      · rename_i y
        obtain ⟨rfl, _⟩ := V1_val (.of_V0 ha)
        obtain ⟨rfl, _⟩ := V1_val (.of_V0 hb)
        rw [run_equalIn_bool w d T x y (tbool_und h)]
        by_cases e : x = y
        · subst e; rw [eqB_yes rfl]; simp
        · rw [eqB_no (fun h => e (by injection h with h; injection h))]; simp [e]
      · have := tstr_und k; simp [tbool_und h] at this
      · obtain ⟨_, k⟩ := k
        split at k
        · rename_i fs hfs; unfold tcmp at hfs; rw [tbool_und h] at hfs; cases hfs
        · exact k.elim
      · split at k
        · rename_i hT; have := tarr_und hT; simp [tbool_und h] at this
        · exact k.elim
      · exact k.elim
    · rename_i x
      unfold cmpOK at k
      split at k
      · have := tint_und k; simp [tstr_und h] at this
      · have := tbool_und k; simp [tstr_und h] at this
      · rename_i y
        obtain ⟨rfl, _⟩ := V1_val (.of_V0 ha)
        obtain ⟨rfl, _⟩ := V1_val (.of_V0 hb)
        have h1 : (Op.equalIn (d + 1) T (.string x) (.string y)).run P w = .ok (x == y) w := by simp [Op.equalIn, run_underlying (tstr_und h)]
        rw [h1, bytes_beq]
        by_cases e : x = y
        · subst e; rw [eqB_yes rfl]; simp
        · rw [eqB_no (fun h => e (by injection h with h; injection h))]; simp [e]
      · obtain ⟨_, k⟩ := k
        split at k
        · rename_i fs hfs; unfold tcmp at hfs; rw [tstr_und h] at hfs; cases hfs
        · exact k.elim
      · split at k
        · rename_i hT; have := tarr_und hT; simp [tstr_und h] at this
        · exact k.elim
      · exact k.elim
    · rename_i m ps
      obtain ⟨h0, h⟩ := h
      split at h
      · rename_i fs hfs
        have hfs0 := hfs
        unfold tcmp at hfs
        split at hfs
        · rename_i fl hu
          split at hfs
          · cases hfs
          · rename_i hcond
            injection hfs with hfs
            subst hfs
            simp only [Bool.or_eq_true, not_or, Bool.not_eq_true] at hcond
            unfold cmpOK at k
            split at k
            · have := tint_und k; simp [hu] at this
            · have := tbool_und k; simp [hu] at this
            · have := tstr_und k; simp [hu] at this
            · rename_i m' qs
              obtain ⟨k0, k⟩ := k
              rw [hfs0] at k
              rw [h0] at k0; injection k0 with k0; subst k0
              obtain ⟨xs, rfl, hx⟩ := V0.agg ha rfl
              obtain ⟨ys, rfl, hy⟩ := V0.agg hb rfl
              have hf : P.fieldsOf T = fl := by simp [Program.fieldsOf, hu]
              rw [run_equalIn_agg w d T xs ys (by rw [hf]; exact hu) hcond.1, hf]
              have hx' : R g w (.seq ps xs.toList) := by cases hx; assumption
              have hy' : R g w (.seq qs ys.toList) := by cases hy; assumption
              obtain ⟨r, t1, t2⟩ := eqFields_run (C := cmpOK P n) (d := d) (xs := xs) (ys := ys) (fun T a b va vb q1 q2 q3 q4 => eq_run n T a b va vb q1 q2 q3 q4 d (by omega)) fl.toList ps qs 0 _ _ hx' hy' (by simp) (by simp) hcond.2 h k
              rw [t1]
              congr 1
              by_cases e : ps = qs
              · rw [t2.2 e, eqB_yes (by rw [e])]
              · have : r = false := by cases r with
                  | false => rfl
                  | true => exact absurd (t2.1 rfl) e
                rw [this, eqB_no (fun h => e (by injection h))]
            · split at k
              · rename_i hT; have := tarr_und hT; simp [hu] at this
              · exact k.elim
            · exact k.elim
        · cases hfs
      · exact h.elim
    · rename_i sz ps
      split at h
      · rename_i len e hT
        obtain ⟨h1, h2, h3⟩ := h
        split at h3
        · rename_i bb hag
          have hu := tarr_und hT
          unfold cmpOK at k
          split at k
          · have := tint_und k; simp [hu] at this
          · have := tbool_und k; simp [hu] at this
          · have := tstr_und k; simp [hu] at this
          · obtain ⟨_, k⟩ := k
            split at k
            · rename_i fs hfs; unfold tcmp at hfs; rw [hu] at hfs; cases hfs
            · exact k.elim
          · rename_i sz' qs
            rw [hT] at k
            simp only [hag] at k
            obtain ⟨k1, k2, k3⟩ := k
            rw [h2] at k2; injection k2 with k2; subst k2
            obtain ⟨xs, rfl, hx⟩ := V0.agg ha rfl
            obtain ⟨ys, rfl, hy⟩ := V0.agg hb rfl
            have hx' : R g w (.useq sz ps xs.toList) := by cases hx; assumption
            have hy' : R g w (.useq sz qs ys.toList) := by cases hy; assumption
            have hl : (List.zipWith eqB ps qs).length = len := by simp [h1, k1]
            rw [run_equalIn_array w d T e len sz xs ys hu h2 (List.zipWith eqB ps qs) hl (fun i v hv => by
              rw [List.getElem?_zipWith] at hv
              cases hp : ps[i]? with
              | none => simp [hp] at hv
              | some p =>
                cases hq : qs[i]? with
                | none => simp [hp, hq] at hv
                | some q =>
                  simp only [hp, hq, Option.some.injEq] at hv
                  subst hv
                  have i1 : i < ps.length := by
                    rcases Nat.lt_or_ge i ps.length with h' | h'
                    · exact h'
                    · rw [List.getElem?_eq_none h'] at hp; cases hp
                  have i2 : i < qs.length := by
                    rcases Nat.lt_or_ge i qs.length with h' | h'
                    · exact h'
                    · rw [List.getElem?_eq_none h'] at hq; cases hq
                  obtain ⟨p1, p2, p3⟩ := h3 p (List.mem_of_getElem? hp)
                  obtain ⟨q1, q2, q3⟩ := k3 q (List.mem_of_getElem? hq)
                  have gp : ps.getD i .undef = p := by rw [List.getD_eq_getElem?_getD, hp]; rfl
                  have gq : qs.getD i .undef = q := by rw [List.getD_eq_getElem?_getD, hq]; rfl
                  obtain ⟨u1, u2, u3⟩ := hx'.useq_part i1
                  obtain ⟨v1, v2, v3⟩ := hy'.useq_part i2
                  rw [gp] at u1 u2
                  rw [gq] at v1 v2
                  obtain ⟨va, r1, r2⟩ := part_run (P := P) (T := e) (cs := xs) (off := i * sz) (a := p) (g := g) (w := w) (by rw [p1]; exact u1) (by rw [p1]; exact h2) (by rw [p2]; exact hag)
                  obtain ⟨vb, s1, s2⟩ := part_run (P := P) (T := e) (cs := ys) (off := i * sz) (a := q) (g := g) (w := w) (by rw [q1]; exact v1) (by rw [q1]; exact h2) (by rw [q2]; exact hag)
                  exact ⟨va, vb, r1, s1, eq_run n e p q va vb r2 s2 p3 q3 d (by omega)⟩)]
            congr 1
            have hz : ∀ (l m : List AV), l.length = m.length → ((List.zipWith eqB l m).all id = true ↔ l = m) := by
              intro l
              induction l with
              | nil => intro m hm; cases m <;> simp at hm ⊢
              | cons x l ih =>
                intro m hm
                cases m with
                | nil => simp at hm
                | cons y m =>
                  have hm' : l.length = m.length := by simpa using hm
                  simp only [List.zipWith_cons_cons, List.all_cons, Bool.and_eq_true, ih m hm', id, eqB_true, List.cons.injEq]
            by_cases e' : ps = qs
            · rw [(hz ps qs (by omega)).2 e', eqB_yes (by rw [e'])]
            · have : (List.zipWith eqB ps qs).all id = false := by
                cases hh : (List.zipWith eqB ps qs).all id with
                | false => rfl
                | true => exact absurd ((hz ps qs (by omega)).1 hh) e'
              rw [this, eqB_no (fun h => e' (by injection h))]
          · exact k.elim
        · exact h3.elim
      · exact h.elim
    · exact h.elim

end
end Go.AL

set_option linter.unusedSimpArgs false
set_option linter.unusedVariables false
namespace Go.AL
open Go

def u8 (b : UInt8) : AV := .val (.int .u8 b.toNat)
def u8s (bs : List UInt8) : List AV := bs.map u8
def byteOf : AV → UInt8
  | .val (.int _ n) => UInt8.ofNat n.toNat
  | _ => 0
def isByte : AV → Prop
  | .val (.int .u8 _) => True
  | _ => False
def bstr (bs : List UInt8) : ByteArray := ⟨bs.toArray⟩

theorem byteOf_u8 (b : UInt8) : byteOf (u8 b) = b := by simp [byteOf, u8]
theorem bytesOf_u8s (bs : List UInt8) : (u8s bs).map byteOf = bs := by
  simp [u8s, List.map_map, Function.comp_def, byteOf_u8]
theorem isByte_u8s (bs : List UInt8) : ∀ a ∈ u8s bs, isByte a := by
  intro a ha
  obtain ⟨b, _, rfl⟩ := List.mem_map.1 ha
  trivial
theorem u8s_length (bs : List UInt8) : (u8s bs).length = bs.length := by simp [u8s]
theorem u8s_append (a b : List UInt8) : u8s a ++ u8s b = u8s (a ++ b) := by simp [u8s]
section
variable {P : Program} {o : Oper} {env : Env} {H : Heap}

theorem op_eqAV {T U : TypeId} {x y : Operand} {neg : Bool} (ho : o.op = .binOp (if neg then .neq else .eql) T x y U) (hx : (evA env x).isAgg = true) (hy : (evA env y).isAgg = true) :
    OpOK P o env H ⟨teq P T = true ∧ cmpOK P 8 T (evA env x) ∧ cmpOK P 8 T (evA env y), .val (.bool (if neg then !eqB (evA env x) (evA env y) else eqB (evA env x) (evA env y))), [], [], []⟩ := by
  refine .pure fun ρ g w hop _ hvc => ?_
  obtain ⟨v1, v2, v3⟩ := hvc
  have h1 := hop x (by simp [Op.operands, ho])
  have h2 := hop y (by simp [Op.operands, ho])
  obtain ⟨xs, hxs, hxr⟩ := V1_agg h1 hx
  obtain ⟨ys, hys, hyr⟩ := V1_agg h2 hy
  have he := eq_run (P := P) 8 T _ _ _ _ (V0.of_agg hxr hx) (V0.of_agg hyr hy) v2 v3 10000 (by omega)
  have hm : P.eqGuardType P.depth T = false := by simpa [teq] using v1
  cases neg with
  | false =>
    refine ⟨_, ?_, V1_mk rfl⟩
    simp only [Bool.false_eq_true, if_false] at ho ⊢
    simp only [execOp, ho, hxs, hys, Sem.run_bind, run_eqGuard_agg w _ T x y xs ys hm, Result.andThen_ok, run_eql_struct w T xs ys, he, Sem.run_pure]
  | true =>
    refine ⟨_, ?_, V1_mk rfl⟩
    simp only [if_true] at ho ⊢
    simp only [execOp, ho, hxs, hys, Sem.run_bind, run_eqGuard_agg w _ T x y xs ys hm, Result.andThen_ok, run_neq_struct w T xs ys, he, Sem.run_pure]

theorem op_eqBool {T U : TypeId} {x y : Operand} {a b neg : Bool} (ho : o.op = .binOp (if neg then .neq else .eql) T x y U) (hx : evA env x = .val (.bool a)) (hy : evA env y = .val (.bool b)) :
    OpOK P o env H ⟨tbool P T = some (), .val (.bool (if neg then !(a == b) else a == b)), [], [], []⟩ := by
  refine .pure fun ρ g w hop _ hvc => ?_
  have h1 := hop x (by simp [Op.operands, ho])
  have h2 := hop y (by simp [Op.operands, ho])
  rw [hx] at h1; rw [hy] at h2
  obtain ⟨h5, _⟩ := V1_val h1
  obtain ⟨h6, _⟩ := V1_val h2
  have hg : ∀ op : BinOp, (eqGuard op T x y (.bool a) (.bool b)).run P w = .ok () w := by intro op; cases op <;> simp [eqGuard]
  cases neg with
  | false => exact ⟨_, by simp only [Bool.false_eq_true, if_false] at ho ⊢; simp only [execOp, ho, h5, h6, Sem.run_bind, hg, Result.andThen_ok, run_eql_bool w T a b (tbool_und hvc), Sem.run_pure], V1_mk rfl⟩
  | true => exact ⟨_, by simp only [if_true] at ho ⊢; simp only [execOp, ho, h5, h6, Sem.run_bind, hg, Result.andThen_ok, run_neq_bool w T a b (tbool_und hvc), Sem.run_pure], V1_mk rfl⟩

def strOp (op : BinOp) (a b : ByteArray) : Option (Prop × Value) :=
  match op with
  | .eql => some (True, .bool (decide (a = b)))
  | .neq => some (True, .bool (!decide (a = b)))
  | .add => some (a.size + b.size < 2 ^ 62, .string (a ++ b))
  | _ => none

theorem toList_beq (a b : ByteArray) : (a.toList == b.toList) = decide (a = b) := by rw [← beq_toListBytes, bytes_beq]

theorem op_str {op : BinOp} {T U : TypeId} {x y : Operand} {a b : ByteArray} {vc : Prop} {r : Value} (ho : o.op = .binOp op T x y U) (hx : evA env x = .val (.string a)) (hy : evA env y = .val (.string b)) (hr : strOp op a b = some (vc, r)) :
    OpOK P o env H ⟨vc, .val r, [], [], []⟩ := by
  refine .pure fun ρ g w hop _ hvc => ?_
  have h1 := hop x (by simp [Op.operands, ho])
  have h2 := hop y (by simp [Op.operands, ho])
  rw [hx] at h1; rw [hy] at h2
  obtain ⟨h5, _⟩ := V1_val h1
  obtain ⟨h6, _⟩ := V1_val h2
  have hg : (eqGuard op T x y (.string a) (.string b)).run P w = .ok () w := by cases op <;> simp [eqGuard]
  refine ⟨r, ?_, ?_⟩
  · simp only [execOp, ho, h5, h6, Sem.run_bind, hg, Result.andThen_ok]
    cases op <;> simp only [strOp, Option.some.injEq, Prod.mk.injEq, reduceCtorEq] at hr <;> obtain ⟨rfl, rfl⟩ := hr <;> simp [binOp, Op.stringOp, toList_beq]
    omega
  · cases op <;> simp only [strOp, Option.some.injEq, Prod.mk.injEq, reduceCtorEq] at hr <;> obtain ⟨rfl, rfl⟩ := hr <;> exact V1_mk rfl

/-! ### slices cut -/
def bndA (env : Env) (x : Option Operand) (d : Int) : Option Int :=
  match x with
  | none => some d
  | some y => match evA env y with
    | .val (.int _ i) => some i
    | _ => none

def Bnd (v : Option Value) (d i : Int) : Prop :=
  match v with
  | none => i = d
  | some u => ∃ k, u = .int k i

theorem bndA_ok {g : G} {w : World} {ρ : Operand → Value} {x : Option Operand} {d i : Int} (h : bndA env x d = some i) (hop : ∀ y, x = some y → V1 g w (evA env y) (ρ y)) : Bnd (x.map ρ) d i := by
  unfold bndA at h
  split at h
  · injection h with h; exact h.symm
  · rename_i y
    split at h
    · rename_i k n hy
      injection h with h; subst h
      have := hop y rfl
      rw [hy] at this
      exact ⟨k, (V1_val this).1⟩
    · cases h

theorem bounds_run {w : World} {isSlice : Bool} {len cap : Nat} {lo hi mx : Option Value} {l h m : Int} (h1 : Bnd lo 0 l) (h2 : Bnd hi len h) (h3 : Bnd mx cap m) (hm : mx.isSome = true → hi.isSome = true) (a1 : 0 ≤ l) (a2 : l ≤ h) (a3 : h ≤ m) (a4 : m ≤ cap) :
    (Instr.sliceBounds isSlice len cap lo hi mx).run P w = .ok (l.toNat, h.toNat, m.toNat) w := by
  have eh : (h.toNat : Int) = h := Int.toNat_of_nonneg (by omega)
  have em : (m.toNat : Int) = m := Int.toNat_of_nonneg (by omega)
  cases mx with
  | none =>
    have hm' : m = cap := h3
    subst hm'
    cases hi with
    | none =>
      have hh : h = len := h2
      subst hh
      cases lo with
      | none =>
        have hl : l = 0 := h1
        subst hl
        simp [Instr.sliceBounds]
      | some u =>
        obtain ⟨k, rfl⟩ := h1
        simp [Instr.sliceBounds, run_sliceBound, a1, a2]
    | some v =>
      obtain ⟨k, rfl⟩ := h2
      cases lo with
      | none =>
        have hl : l = 0 := h1
        subst hl
        simp [Instr.sliceBounds, run_sliceBound, a2, a3]
      | some u =>
        obtain ⟨k, rfl⟩ := h1
        simp [Instr.sliceBounds, run_sliceBound, a1, a2, a3, eh, show 0 ≤ h by omega]
  | some z =>
    obtain ⟨k, rfl⟩ := h3
    cases hi with
    | none => simp at hm
    | some v =>
      obtain ⟨k, rfl⟩ := h2
      cases lo with
      | none =>
        have hl : l = 0 := h1
        subst hl
        simp [Instr.sliceBounds, run_sliceBound, a2, a3, a4, em, show 0 ≤ m by omega]
      | some u =>
        obtain ⟨k, rfl⟩ := h1
        simp [Instr.sliceBounds, run_sliceBound, a1, a2, a3, a4, em, eh, show 0 ≤ m by omega, show 0 ≤ h by omega]

def slTok (tok : Nat) (lo hi mx : Option Operand) (h m : Int) : Nat :=
  match mx with
  | some _ => if h = m then 1 else 0
  | none => match hi with
    | some _ => 0
    | none => match lo with
      | some _ => if tok = 1 then 1 else 0
      | none => tok

theorem slice_ops {T : TypeId} {x : Operand} {lo hi mx : Option Operand} (ho : o.op = .slice T x lo hi mx) : x ∈ o.op.operands ∧ (∀ y, lo = some y → y ∈ o.op.operands) ∧ (∀ y, hi = some y → y ∈ o.op.operands) ∧ (∀ y, mx = some y → y ∈ o.op.operands) := by
  refine ⟨by simp [Op.operands, ho], fun y hy => ?_, fun y hy => ?_, fun y hy => ?_⟩ <;> subst hy <;> simp [Op.operands, ho]

theorem op_slice_sl {T e : TypeId} {x : Operand} {lo hi mx : Option Operand} {sz size tok : Nat} {L : List AV} {l h m : Int} (ho : o.op = .slice T x lo hi mx) (hx : evA env x = .sl sz L tok) (hT : tsl P T = some e) (hs : tsz P e = some size)
    (hl : bndA env lo 0 = some l) (hh : bndA env hi L.length = some h) (hm : bndA env mx L.length = some m) (hmh : mx.isSome = true → hi.isSome = true) :
    OpOK P o env H ⟨0 ≤ l ∧ l ≤ h ∧ h ≤ m ∧ m ≤ L.length ∧ (sz = size ∨ L = []), .sl sz ((L.take h.toNat).drop l.toNat) (slTok tok lo hi mx h m), [], [], []⟩ := by
  refine .pure fun ρ g w hop _ hvc => ?_
  obtain ⟨v1, v2, v3, v4, v5⟩ := hvc
  obtain ⟨o1, o2, o3, o4⟩ := slice_ops ho
  have h1 := hop x o1
  rw [hx] at h1
  have b1 := bndA_ok hl (fun y hy => hop y (o2 y hy))
  have b2 := bndA_ok hh (fun y hy => hop y (o3 y hy))
  have b3 := bndA_ok hm (fun y hy => hop y (o4 y hy))
  have run : ∀ (base : Option Addr) (c : Nat), ρ x = .slice base L.length c → L.length ≤ c → ∃ m' : Nat, (execOp ρ o).run P w = .ok (.value (.slice (if m' = l.toNat then base else base.map (·.add (l.toNat * size))) (h.toNat - l.toNat) (m' - l.toNat))) w ∧ h.toNat ≤ m' ∧ (mx = none → m' = c) ∧ (mx ≠ none → m' = m.toNat) := by
    intro base c hv hc
    have hmm : ∃ m' : Int, Bnd (mx.map ρ) c m' ∧ h ≤ m' ∧ m' ≤ c ∧ (mx = none → m' = c) ∧ (mx ≠ none → m' = m) := by
      cases mx with
      | none => exact ⟨c, rfl, by omega, Int.le_refl _, fun _ => rfl, fun h => absurd rfl h⟩
      | some z => exact ⟨m, b3, v3, by omega, (fun h => by cases h), (fun _ => rfl)⟩
    obtain ⟨m', c1, c2, c3, c4, c5⟩ := hmm
    have hb := bounds_run (P := P) (w := w) (isSlice := true) b1 b2 c1 (by simpa using hmh) v1 v2 c2 c3
    refine ⟨m'.toNat, ?_, by omega, fun hn => by have := c4 hn; omega, fun hn => by have := c5 hn; omega⟩
    simp [execOp, ho, Instr.sliceAt, run_underlying (tsl_und hT), Instr.slice, hv, hb, tsz_run hs]
  have hlen : ((L.take h.toNat).drop l.toNat).length = h.toNat - l.toNat := by rw [List.length_drop, List.length_take, Nat.min_eq_left (by omega)]
  rcases V1_sl h1 with ⟨rfl, base, hv⟩ | ⟨b, q, c, hv, hc, hmem, htok⟩
  · obtain ⟨m', r1, r2, r3, r4⟩ := run base 0 hv (Nat.le_refl _)
    refine ⟨_, r1, ?_⟩
    have e1 : h.toNat = 0 := by simp at v4; omega
    have e2 : l.toNat = 0 := by omega
    have e3 : m' = 0 := by
      by_cases hn : mx = none
      · exact r3 hn
      · have := r4 hn; simp at v4; omega
    simp only [e1, e2, e3, Nat.sub_zero, if_true, List.take_nil, List.drop_nil]
    exact V0.of_cell .slNil rfl
  · obtain ⟨m', r1, r2, r3, r4⟩ := run _ c hv hc
    refine ⟨_, r1, ?_⟩
    have hmc : m' ≤ c := by
      by_cases hn : mx = none
      · rw [r3 hn]; exact Nat.le_refl _
      · have := r4 hn; omega
    have hw : ∀ q' : Nat, R g w (.mem sz ((L.take h.toNat).drop l.toNat) b q') → TokOK g (slTok tok lo hi mx h m) b (h.toNat - l.toNat) (m' - l.toNat) (q' + (h.toNat - l.toNat) * sz) (q' + (m' - l.toNat) * sz) →
        V0 g w (.sl sz ((L.take h.toNat).drop l.toNat) (slTok tok lo hi mx h m)) (.slice (some ⟨b, q', none⟩) (h.toNat - l.toNat) (m' - l.toNat)) := by
      intro q' k1 k2
      have := R.sl (g := g) (w := w) (tok := slTok tok lo hi mx h m) (c := m' - l.toNat) (by rw [hlen]; omega) k1 (by rw [hlen]; exact k2)
      rw [hlen] at this
      exact V0.of_cell this rfl
    have hcut : R g w (.mem sz ((L.take h.toNat).drop l.toNat) b (q + l.toNat * sz)) := R.mem_drop l.toNat (R.mem_take h.toNat hmem) (by rw [List.length_take, Nat.min_eq_left (by omega)]; omega)
    have tk : ∀ q' : Nat, (lo = none → hi = none → mx = none → q' = q) → TokOK g (slTok tok lo hi mx h m) b (h.toNat - l.toNat) (m' - l.toNat) (q' + (h.toNat - l.toNat) * sz) (q' + (m' - l.toNat) * sz) := by
      intro q' hq'
      unfold slTok
      cases mx with
      | some z =>
        simp only
        split
        · show _ = _
          have := r4 (by simp); omega
        · trivial
      | none =>
        cases hi with
        | some z => trivial
        | none =>
          have hh' : h = L.length := by simpa [bndA] using hh.symm
          have hm' : m' = c := r3 rfl
          cases lo with
          | some z =>
            simp only
            split
            · rename_i ht
              rw [ht] at htok
              have : c = L.length := htok
              show _ = _
              omega
            · trivial
          | none =>
            have hl' : l = 0 := by simpa [bndA] using hl.symm
            have hq := hq' rfl rfl rfl
            subst hq hl' hm'
            have e : h.toNat = L.length := by omega
            simp only [Int.toNat_zero, Nat.sub_zero, e]
            exact htok
    split
    · rename_i em
      have e0 : (L.take h.toNat).drop l.toNat = [] := List.eq_nil_of_length_eq_zero (by rw [hlen]; omega)
      refine hw q (by rw [e0]; exact .memNil) (tk q (fun _ _ _ => rfl))
    · simp only [Option.map_some, add_none]
      rcases v5 with rfl | rfl
      · exact hw _ hcut (tk _ (fun hl0 _ _ => by
          subst hl0
          have hl' : l = 0 := by simpa [bndA] using hl.symm
          subst hl'; simp))
      · have e0 : (([] : List AV).take h.toNat).drop l.toNat = [] := by simp
        refine hw _ (by rw [e0]; exact .memNil) (tk _ (fun hl0 _ _ => by
          subst hl0
          have hl' : l = 0 := by simpa [bndA] using hl.symm
          subst hl'; simp))

theorem op_slice_str {T : TypeId} {x : Operand} {lo hi : Option Operand} {s : ByteArray} {l h : Int} (ho : o.op = .slice T x lo hi none) (hx : evA env x = .val (.string s)) (hT : tstr P T = some ())
    (hl : bndA env lo 0 = some l) (hh : bndA env hi s.size = some h) :
    OpOK P o env H ⟨0 ≤ l ∧ l ≤ h ∧ h ≤ s.size, .val (.string (s.extract l.toNat h.toNat)), [], [], []⟩ := by
  refine .pure fun ρ g w hop _ hvc => ?_
  obtain ⟨v1, v2, v3⟩ := hvc
  obtain ⟨o1, o2, o3, _⟩ := slice_ops ho
  have h1 := hop x o1
  rw [hx] at h1
  obtain ⟨hv, _⟩ := V1_val h1
  have b1 := bndA_ok hl (fun y hy => hop y (o2 y hy))
  have b2 := bndA_ok hh (fun y hy => hop y (o3 y hy))
  have hb := bounds_run (P := P) (w := w) (isSlice := false) (mx := none) (m := s.size) b1 b2 rfl (by simp) v1 v2 v3 (Int.le_refl _)
  exact ⟨_, by simp [execOp, ho, Instr.sliceAt, run_underlying (tstr_und hT), Instr.slice, hv, hb], V1_mk rfl⟩

theorem op_slice_cref {T e : TypeId} {x : Operand} {lo hi mx : Option Operand} {sz n : Nat} {ps : List AV} {l h m : Int} (ho : o.op = .slice T x lo hi mx) (hx : evA env x = .cref (.vec sz ps)) (hT : tarr P T = some (n, e)) (hs : tsz P e = some sz)
    (hl : bndA env lo 0 = some l) (hh : bndA env hi n = some h) (hm : bndA env mx n = some m) (hmh : mx.isSome = true → hi.isSome = true) :
    OpOK P o env H ⟨0 ≤ l ∧ l ≤ h ∧ h ≤ m ∧ m ≤ n ∧ ps.length = n, .sl sz ((ps.take h.toNat).drop l.toNat) (if h = m then 1 else 0), [], [], []⟩ := by
  refine .pure fun ρ g w hop _ hvc => ?_
  obtain ⟨v1, v2, v3, v4, v5⟩ := hvc
  obtain ⟨o1, o2, o3, o4⟩ := slice_ops ho
  have h1 := hop x o1
  rw [hx] at h1
  obtain ⟨b, q, cs, hv, hr, hrow, him⟩ := V1_cref h1
  have b1 := bndA_ok hl (fun y hy => hop y (o2 y hy))
  have b2 := bndA_ok hh (fun y hy => hop y (o3 y hy))
  have b3 := bndA_ok hm (fun y hy => hop y (o4 y hy))
  have hb := bounds_run (P := P) (w := w) (isSlice := false) b1 b2 b3 (by simpa using hmh) v1 v2 v3 v4
  have hu : R g w (.useq sz ps cs) := by cases hr; assumption
  have hmem := R.mem_of hu hrow him
  have hlen : ((ps.take h.toNat).drop l.toNat).length = h.toNat - l.toNat := by rw [List.length_drop, List.length_take, Nat.min_eq_left (by omega)]
  refine ⟨_, by simp [execOp, ho, Instr.sliceAt, Instr.sureAddr, run_underlying (tarr_und hT), hv, hb, tsz_run hs]; rfl, ?_⟩
  have tk : TokOK g (if h = m then 1 else 0) b (h.toNat - l.toNat) (m.toNat - l.toNat) 0 0 := by
    split
    · rename_i e; subst e; rfl
    · trivial
  have tk' : ∀ a c, TokOK g (if h = m then 1 else 0) b (h.toNat - l.toNat) (m.toNat - l.toNat) a c := by
    intro a c
    split
    · rename_i e; subst e; rfl
    · trivial
  by_cases em : m.toNat = l.toNat
  · rw [if_pos em]
    have e0 : (ps.take h.toNat).drop l.toNat = [] := List.eq_nil_of_length_eq_zero (by rw [hlen]; omega)
    have := R.sl (g := g) (w := w) (sz := sz) (tok := if h = m then 1 else 0) (L := (ps.take h.toNat).drop l.toNat) (b := b) (o := q) (c := m.toNat - l.toNat) (by rw [hlen]; omega) (by rw [e0]; exact .memNil) (by rw [hlen]; exact tk' _ _)
    rw [hlen] at this
    exact V0.of_cell this rfl
  · rw [if_neg em, add_none]
    have := R.sl (g := g) (w := w) (sz := sz) (tok := if h = m then 1 else 0) (L := (ps.take h.toNat).drop l.toNat) (b := b) (o := q + l.toNat * sz) (c := m.toNat - l.toNat) (by rw [hlen]; omega)
      (R.mem_drop l.toNat (R.mem_take h.toNat hmem) (by rw [List.length_take, Nat.min_eq_left (by omega)]; omega)) (by rw [hlen]; exact tk' _ _)
    rw [hlen] at this
    exact V0.of_cell this rfl

theorem op_slice_ref {T e : TypeId} {x : Operand} {lo hi mx : Option Operand} {sz n nn off : Nat} {path : List Nat} {l h m : Int} (ho : o.op = .slice T x lo hi mx) (hx : evA env x = .ref nn off path) (hT : tarr P T = some (n, e)) (hs : tsz P e = some sz)
    (hl : bndA env lo 0 = some l) (hh : bndA env hi n = some h) (hm : bndA env mx n = some m) (hmh : mx.isSome = true → hi.isSome = true) :
    OpOK P o env H ⟨0 ≤ l ∧ l ≤ h ∧ h ≤ m ∧ m ≤ n ∧ (l < m ∨ l = 0), .aref nn off path sz l.toNat (h.toNat - l.toNat), [], [], []⟩ := by
  refine .pure fun ρ g w hop _ hvc => ?_
  obtain ⟨v1, v2, v3, v4, v5⟩ := hvc
  obtain ⟨o1, o2, o3, o4⟩ := slice_ops ho
  have h1 := hop x o1
  rw [hx] at h1
  obtain ⟨b, z, hv, hu, hloc⟩ := V1_ref h1
  have b1 := bndA_ok hl (fun y hy => hop y (o2 y hy))
  have b2 := bndA_ok hh (fun y hy => hop y (o3 y hy))
  have b3 := bndA_ok hm (fun y hy => hop y (o4 y hy))
  have hb := bounds_run (P := P) (w := w) (isSlice := false) b1 b2 b3 (by simpa using hmh) v1 v2 v3 v4
  refine ⟨_, by simp [execOp, ho, Instr.sliceAt, Instr.sureAddr, run_underlying (tarr_und hT), hv, hb, tsz_run hs]; rfl, ?_⟩
  have e : (if m.toNat = l.toNat then (⟨b, off, none⟩ : Addr) else (⟨b, off, none⟩ : Addr).add (l.toNat * sz)) = ⟨b, off + l.toNat * sz, none⟩ := by
    split
    · have : l.toNat = 0 := by omega
      rw [this]; simp
    · rw [add_none]
  rw [e]
  exact V0.of_cell (.aref hu hloc (by omega)) rfl

theorem op_slice_aref {T e : TypeId} {x : Operand} {lo hi : Option Operand} {sz nn off lo0 len : Nat} {path : List Nat} {l h : Int} (ho : o.op = .slice T x lo hi none) (hx : evA env x = .aref nn off path sz lo0 len) (hT : tsl P T = some e) (hs : tsz P e = some sz)
    (hl : bndA env lo 0 = some l) (hh : bndA env hi len = some h) :
    OpOK P o env H ⟨0 ≤ l ∧ l ≤ h ∧ h ≤ len ∧ (l < len ∨ l = 0), .aref nn off path sz (lo0 + l.toNat) (h.toNat - l.toNat), [], [], []⟩ := by
  refine .pure fun ρ g w hop _ hvc => ?_
  obtain ⟨v1, v2, v3, v5⟩ := hvc
  obtain ⟨o1, o2, o3, o4⟩ := slice_ops ho
  have h1 := hop x o1
  rw [hx] at h1
  obtain ⟨b, z, c, hv, hu, hloc, hc⟩ := V1_aref h1
  have b1 := bndA_ok hl (fun y hy => hop y (o2 y hy))
  have b2 := bndA_ok hh (fun y hy => hop y (o3 y hy))
  have hb := bounds_run (P := P) (w := w) (isSlice := true) (len := len) (cap := c) (mx := none) (m := c) b1 b2 rfl (by simp) v1 v2 (by omega) (Int.le_refl _)
  refine ⟨_, by simp [execOp, ho, Instr.sliceAt, Instr.slice, run_underlying (tsl_und hT), hv, hb, tsz_run hs]; rfl, ?_⟩
  have e : (if c = l.toNat then some (⟨b, off + lo0 * sz, none⟩ : Addr) else some ((⟨b, off + lo0 * sz, none⟩ : Addr).add (l.toNat * sz))) = some ⟨b, off + (lo0 + l.toNat) * sz, none⟩ := by
    split
    · have : l.toNat = 0 := by omega
      rw [this]; simp
    · rw [add_none, Nat.add_mul, Nat.add_assoc]
  rw [e]
  exact V0.of_cell (.aref hu hloc (by omega)) rfl
end
end Go.AL

/-
  The bridge: from a contract in abstract values to what a given statement asks, where all arguments are plain data.
-/
import Derived.Test.YtaghcjbpjnpkbaaGreatAL18
import Derived.ProofKit
import Derived.OpenShut
import Derived.Deep.Slices
import Derived.Below
set_option linter.unusedSimpArgs false
set_option linter.unusedVariables false
namespace Go.AL
open Go

def gOf (W : World) : G := ⟨fun _ => False, fun _ _ => none, fun _ => 0, fun b => match W.heap[b]? with | some (.cells arr _ _) => arr.size | _ => 0⟩
theorem gOf_inv (W : World) : Inv (gOf W) W := by
  intro b hb
  simp [gOf, Array.getElem?_eq_none hb]

def plainT (P : Program) : Nat → TypeId → Bool
  | 0, _ => false
  | n + 1, t => isVar P t && rowFine P t && match P.underlying t with
    | some .bool | some (.int _) | some .string => true
    | some (.slice e) => decide (0 < P.cellsOf e) && plainT P n e
    | some (.array _ e) => plainT P n e
    | some (.struct fs) => fs.toList.all fun f => plainT P n f.type
    | _ => false

def TyF (C : TypeId → AV → Prop) : List TypeId → List AV → Prop
  | [], [] => True
  | t :: ts, a :: as => C t a ∧ TyF C ts as
  | _, _ => False
def Ty (P : Program) : Nat → TypeId → AV → Prop
  | 0, _, _ => False
  | n + 1, t, a => match P.underlying t with
    | some .bool => ∃ b, a = .val (.bool b)
    | some (.int k) => ∃ x, a = .val (.int k x) ∧ k.min ≤ x ∧ x ≤ k.max
    | some .string => ∃ s : ByteArray, a = .val (.string s) ∧ s.size ≤ maxLen
    | some (.slice e) => ∃ L, a = .sl (P.cellsOf e) L 0 ∧ L.length ≤ maxLen ∧ ∀ x ∈ L, Ty P n e x
    | some (.array k e) => ∃ L, a = .vec (P.cellsOf e) L ∧ L.length = k ∧ ∀ x ∈ L, Ty P n e x
    | some (.struct fs) => ∃ L, a = .agg (P.cellsOf t) L ∧ TyF (Ty P n) (fs.toList.map (·.type)) L
    | _ => False

section
variable {H : Type} {enc : TypeId × Value → H} {P : Program} {w : World}

theorem seq_fields {C : TypeId → AV → Prop} {cs : List Value} : ∀ (fs : List Field) (off : Nat), (∀ (j : Nat) f, fs[j]? = some f → f.offset = off + ((fs.take j).map fun f => P.cellsOf f.type).sum) →
    cs.length = off + (fs.map fun f => P.cellsOf f.type).sum → (∀ f ∈ fs, ∃ a, R (gOf w) w (.one a ((cs.drop f.offset).take (P.cellsOf f.type))) ∧ C f.type a) →
    ∃ L, R (gOf w) w (.seq L (cs.drop off)) ∧ TyF C (fs.map (·.type)) L
  | [], off, _, hl, _ => ⟨[], by rw [List.drop_eq_nil_of_le (by simp at hl; omega)]; exact .seqNil, trivial⟩
  | f :: fs, off, ho, hl, hf => by
    have h0 : f.offset = off := by have := ho 0 f rfl; simpa using this
    obtain ⟨a, r1, r2⟩ := hf f (by simp)
    have hl' : cs.length = (off + P.cellsOf f.type) + (fs.map fun f => P.cellsOf f.type).sum := by simp at hl; omega
    obtain ⟨L, r3, r4⟩ := seq_fields (C := C) fs (off + P.cellsOf f.type) (fun j g hg => by
      have := ho (j + 1) g (by simpa using hg)
      simp only [List.take_succ_cons, List.map_cons, List.sum_cons] at this; omega) hl' (fun g hg => hf g (by simp [hg]))
    refine ⟨a :: L, ?_, r2, r4⟩
    rw [h0] at r1
    have : cs.drop off = (cs.drop off).take (P.cellsOf f.type) ++ cs.drop (off + P.cellsOf f.type) := by
      rw [← List.drop_drop, List.take_append_drop]
    rw [this]
    exact .seqCons r1 r3

theorem useq_elems {C : AV → Prop} {sz : Nat} : ∀ (n : Nat) (cs : List Value), cs.length = n * sz → (∀ i, i < n → ∃ a, R (gOf w) w (.one a ((cs.drop (i * sz)).take sz)) ∧ C a) →
    ∃ L, R (gOf w) w (.useq sz L cs) ∧ L.length = n ∧ ∀ x ∈ L, C x
  | 0, cs, hl, _ => ⟨[], by rw [List.eq_nil_of_length_eq_zero (by omega : cs.length = 0)]; exact .useqNil, rfl, by simp⟩
  | n + 1, cs, hl, hf => by
    obtain ⟨a, r1, r2⟩ := hf 0 (by omega)
    simp only [Nat.zero_mul, List.drop_zero] at r1
    obtain ⟨L, r3, r4, r5⟩ := useq_elems (C := C) (sz := sz) n (cs.drop sz) (by rw [List.length_drop, hl, Nat.add_mul]; omega) (fun i hi => by
      have := hf (i + 1) (by omega)
      rw [List.drop_drop]
      rw [show sz + i * sz = (i + 1) * sz by rw [Nat.add_mul]; omega]
      exact this)
    refine ⟨a :: L, ?_, by simp [r4], ?_⟩
    · rw [← List.take_append_drop sz cs]
      exact .useqCons r1 (by rw [List.length_take, hl, Nat.add_mul]; omega) r3
    · intro x hx
      rcases List.mem_cons.1 hx with rfl | hx
      · exact r2
      · exact r5 x hx

theorem cell_imm {b o : Nat} {v : Value} (h : w.cell? ⟨b, o, none⟩ = some v) : o < (gOf w).imm b := by
  cases hh : w.heap[b]? with
  | none => simp [World.cell?, hh] at h
  | some q =>
    cases q with
    | cells c t f =>
      simp [World.cell?, hh] at h
      simp only [gOf, hh]
      exact (Array.getElem?_eq_some_iff.1 h).1
    | _ => simp [World.cell?, hh] at h

theorem mem_elems {C : AV → Prop} {sz b : Nat} (hsz : 0 < sz) : ∀ (n o : Nat), (∀ i, i < n → ∃ cs a, cs.length = sz ∧ RowAt w b (o + i * sz) cs ∧ R (gOf w) w (.one a cs) ∧ C a) →
    ∃ L, R (gOf w) w (.mem sz L b o) ∧ L.length = n ∧ ∀ x ∈ L, C x
  | 0, o, _ => ⟨[], .memNil, rfl, by simp⟩
  | n + 1, o, hf => by
    obtain ⟨cs, a, r0, r1, r2, r3⟩ := hf 0 (by omega)
    simp only [Nat.zero_mul, Nat.add_zero] at r1
    obtain ⟨L, r4, r5, r6⟩ := mem_elems (C := C) hsz n (o + sz) (fun i hi => by
      obtain ⟨cs, a, q0, q1, q2, q3⟩ := hf (i + 1) (by omega)
      refine ⟨cs, a, q0, ?_, q2, q3⟩
      rw [show o + sz + i * sz = o + (i + 1) * sz by rw [Nat.add_mul]; omega]
      exact q1)
    refine ⟨a :: L, .memCons r2 r0 r1 ?_ r4, by simp [r5], ?_⟩
    · have h1 := r1 (sz - 1) (cs[sz - 1]'(by omega)) (List.getElem?_eq_getElem _)
      have := cell_imm h1
      omega
    · intro x hx
      rcases List.mem_cons.1 hx with rfl | hx
      · exact r3
      · exact r6 x hx

theorem Ty.bool {n : Nat} {t : TypeId} {b : Bool} (hu : P.underlying t = some .bool) : Ty P (n + 1) t (.val (.bool b)) := by
  simp only [Ty, hu]; exact ⟨_, rfl⟩
theorem Ty.int {n : Nat} {t : TypeId} {k : IntKind} {x : Int} (hu : P.underlying t = some (.int k)) (h1 : k.min ≤ x) (h2 : x ≤ k.max) : Ty P (n + 1) t (.val (.int k x)) := by
  simp only [Ty, hu]; exact ⟨_, rfl, h1, h2⟩
theorem Ty.str {n : Nat} {t : TypeId} {s : ByteArray} (hu : P.underlying t = some .string) (h1 : s.size ≤ maxLen) : Ty P (n + 1) t (.val (.string s)) := by
  simp only [Ty, hu]; exact ⟨_, rfl, h1⟩
theorem Ty.sl {n : Nat} {t e : TypeId} {L : List AV} (hu : P.underlying t = some (.slice e)) (h1 : L.length ≤ maxLen) (h2 : ∀ x ∈ L, Ty P n e x) : Ty P (n + 1) t (.sl (P.cellsOf e) L 0) := by
  simp only [Ty, hu]; exact ⟨_, rfl, h1, h2⟩
theorem Ty.arr {n k : Nat} {t e : TypeId} {L : List AV} (hu : P.underlying t = some (.array k e)) (h1 : L.length = k) (h2 : ∀ x ∈ L, Ty P n e x) : Ty P (n + 1) t (.vec (P.cellsOf e) L) := by
  simp only [Ty, hu]; exact ⟨_, rfl, h1, h2⟩
theorem Ty.struct {n : Nat} {t : TypeId} {fs : Array Field} {L : List AV} (hu : P.underlying t = some (.struct fs)) (h2 : TyF (Ty P n) (fs.toList.map (·.type)) L) : Ty P (n + 1) t (.agg (P.cellsOf t) L) := by
  simp only [Ty, hu]; exact ⟨_, rfl, h2⟩

theorem Ty.int_inv {n : Nat} {t : TypeId} {k : IntKind} {a : AV} (hu : P.underlying t = some (.int k)) (h : Ty P (n + 1) t a) : ∃ x, a = .val (.int k x) ∧ k.min ≤ x ∧ x ≤ k.max := by
  simp only [Ty, hu] at h; exact h
theorem Ty.bool_inv {n : Nat} {t : TypeId} {a : AV} (hu : P.underlying t = some .bool) (h : Ty P (n + 1) t a) : ∃ b, a = .val (.bool b) := by
  simp only [Ty, hu] at h; exact h
theorem Ty.sl_inv {n m : Nat} {t e : TypeId} {a : AV} (hu : P.underlying t = some (.slice e)) (hm : P.cellsOf e = m) (h : Ty P (n + 1) t a) : ∃ L, a = .sl m L 0 ∧ L.length ≤ maxLen ∧ ∀ x ∈ L, Ty P n e x := by
  simp only [Ty, hu, hm] at h; exact h
theorem Ty.arr_inv {n m k : Nat} {t e : TypeId} {a : AV} (hu : P.underlying t = some (.array k e)) (hm : P.cellsOf e = m) (h : Ty P (n + 1) t a) : ∃ L, a = .vec m L ∧ L.length = k ∧ ∀ x ∈ L, Ty P n e x := by
  simp only [Ty, hu, hm] at h; exact h
theorem Ty.struct_inv {n m : Nat} {t : TypeId} {fs : Array Field} {ts : List TypeId} {a : AV} (hu : P.underlying t = some (.struct fs)) (hm : P.cellsOf t = m) (hts : fs.toList.map (·.type) = ts) (h : Ty P (n + 1) t a) : ∃ L, a = .agg m L ∧ TyF (Ty P n) ts L := by
  simp only [Ty, hu, hm, hts] at h; exact h
theorem TyF.cons_inv {C : TypeId → AV → Prop} {t : TypeId} {ts : List TypeId} {L : List AV} (h : TyF C (t :: ts) L) : ∃ a as, L = a :: as ∧ C t a ∧ TyF C ts as := by
  cases L with
  | nil => exact h.elim
  | cons a as => exact ⟨a, as, rfl, h.1, h.2⟩
theorem TyF.nil_inv {C : TypeId → AV → Prop} {L : List AV} (h : TyF C [] L) : L = [] := by
  cases L with
  | nil => rfl
  | cons a as => exact h.elim
theorem list_inv {α : Type} {f : α → AV} {p : α → Prop} : ∀ {L : List AV}, (∀ x ∈ L, ∃ r, x = f r ∧ p r) → ∃ rs : List α, L = rs.map f ∧ ∀ r ∈ rs, p r
  | [], _ => ⟨[], rfl, by simp⟩
  | a :: L, h => by
    obtain ⟨r, rfl, hr⟩ := h a (by simp)
    obtain ⟨rs, rfl, hrs⟩ := list_inv (L := L) (fun x hx => h x (by simp [hx]))
    exact ⟨r :: rs, rfl, by simpa [hr] using hrs⟩

theorem trod_R : ∀ (n fuel : Nat) (t : TypeId) (cs : List Value) (x : DataW H × List MemPlace), plainT P n t = true → DataW.trod enc P w 0 (fun _ => true) true fuel t cs = some x →
    ∃ a, R (gOf w) w (.one a cs) ∧ Ty P n t a
  | 0, _, _, _, _, h, _ => by simp [plainT] at h
  | n + 1, fuel, t, cs, x, hp, h => by
    unfold plainT at hp
    simp only [Bool.and_eq_true] at hp
    obtain ⟨⟨hv, hr⟩, hp⟩ := hp
    have hrow := hr
    unfold rowFine at hrow
    rw [hv] at hrow
    simp only [Bool.not_true, Bool.false_or] at hrow
    split at hp
    · rename_i hu
      obtain ⟨b, rfl, _⟩ := DataW.trod_bool hu h
      exact ⟨_, .val rfl, .bool hu⟩
    · rename_i k hu
      obtain ⟨m, rfl, _, hw⟩ := DataW.trod_int hu h
      simp only [Lit.wf, Bool.and_eq_true, decide_eq_true_eq] at hw
      exact ⟨_, .val rfl, .int hu hw.1 hw.2⟩
    · rename_i hu
      obtain ⟨s, rfl, _, hs⟩ := DataW.trod_string hu h
      exact ⟨_, .val rfl, .str hu hs⟩
    · rename_i e hu
      simp only [Bool.and_eq_true, decide_eq_true_eq] at hp
      rcases Go.Deep.open_slice hu h with ⟨rfl, _⟩ | ⟨a, len, cap, m, q, D, Pl, rfl, _, h2, h3, h4, _, h5⟩
      · exact ⟨.sl (P.cellsOf e) [] 0, .slNil, .sl hu (by simp) (by simp)⟩
      · simp only [if_true] at h4
        subst h4
        by_cases h0 : m = 0
        · have hl0 : len = 0 := by omega
          subst h0 hl0
          exact ⟨.sl (P.cellsOf e) [] 0, .slNil, .sl hu (by simp) (by simp)⟩
        · -- the address is plain
          have hsp : a.spot = none := by
            obtain ⟨cs', k1, _⟩ := h5 0 (by omega)
            obtain ⟨_, k2, k3⟩ := World.cells?_some k1
            have := k3 0 (by omega)
            rw [List.getElem?_eq_getElem (by omega)] at this
            simp [World.cell?, Addr.add] at this
            split at this
            · cases hs : a.spot with
              | none => rfl
              | some q => rw [hs] at this; simp at this
            · cases this
          obtain ⟨b, o, sp⟩ := a
          simp only at hsp
          subst hsp
          obtain ⟨L, r1, r2, r3⟩ := mem_elems (w := w) (C := Ty P n e) hp.1 (b := b) len o (fun i hi => by
            obtain ⟨cs', k1, k2⟩ := h5 i (by omega)
            obtain ⟨_, k3, k4⟩ := World.cells?_some k1
            obtain ⟨a, q1, q2⟩ := trod_R n q e cs' _ hp.2 k2
            refine ⟨cs', a, k3, ?_, q1, q2⟩
            intro j v hj
            have hjl : j < cs'.length := by
              by_cases hc : j < cs'.length
              · exact hc
              · rw [List.getElem?_eq_none (by omega)] at hj; cases hj
            have := k4 j (by omega)
            rw [add_none, add_none, hj] at this
            exact this)
          subst r2
          exact ⟨.sl (P.cellsOf e) L 0, .sl h2 r1 trivial, .sl hu (by omega) r3⟩
    · rename_i k e hu
      rw [hu] at hrow
      simp only [Bool.and_eq_true, beq_iff_eq] at hrow
      obtain ⟨xs, m, _, _, h2, h3, h4⟩ := DataW.trod_array hu h
      obtain ⟨L, r1, r2, r3⟩ := useq_elems (w := w) (C := Ty P n e) k cs (h2.trans hrow.2) (fun i hi => by
        have := h4 i hi
        rw [List.getElem?_eq_getElem (by omega)] at this
        exact trod_R n m e _ _ hp this)
      exact ⟨.vec (P.cellsOf e) L, .vec r1, .arr hu r2 r3⟩
    · rename_i fs hu
      rw [hu] at hrow
      simp only [Bool.and_eq_true, beq_iff_eq, List.all_eq_true, List.mem_range] at hrow
      simp only [List.all_eq_true] at hp
      obtain ⟨xs, m, _, _, h2, h3, h4⟩ := DataW.trod_struct hu h
      obtain ⟨L, r1, r2⟩ := seq_fields (w := w) (P := P) (C := Ty P n) (cs := cs) fs.toList 0 (fun j f hf => by
        have hj : j < fs.toList.length := by
          by_cases hc : j < fs.toList.length
          · exact hc
          · rw [List.getElem?_eq_none (by omega)] at hf; cases hf
        have := hrow.2 j hj
        rw [hf] at this
        simpa using this) (by rw [h2, hrow.1.2]; simp) (fun f hf => by
        obtain ⟨j, hj⟩ := List.getElem?_of_mem hf
        have hj2 : fs[j]? = some f := by simpa using hj
        have h5 := h4 j f hj2
        have hjl : j < xs.length := by
          rw [h3]
          by_cases hc : j < fs.size
          · exact hc
          · rw [Array.getElem?_eq_none (by omega)] at hj2; cases hj2
        rw [List.getElem?_eq_getElem hjl] at h5
        exact trod_R n m f.type _ _ (hp f hf) h5)
      refine ⟨.agg (P.cellsOf t) L, ?_, .struct hu r2⟩
      simp only [List.drop_zero] at r1
      exact .agg r1 h2.symm
    · cases hp

theorem arg_V1 {n : Nat} {t : TypeId} {v : Value} {d : DataW H} {ps : List MemPlace} {base : Nat} (hp : plainT P n t = true) (h : DataW.Trod enc P w 0 (fun _ => true) true t v d ps) (hok : Value.okWide P w .any base t v) :
    ∃ a, V1 (gOf w) w a v ∧ Ty P n t a := by
  obtain ⟨fuel, h⟩ := h
  obtain ⟨a, r1, r2⟩ := trod_R n fuel t _ _ hp h
  refine ⟨a, .of_V0 ⟨r1, ?_⟩, r2⟩
  cases n with
  | zero => exact r2.elim
  | succ n =>
    unfold Ty at r2
    unfold Value.okWide at hok
    cases hu : P.underlying t with
    | none => rw [hu] at r2; exact r2.elim
    | some d =>
      rw [hu] at r2 hok
      cases d <;> simp only at r2 hok <;> try exact r2.elim
      · obtain ⟨b, rfl⟩ := r2
        simp only [Cell.okWide, Cell.ok, hu] at hok
        cases v <;> simp_all [isAggV, AV.isAgg]
      · obtain ⟨x, rfl, _⟩ := r2
        simp only [Cell.okWide, Cell.ok, hu] at hok
        cases v <;> simp_all [isAggV, AV.isAgg]
      · obtain ⟨x, rfl, _⟩ := r2
        simp only [Cell.okWide, Cell.ok, hu] at hok
        cases v <;> simp_all [isAggV, AV.isAgg]
      · obtain ⟨x, rfl, _⟩ := r2
        simp only [Cell.okWide, Cell.ok, hu] at hok
        cases v <;> simp_all [isAggV, AV.isAgg]
      · obtain ⟨x, rfl, _⟩ := r2
        obtain ⟨cs, rfl, _⟩ := hok
        rfl
      · obtain ⟨x, rfl, _⟩ := r2
        obtain ⟨cs, rfl, _⟩ := hok
        rfl

theorem args_V1 {n base : Nat} : ∀ (ts : List TypeId) (vs : List Value) (ds : List (DataW H)) (ps : List MemPlace), (∀ t ∈ ts, plainT P n t = true) → DataW.TrodAll enc P w 0 (fun _ => true) true ts vs ds ps →
    (∀ (j : Nat) t v, ts[j]? = some t → vs[j]? = some v → Value.okWide P w .any base t v) → ∃ as, ArgsOK (gOf w) w as vs ∧ TyF (Ty P n) ts as ∧ ds.length = ts.length
  | [], [], [], ps, _, h, _ => ⟨[], ⟨rfl, fun i x y hx => by simp at hx⟩, trivial, rfl⟩
  | t :: ts, v :: vs, d :: ds, ps, hp, h, hok => by
    obtain ⟨p, q, h1, h2, _⟩ := h
    obtain ⟨a, r1, r2⟩ := arg_V1 (hp t (by simp)) h1 (hok 0 t v rfl rfl)
    obtain ⟨as, r3, r4, r5⟩ := args_V1 ts vs ds q (fun t' ht => hp t' (by simp [ht])) h2 (fun j t' v' hj hv => hok (j + 1) t' v' (by simpa using hj) (by simpa using hv))
    refine ⟨a :: as, ⟨by simp [r3.1], fun i x y hx hy => ?_⟩, ⟨r2, r4⟩, by simp [r5]⟩
    cases i with
    | zero => simp at hx hy; subst hx hy; exact r1
    | succ i => exact r3.2 i x y (by simpa using hx) (by simpa using hy)
  | [], v :: vs, _, _, _, h, _ => by simp [DataW.TrodAll] at h
  | [], [], d :: ds, _, _, h, _ => by simp [DataW.TrodAll] at h
  | t :: ts, [], _, _, _, h, _ => by simp [DataW.TrodAll] at h
  | t :: ts, v :: vs, [], _, _, h, _ => by simp [DataW.TrodAll] at h

open Go.RowKit in
theorem trodAll_stays (hl : laidOutB P = true) {w' : World} (hb : Below w.heap.size w w') {sp : Nat → Bool} : ∀ (ts : List TypeId) (vs : List Value) (ds : List (DataW H)) (ps : List MemPlace), (∀ t ∈ ts, P.readableRec t = true ∧ t < P.types.size) →
    DataW.TrodAll enc P w 0 (fun _ => true) true ts vs ds ps → (∀ x ∈ ps, x.block < w.heap.size) → (∀ x ∈ ps, sp x.block = true) → DataW.TrodAll enc P w' 0 sp true ts vs ds ps
  | [], [], [], ps, _, h, _, _ => h
  | t :: ts, v :: vs, d :: ds, ps, hp, h, hlt, hsp => by
    obtain ⟨p, q, h1, h2, rfl⟩ := h
    refine ⟨p, q, ?_, trodAll_stays hl hb ts vs ds q (fun t' ht => hp t' (by simp [ht])) h2 (fun x hx => hlt x (by simp [hx])) (fun x hx => hsp x (by simp [hx])), rfl⟩
    exact WideElems.Trod_stays hl (hp t (by simp)).1 (hp t (by simp)).2 h1 (fun x hx => hb.same (hlt x (by simp [hx]))) (fun x hx => hsp x (by simp [hx]))
  | [], v :: vs, _, _, _, h, _, _ => by simp [DataW.TrodAll] at h
  | [], [], d :: ds, _, _, h, _, _ => by simp [DataW.TrodAll] at h
  | t :: ts, [], _, _, _, h, _, _ => by simp [DataW.TrodAll] at h
  | t :: ts, v :: vs, [], _, _, h, _, _ => by simp [DataW.TrodAll] at h

open Go.RowKit Go.ChangeShapes in
theorem post_of_same_old {f : Func} {s : ChangeSpec} {apart fresh handsOn again : Bool} {W W' : World} {args : Array Value} {v : Value} {ds gs : List (DataW H)} {before pa pv : List MemPlace}
    (hW : DataW.Whole enc P f.params.toList s.vars apart W args.toList ds gs before)
    (hres : ∀ (b : Nat) (sp : Nat → Bool) (hd : Bool), DataW.TrodAll enc P W' b sp hd f.resultTypes.toList (v.resultList f.resultTypes.size) (s.fn H (ds ++ gs)).results [])
    (hargs : ∀ sp : Nat → Bool, (∀ p ∈ before, sp p.block = true) → DataW.TrodAll enc P W' 0 sp true f.params.toList args.toList (s.fn H (ds ++ gs)).args pa)
    (hvars : ∀ sp : Nat → Bool, (∀ p ∈ before, sp p.block = true) → DataW.TrodVars enc P W' sp s.vars (s.fn H (ds ++ gs)).vars pv)
    (hps : before = pa ++ pv) (hk : W.keptBut W' (· ∈ before)) (hfz : ∀ a : Addr, a.block < W.heap.size → W'.frozen? a = W.frozen? a)
    (hok : ∀ (j : Nat) (t : TypeId) (r : Value), f.resultTypes[j]? = some t → (v.resultList f.resultTypes.size)[j]? = some r → Value.okWide P W' .any 0 t r) :
    s.post enc P f apart fresh handsOn again W args v W' := by
  have hold : ∀ p ∈ before, (fun b => decide (b < W.heap.size)) p.block = true := fun p hp => by simpa using hW.lt p hp
  have hWW := hW
  refine ⟨ds, gs, before, [], pa, pv, hW, hres _ _ _, hargs _ hold, hvars _ hold, World.keptBut_mono (fun p hp => ⟨hp, ?_⟩) hk, fun _ => ?_⟩
  · rw [hps, List.mem_append] at hp
    exact Or.inr hp
  · obtain ⟨_, _, _, _, _, hz, hn⟩ := hW
    refine ⟨hok, _, _, ([] ++ pa) ++ pv, ⟨[] ++ pa, pv, trodAll_append (hargs _ (fun _ _ => rfl)) (hres _ _ _), hvars _ (fun _ _ => rfl), rfl, ?_, ?_⟩, ?_⟩
    · intro b off hp
      rw [hfz _ (hWW.lt _ (by rw [hps]; simpa using hp))]
      exact hz b off (by rw [hps]; simpa using hp)
    · intro ha
      have := hn ha
      rw [hps] at this
      simpa using this
    · intro p hp _
      rw [hps]
      simpa using hp

open Go.RowKit Go.ChangeShapes in
theorem post_of_spec {f n k tb : Nat} {fn : Func} {s : ChangeSpec} {apart fresh handsOn again : Bool} (hl : laidOutB P = true) (hvars : s.vars = []) (hfn : ∀ ds : List (DataW H), ds.length = fn.params.size → s.fn H ds = { results := [.lit (.bool true)], args := ds })
    (hpl : fn.params.toList.all (fun t => plainT P n t) = true) (hrd : fn.params.toList.all (fun t => P.readableRec t && decide (t < P.types.size)) = true) (hrt : fn.resultTypes = #[tb]) (htb : P.underlying tb = some .bool)
    (spec : ∀ as, TyF (Ty P n) fn.params.toList as → FnSpec P f 0 as [] (.val (.bool true)) [] k)
    (W : World) (base : Nat) (args : Array Value) (ds gs : List (DataW H)) (before : List MemPlace) (hok : ∀ (j : Nat) t v, fn.params[j]? = some t → args[j]? = some v → Value.okWide P W .any base t v)
    (hW : DataW.Whole enc P fn.params.toList s.vars apart W args.toList ds gs before) : Calls P f args W fun e W' => ∃ v, e = .returned v ∧ s.post enc P fn apart fresh handsOn again W args v W' := by
  have hW' := hW
  obtain ⟨p, q, hA, hV, rfl, hfz, hnd⟩ := hW
  rw [hvars] at hV
  obtain ⟨rfl, rfl⟩ := trodVars_none hV
  simp only [List.all_eq_true, Bool.and_eq_true, decide_eq_true_eq] at hpl hrd
  obtain ⟨as, r1, r2, r3⟩ := args_V1 (base := base) fn.params.toList args.toList ds p hpl hA (fun j t v hj hv => hok j t v (by simpa using hj) (by simpa using hv))
  refine ((spec as r2).2 args (gOf W) W r1 (gOf_inv W) ⟨fun n r h => by simp [Heap.get] at h, fun n n' r r' b h => by simp [Heap.get] at h⟩ (fun m _ h => h)).mono ?_
  rintro e W' ⟨v, g', rfl, hv, hd⟩
  obtain ⟨rfl, _⟩ := V1_val hv
  refine ⟨_, rfl, ?_⟩
  have hnd : ∀ b, ¬ Blks (gOf W) [] (keys ([] : Heap)) b := by rintro b ⟨n, r, h, _⟩; simp [keys] at h
  have hbelow : Below W.heap.size W W' := ⟨hd.delta.os, hd.delta.tape, hd.delta.output, hd.delta.size, fun b hb => (hd.delta.keep b hb (hnd b)).1⟩
  have hlen : (ds ++ ([] : List (DataW H))).length = fn.params.size := by rw [List.append_nil, r3]; simp
  have hlt : ∀ x ∈ p, x.block < W.heap.size := fun x hx => hW'.lt x (by simpa using hx)
  refine post_of_same_old (pa := p) (pv := []) hW' ?_ ?_ ?_ (by simp) (hbelow.frame _) (fun a ha => World.frozen?_of_block (w := W) ((hd.delta.keep a.block ha (hnd _)).1)) ?_
  · intro b sp hd
    rw [hfn _ hlen, hrt]
    exact trodAll_mk1 (shut_bool htb true)
  · intro sp hsp
    rw [hfn _ hlen]
    simp only [List.append_nil]
    exact trodAll_stays hl hbelow _ _ _ _ (fun t ht => hrd t ht) hA hlt (fun x hx => hsp x (by simpa using hx))
  · intro sp hsp
    rw [hfn _ hlen, hvars]
    rfl
  · exact ok_one hrt rfl (okWide_bool_mk htb true)
end
end Go.AL

set_option linter.unusedSimpArgs false
set_option linter.unusedVariables false
namespace Go.AL
open Go

def subR : AV → AV → Prop
  | .tup as, .tup bs => as.length = bs.length ∧ ∀ (i : Nat) (x y : AV), as[i]? = some x → bs[i]? = some y → x = y ∨ (y.good = true ∧ subA x y)
  | a, b => subA a b

theorem subA_good {x y : AV} (h : subA x y) (hy : y.good = true) : x.good = true := by
  unfold subA at h
  split at h
  · rfl
  · cases hy
  · rw [h]; exact hy
theorem subR_V1 {g : G} {w : World} {a b : AV} {v : Value} (h : subR a b) (hv : V1 g w a v) : V1 g w b v := by
  unfold subR at h
  split at h
  · rename_i as bs
    obtain ⟨h1, h2⟩ := h
    obtain ⟨ws, rfl, h3, h4⟩ := hv
    refine ⟨ws, rfl, h1 ▸ h3, fun i y z hy hz => ?_⟩
    have hi : i < as.length := by
      rw [h1]
      by_cases hc : i < bs.length
      · exact hc
      · rw [List.getElem?_eq_none (by omega)] at hy; cases hy
    have hx := List.getElem?_eq_getElem hi
    rcases h2 i _ _ hx hy with e | ⟨e1, e2⟩
    · exact h4 i y z (e ▸ hx) hz
    · have hxg := subA_good e2 e1
      rcases h4 i _ z hx hz with q | q
      · rw [q] at hxg; cases hxg
      · exact .inr ((subA_V1 e2 (.of_V0 q)).toV0 e1)
  · exact subA_V1 h hv

theorem FnSpec.forget {P : Program} {f nx k : Nat} {args : List AV} {Hc : Heap} {av av' : AV} {wr wr' : Heap} (h : FnSpec P f nx args Hc av wr k) (ha : subR av av') (hnb : av'.nb nx) (hl : nbL nx wr')
    (h1 : ∀ n ∈ keys wr', n ∈ keys wr ∧ wr'.get n = wr.get n ∧ (wr'.get n).isSome = true) (h2 : ∀ n ∈ keys wr, n ∉ keys wr' → Hc.get n = none ∧ nx ≤ n) : FnSpec P f nx args Hc av' wr' 0 := by
  refine ⟨h.1, fun vs g w hargs hi hH hf => ?_⟩
  refine (h.2 vs g w hargs hi hH hf).mono ?_
  rintro e w' ⟨v, g', rfl, hv, hp⟩
  have hlt : ∀ n, g.use n → n < nx := fun n hn => by
    by_cases hc : n < nx
    · exact hc
    · exact absurd hn (hf n (by omega))
  have hd := (hp.delta.cut (m := nx) hlt).mono (D' := Blks g Hc (keys wr')) (T' := (· ∈ keys wr')) (N' := (· ∈ ([] : List Nat)))
    (fun b _ ⟨n, r, c1, c2, c3⟩ => ⟨n, r, (Classical.byContradiction fun hc => by rw [(h2 n c1 hc).1] at c2; cases c2), c2, c3⟩)
    (fun n hn hm => by
      by_cases hc : n ∈ keys wr'
      · exact hc
      · have := (h2 n hm hc).2; have := hlt n hn; omega)
    (fun n hn => by
      obtain ⟨c1, c2⟩ := hn
      simp at c1
      omega)
  refine ⟨v, g'.cut nx, rfl, (subR_V1 ha hv).cut hnb, ⟨hd, fun n r hr hn => ?_, fun n n' r r' b hn hn' hr hr' hb hb' => ?_⟩⟩
  · obtain ⟨c1, c2, _⟩ := h1 n hn
    obtain ⟨q1, q2⟩ := hp.res n r (c2 ▸ hr) c1
    obtain ⟨k1, k2⟩ := nbL_get hl hr
    refine ⟨q1.cut k1 k2, fun b hb => ?_⟩
    rw [blkOf_cut] at hb
    rcases q2 b hb with ⟨n', s, c3, c4, c5⟩ | c
    · exact .inl ⟨n', s, (Classical.byContradiction fun hc => by rw [(h2 n' c3 hc).1] at c4; cases c4), c4, c5⟩
    · exact .inr c
  · obtain ⟨c1, c2, _⟩ := h1 n hn
    obtain ⟨c1', c2', _⟩ := h1 n' hn'
    rw [blkOf_cut] at hb hb'
    exact hp.disj n n' r r' b c1 c1' (c2 ▸ hr) (c2' ▸ hr') hb hb'

theorem FnSpec.forget0 {P : Program} {f nx k : Nat} {args : List AV} {av av' : AV} {wr : Heap} (h : FnSpec P f nx args [] av wr k) (ha : subR av av') (hnb : av'.nb nx) (hw : ∀ n ∈ keys wr, nx ≤ n) : FnSpec P f nx args [] av' [] 0 :=
  h.forget ha hnb trivial (fun n hn => by simp [keys] at hn) (fun n hn _ => ⟨rfl, hw n hn⟩)
end Go.AL

set_option linter.unusedSimpArgs false
set_option linter.unusedVariables false
namespace Go.AL
open Go
mutual
def AV.le : AV → AV → Prop
  | .sl sz L tok, b => ∃ L' tok', b = .sl sz L' tok' ∧ AV.les L L' ∧ (tok' = tok ∨ tok' = 0 ∨ tok = 1)
  | .agg n ps, b => ∃ qs, b = .agg n qs ∧ AV.les ps qs
  | a, b => a = b
def AV.les : List AV → List AV → Prop
  | [], bs => bs = []
  | a :: as, bs => ∃ b bs', bs = b :: bs' ∧ AV.le a b ∧ AV.les as bs'
end
theorem AV.les_length : ∀ {as bs : List AV}, AV.les as bs → bs.length = as.length
  | [], _, h => by rw [h]
  | a :: as, _, ⟨b, bs, h1, _, h3⟩ => by rw [h1, List.length_cons, List.length_cons, AV.les_length h3]

section
variable {g : G} {w : World}
mutual
theorem AV.le_R : ∀ (a : AV) {b : AV}, a.le b → ∀ cs, R g w (.one a cs) → R g w (.one b cs)
  | .sl sz L tok, b, h, cs, hr => by
    obtain ⟨L', tok', rfl, h1, h2⟩ := h
    have hl := AV.les_length h1
    obtain ⟨v, rfl, _⟩ := hr.single rfl
    rcases V1_sl (show V1 g w (.sl sz L tok) v from V0.of_cell hr rfl) with ⟨rfl, _, rfl⟩ | ⟨bb, q, c, rfl, k1, k2, k3⟩
    · simp at hl
      have : L' = [] := List.length_eq_zero_iff.1 (by simpa using hl)
      subst this
      exact .slNil
    · have hm := AV.les_mem L h1 sz bb q k2
      rw [← hl] at k1 k3 ⊢
      refine .sl k1 hm ?_
      rcases h2 with rfl | rfl | rfl
      · exact k3
      · trivial
      · have hc : c = L'.length := k3
        match tok' with
        | 0 => trivial
        | 1 => exact hc
        | n + 2 => exact .inl hc
  | .agg n ps, b, h, cs, hr => by
    obtain ⟨qs, rfl, h1⟩ := h
    cases hr with
    | agg k1 k2 => exact .agg (AV.les_seq ps h1 cs k1) k2
  | .undef, b, h, cs, hr => by have h : _ = b := h; subst h; exact hr
  | .val _, b, h, cs, hr => by have h : _ = b := h; subst h; exact hr
  | .ref _ _ _, b, h, cs, hr => by have h : _ = b := h; subst h; exact hr
  | .cref _, b, h, cs, hr => by have h : _ = b := h; subst h; exact hr
  | .aref _ _ _ _ _ _, b, h, cs, hr => by have h : _ = b := h; subst h; exact hr
  | .map _, b, h, cs, hr => by have h : _ = b := h; subst h; exact hr
  | .clos _ _, b, h, cs, hr => by have h : _ = b := h; subst h; exact hr
  | .vec _ _, b, h, cs, hr => by have h : _ = b := h; subst h; exact hr
  | .tup _, b, h, cs, hr => by have h : _ = b := h; subst h; exact hr
theorem AV.les_seq : ∀ (as : List AV) {bs : List AV}, AV.les as bs → ∀ cs, R g w (.seq as cs) → R g w (.seq bs cs)
  | [], _, h, cs, hr => by have h : _ = [] := h; subst h; exact hr
  | a :: as, _, ⟨b, bs, e, h1, h2⟩, cs, hr => by
    subst e
    cases hr with
    | seqCons k1 k2 => exact .seqCons (AV.le_R a h1 _ k1) (AV.les_seq as h2 _ k2)
theorem AV.les_mem : ∀ (as : List AV) {bs : List AV}, AV.les as bs → ∀ sz b o, R g w (.mem sz as b o) → R g w (.mem sz bs b o)
  | [], _, h, sz, b, o, hr => by have h : _ = [] := h; subst h; exact hr
  | a :: as, _, ⟨c, bs, e, h1, h2⟩, sz, b, o, hr => by
    subst e
    cases hr with
    | memCons k1 k2 k3 k4 k5 => exact .memCons (AV.le_R a h1 _ k1) k2 k3 k4 (AV.les_mem as h2 _ _ _ k5)
end

theorem AV.le_isAgg : ∀ {a b : AV}, a.le b → b.isAgg = a.isAgg
  | .sl _ _ _, _, ⟨_, _, rfl, _⟩ => rfl
  | .agg _ _, _, ⟨_, rfl, _⟩ => rfl
  | .undef, b, h => by have h : _ = b := h; subst h; rfl
  | .val _, b, h => by have h : _ = b := h; subst h; rfl
  | .ref _ _ _, b, h => by have h : _ = b := h; subst h; rfl
  | .cref _, b, h => by have h : _ = b := h; subst h; rfl
  | .aref _ _ _ _ _ _, b, h => by have h : _ = b := h; subst h; rfl
  | .map _, b, h => by have h : _ = b := h; subst h; rfl
  | .clos _ _, b, h => by have h : _ = b := h; subst h; rfl
  | .vec _ _, b, h => by have h : _ = b := h; subst h; rfl
  | .tup _, b, h => by have h : _ = b := h; subst h; rfl
theorem AV.le_V1 {a b : AV} {v : Value} (h : a.le b) (hv : V1 g w a v) : V1 g w b v := by
  by_cases hg : a.good = true
  · have h0 := hv.toV0 hg
    exact .of_V0 ⟨AV.le_R a h _ h0.1, by rw [AV.le_isAgg h]; exact h0.2⟩
  · cases a <;> first | exact absurd rfl hg | (have h : _ = b := h; subst h; exact hv)
end

theorem les_args {g : G} {w : World} : ∀ {as bs : List AV} {vs : List Value}, AV.les as bs → ArgsOK g w as vs → ArgsOK g w bs vs
  | as, bs, vs, h, ⟨h1, h2⟩ => by
    refine ⟨(AV.les_length h).trans h1, fun i x y hx hy => ?_⟩
    have key : ∀ {as bs : List AV} (i : Nat) (x : AV), AV.les as bs → bs[i]? = some x → ∃ a, as[i]? = some a ∧ a.le x := by
      intro as
      induction as with
      | nil => intro bs i x h hx; have h : bs = [] := h; subst h; simp at hx
      | cons a as ih =>
        intro bs i x h hx
        obtain ⟨b, bs', rfl, q1, q2⟩ := h
        cases i with
        | zero => simp at hx; subst hx; exact ⟨a, rfl, q1⟩
        | succ i => exact ih i x q2 (by simpa using hx)
    obtain ⟨a, q1, q2⟩ := key i x h hx
    exact AV.le_V1 q2 (h2 i a y q1 hy)

theorem FnSpec.le {P : Program} {f nx k : Nat} {args args' : List AV} {Hc wr : Heap} {av : AV} (h : FnSpec P f nx args' Hc av wr k) (ha : AV.les args args') : FnSpec P f nx args Hc av wr k :=
  ⟨h.1, fun vs g w hargs hi hH hf => h.2 vs g w (les_args ha hargs) hi hH hf⟩

mutual
theorem AV.le_refl : ∀ a : AV, a.le a
  | .sl sz L tok => ⟨L, tok, rfl, AV.les_refl L, .inl rfl⟩
  | .agg n ps => ⟨ps, rfl, AV.les_refl ps⟩
  | .undef => rfl
  | .val _ => rfl
  | .ref _ _ _ => rfl
  | .cref _ => rfl
  | .aref _ _ _ _ _ _ => rfl
  | .map _ => rfl
  | .clos _ _ => rfl
  | .vec _ _ => rfl
  | .tup _ => rfl
theorem AV.les_refl : ∀ as : List AV, AV.les as as
  | [] => rfl
  | a :: as => ⟨a, as, rfl, AV.le_refl a, AV.les_refl as⟩
end
end Go.AL

set_option linter.unusedVariables false
namespace Go.AL
open Go Go.RowKit

end Go.AL

set_option linter.unusedSimpArgs false
set_option linter.unusedVariables false
namespace Go.AL
open Go

def sealV (n sz : Nat) (L : List AV) (x y : AV) : Prop := x = y ∨ ∃ lo len, x = .aref n 0 [] sz lo len ∧ y = .sl sz ((L.drop lo).take len) 0 ∧ lo + len ≤ L.length
def sealR (n sz : Nat) (L : List AV) : AV → AV → Prop
  | .tup as, .tup bs => as.length = bs.length ∧ ∀ (i : Nat) (x y : AV), as[i]? = some x → bs[i]? = some y → sealV n sz L x y
  | a, b => sealV n sz L a b

theorem seal_ext {g : G} {w : World} {b m : Nat} (h0 : g.imm b = 0) : Ext g w (g.immSet b m) w :=
  ⟨fun _ h => h, fun _ _ => Nat.le_refl _, fun _ _ _ _ => rfl, fun k => by simp only [G.immSet]; split <;> (try subst_vars) <;> omega, fun _ _ _ => rfl⟩

theorem sealV_V0 {g : G} {w : World} {n sz b : Nat} {L : List AV} {arr : Array Value} {T : TypeId} {x : Nat × Nat} {u v : AV} {c : Value} (hs : sealV n sz L u v) (hl : g.loc n 0 = some (b, x)) (hb : w.heap[b]? = some (.cells arr T (0, 0)))
    (hr : R g w (.one (.vec sz L) arr.toList)) (h0 : g.imm b = 0) (hv : V0 g w u c) : V0 (g.immSet b arr.size) w v c := by
  have hx := seal_ext (w := w) (m := arr.size) h0
  rcases hs with rfl | ⟨lo, len, rfl, rfl, hle⟩
  · exact hv.ext hx
  · obtain ⟨b', c', x', rfl, k1, k2, k3⟩ := V1_aref (show V1 g w (.aref n 0 [] sz lo len) c from hv)
    rw [hl] at k2
    obtain ⟨rfl, rfl⟩ := Prod.mk.inj (Option.some.inj k2)
    cases hr with
    | vec hu =>
      have hlen := hu.ulength
      have hm : R (g.immSet b arr.size) w (.mem sz L b 0) := R.mem_of (hu.ext hx) (RowAt.of_heap hb) (by simp [G.immSet])
      have h2 := (hm.mem_drop lo (by omega)).mem_take len
      have h3 : ((L.drop lo).take len).length = len := by rw [List.length_take, List.length_drop]; omega
      have := R.sl (tok := 0) (by rw [h3]; exact k3) h2 trivial
      rw [h3] at this
      exact V0.of_cell this rfl

theorem sealR_V1 {g : G} {w : World} {n sz b : Nat} {L : List AV} {arr : Array Value} {T : TypeId} {x : Nat × Nat} {u v : AV} {c : Value} (hs : sealR n sz L u v) (hl : g.loc n 0 = some (b, x)) (hb : w.heap[b]? = some (.cells arr T (0, 0)))
    (hr : R g w (.one (.vec sz L) arr.toList)) (h0 : g.imm b = 0) (hv : V1 g w u c) : V1 (g.immSet b arr.size) w v c := by
  have hx := seal_ext (w := w) (m := arr.size) h0
  unfold sealR at hs
  split at hs
  · rename_i as bs
    obtain ⟨h1, h2⟩ := hs
    obtain ⟨ws, rfl, h3, h4⟩ := hv
    refine ⟨ws, rfl, h1 ▸ h3, fun i y z hy hz => ?_⟩
    have hi : i < as.length := by
      rw [h1]
      by_cases hc : i < bs.length
      · exact hc
      · rw [List.getElem?_eq_none (by omega)] at hy; cases hy
    have hxi := List.getElem?_eq_getElem hi
    have hsv := h2 i _ _ hxi hy
    rcases h4 i _ z hxi hz with q | q
    · rcases hsv with e | ⟨lo, len, e, _⟩
      · exact .inl (e ▸ q)
      · rw [q] at e; cases e
    · exact .inr (sealV_V0 hsv hl hb hr h0 q)
  · rcases hs with rfl | ⟨lo, len, rfl, rfl, hle⟩
    · exact hv.ext hx
    · exact sealV_V0 (.inr ⟨lo, len, rfl, rfl, hle⟩) hl hb hr h0 hv

theorem FnSpec.stay {P : Program} {f nx k n sz : Nat} {L : List AV} {args : List AV} {av av' : AV} {wr : Heap} (h : FnSpec P f nx args [] av wr k) (hn : wr.get n = some (.obj (.vec sz L))) (hw : ∀ m ∈ keys wr, nx ≤ m)
    (ha : sealR n sz L av av') (hnb : av'.nb nx) : FnSpec P f nx args [] av' [] 0 := by
  refine ⟨h.1, fun vs g w hargs hi hH hf => ?_⟩
  refine (h.2 vs g w hargs hi hH hf).mono ?_
  rintro e w' ⟨v, g', rfl, hv, hp⟩
  have hmem : n ∈ keys wr := Classical.byContradiction fun hc => by rw [Heap.get_none wr n hc] at hn; cases hn
  obtain ⟨q1, q2⟩ := hp.res n _ hn hmem
  obtain ⟨hu, b, x, arr, T, hl, hb, hr, h0⟩ := q1
  have hbn : w.heap.size ≤ b := by
    rcases q2 b (by simp [blkOf, hl]) with ⟨m, s, _, c2, _⟩ | c
    · simp [Heap.get] at c2
    · exact c
  have hlt : ∀ m, g.use m → m < nx := fun m hm => by
    by_cases hc : m < nx
    · exact hc
    · exact absurd hm (hf m (by omega))
  have hbw : b < w'.heap.size := by
    rcases Nat.lt_or_ge b w'.heap.size with h' | h'
    · exact h'
    · rw [Array.getElem?_eq_none h'] at hb; cases hb
  have hd := hp.delta
  have hnoD : ∀ b', ¬ Blks g ([] : Heap) (keys wr) b' := by rintro b' ⟨m, s, _, c2, _⟩; simp [Heap.get] at c2
  refine ⟨v, (g'.immSet b arr.size).cut nx, rfl, (sealR_V1 ha hl hb hr h0 hv).cut hnb, ⟨?_, fun m r hr hm => by simp [keys] at hm, fun m m' r r' b' hm => by simp [keys] at hm⟩⟩
  refine ⟨⟨fun m hm => ⟨hd.ext.use m hm, hlt m hm⟩, hd.ext.bd, hd.ext.loc, fun b' => ?_, hd.ext.cell⟩, hd.os, hd.tape, hd.output, hd.size, fun b' hb' _ => ?_, fun m hm => ?_, fun m hm _ => ?_, fun hi' b' hb' => ?_⟩
  · have := hd.ext.imm b'
    simp only [G.cut, G.immSet]
    split
    · rename_i e; subst e; omega
    · exact this
  · obtain ⟨e1, e2⟩ := hd.keep b' hb' (hnoD b')
    refine ⟨e1, ?_⟩
    simp only [G.cut, G.immSet]
    rw [if_neg (by omega)]
    exact e2
  · obtain ⟨m1, m2⟩ := hm
    rcases hd.names m m1 with c | c
    · exact .inl c
    · simp at c; omega
  · exact hd.bdk m hm (fun hc => by have := hw m hc; have := hlt m hm; omega)
  · have := hd.inv hi' b' hb'
    simp only [G.cut, G.immSet]
    rw [if_neg (by omega)]
    exact this
end Go.AL

set_option linter.unusedSimpArgs false
set_option linter.unusedVariables false
namespace Go.AL
open Go
theorem AV.le_V0 {g : G} {w : World} {a b : AV} {v : Value} (h : a.le b) (hv : V0 g w a v) : V0 g w b v := ⟨AV.le_R a h _ hv.1, by rw [AV.le_isAgg h]; exact hv.2⟩
theorem AV.le_undef {b : AV} (h : AV.undef.le b) : b = .undef := by
  have h : AV.undef = b := h
  exact h.symm
def outLe : AV → AV → Prop
  | .tup as, .tup bs => AV.les as bs
  | a, b => a.le b
theorem les_get : ∀ {as bs : List AV} (i : Nat) (x : AV), AV.les as bs → bs[i]? = some x → ∃ a, as[i]? = some a ∧ a.le x := by
  intro as
  induction as with
  | nil => intro bs i x h hx; have h : bs = [] := h; subst h; simp at hx
  | cons a as ih =>
    intro bs i x h hx
    obtain ⟨b, bs', rfl, q1, q2⟩ := h
    cases i with
    | zero => simp at hx; subst hx; exact ⟨a, rfl, q1⟩
    | succ i => exact ih i x q2 (by simpa using hx)
theorem outLe_V1 {g : G} {w : World} {a b : AV} {v : Value} (h : outLe a b) (hv : V1 g w a v) : V1 g w b v := by
  unfold outLe at h
  split at h
  · obtain ⟨ws, rfl, h3, h4⟩ := hv
    refine ⟨ws, rfl, (AV.les_length h).trans h3, fun i y z hy hz => ?_⟩
    obtain ⟨a, q1, q2⟩ := les_get i y h hy
    rcases h4 i a z q1 hz with q | q
    · subst q; exact .inl (AV.le_undef q2)
    · exact .inr (AV.le_V0 q2 q)
  · exact AV.le_V1 h hv
theorem FnSpec.outle {P : Program} {f nx k : Nat} {args : List AV} {Hc wr : Heap} {av av' : AV} (h : FnSpec P f nx args Hc av wr k) (hs : outLe av av') : FnSpec P f nx args Hc av' wr k := by
  refine ⟨h.1, fun vs g w hargs hi hH hf => (h.2 vs g w hargs hi hH hf).mono ?_⟩
  rintro e w' ⟨v, g', rfl, hv, hp⟩
  exact ⟨v, g', rfl, outLe_V1 hs hv, hp⟩

theorem FnSpec.empty {P : Program} {f nx k sz tok : Nat} {as : List AV} {Hc wr : Heap} {av : AV} (h1 : ∀ b n, FnSpec P f nx (.val (.slice b 0 n) :: as) Hc av wr k) : FnSpec P f nx (.sl sz [] tok :: as) Hc av wr k := by
  refine ⟨(h1 none 0).1, fun vs g w hargs hi hH hf => ?_⟩
  obtain ⟨hl, hv⟩ := hargs
  match hvs : vs.toList, hl with
  | v :: rest, hl =>
    rw [hvs] at hv
    have h0 := hv 0 _ v rfl rfl
    have key : ∀ b n, v = .slice b 0 n → Calls P f vs w fun e w' => ∃ v g', e = .returned v ∧ V1 g' w' av v ∧ StepPost g w Hc wr ((List.range k).map (nx + ·)) g' w' := by
      intro b n e
      subst e
      refine (h1 b n).2 vs g w ⟨by rw [hvs]; exact hl, fun i x y hx hy => ?_⟩ hi hH hf
      rw [hvs] at hy
      cases i with
      | zero => simp at hx hy; subst hx hy; exact V1_mk rfl
      | succ i => exact hv (i + 1) x y (by simpa using hx) (by simpa using hy)
    rcases V1_sl h0 with ⟨_, base, e⟩ | ⟨b, o, c, e, _⟩
    · exact key _ _ e
    · exact key _ _ e
end Go.AL

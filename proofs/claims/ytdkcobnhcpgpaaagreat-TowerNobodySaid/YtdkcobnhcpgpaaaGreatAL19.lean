/-
  The bridge: from a contract in abstract values to what a given statement asks, where all arguments are plain data.
-/
import Derived.Test.YtdkcobnhcpgpaaaGreatAL18
import Derived.ProofKit
import Derived.OpenShut
import Derived.Deep.Slices
set_option linter.unusedSimpArgs false
set_option linter.unusedVariables false
namespace Go.AL
open Go

def gOf (W : World) : G := ⟨fun _ => False, fun _ _ => none, fun _ => 0, fun b => match W.heap[b]? with | some (.cells arr _ _) => arr.size | _ => 0⟩
theorem gOf_inv (W : World) : Inv (gOf W) W := by
  intro b hb
  simp [gOf, Array.getElem?_eq_none hb]

/-- Types of plain data: no pointers, no maps, nothing that is held. -/
def plainT (P : Program) : Nat → TypeId → Bool
  | 0, _ => false
  | n + 1, t => isVar P t && rowFine P t && match P.underlying t with
    | some .bool | some (.int _) | some .string => true
    | some (.slice e) => decide (0 < P.cellsOf e) && plainT P n e
    | some (.array _ e) => plainT P n e
    | some (.struct fs) => fs.toList.all fun f => plainT P n f.type
    | _ => false

def TyF (C : TypeId → AV → Prop) : List TypeId → List AV → Prop
  | [], [] => True
  | t :: ts, a :: as => C t a ∧ TyF C ts as
  | _, _ => False
/-- What an abstract value of a plain type is. -/
def Ty (P : Program) : Nat → TypeId → AV → Prop
  | 0, _, _ => False
  | n + 1, t, a => match P.underlying t with
    | some .bool => ∃ b, a = .val (.bool b)
    | some (.int k) => ∃ x, a = .val (.int k x) ∧ k.min ≤ x ∧ x ≤ k.max
    | some .string => ∃ s : ByteArray, a = .val (.string s) ∧ s.size ≤ maxLen
    | some (.slice e) => ∃ L, a = .sl (P.cellsOf e) L 0 ∧ L.length ≤ maxLen ∧ ∀ x ∈ L, Ty P n e x
    | some (.array k e) => ∃ L, a = .vec (P.cellsOf e) L ∧ L.length = k ∧ ∀ x ∈ L, Ty P n e x
    | some (.struct fs) => ∃ L, a = .agg (P.cellsOf t) L ∧ TyF (Ty P n) (fs.toList.map (·.type)) L
    | _ => False

section
variable {H : Type} {enc : TypeId × Value → H} {P : Program} {w : World}

theorem seq_fields {C : TypeId → AV → Prop} {cs : List Value} : ∀ (fs : List Field) (off : Nat), (∀ (j : Nat) f, fs[j]? = some f → f.offset = off + ((fs.take j).map fun f => P.cellsOf f.type).sum) →
    cs.length = off + (fs.map fun f => P.cellsOf f.type).sum → (∀ f ∈ fs, ∃ a, R (gOf w) w (.one a ((cs.drop f.offset).take (P.cellsOf f.type))) ∧ C f.type a) →
    ∃ L, R (gOf w) w (.seq L (cs.drop off)) ∧ TyF C (fs.map (·.type)) L
  | [], off, _, hl, _ => ⟨[], by rw [List.drop_eq_nil_of_le (by simp at hl; omega)]; exact .seqNil, trivial⟩
  | f :: fs, off, ho, hl, hf => by
    have h0 : f.offset = off := by have := ho 0 f rfl; simpa using this
    obtain ⟨a, r1, r2⟩ := hf f (by simp)
    have hl' : cs.length = (off + P.cellsOf f.type) + (fs.map fun f => P.cellsOf f.type).sum := by simp at hl; omega
    obtain ⟨L, r3, r4⟩ := seq_fields (C := C) fs (off + P.cellsOf f.type) (fun j g hg => by
      have := ho (j + 1) g (by simpa using hg)
      simp only [List.take_succ_cons, List.map_cons, List.sum_cons] at this; omega) hl' (fun g hg => hf g (by simp [hg]))
    refine ⟨a :: L, ?_, r2, r4⟩
    rw [h0] at r1
    have : cs.drop off = (cs.drop off).take (P.cellsOf f.type) ++ cs.drop (off + P.cellsOf f.type) := by
      rw [← List.drop_drop, List.take_append_drop]
    rw [this]
    exact .seqCons r1 r3

theorem useq_elems {C : AV → Prop} {sz : Nat} : ∀ (n : Nat) (cs : List Value), cs.length = n * sz → (∀ i, i < n → ∃ a, R (gOf w) w (.one a ((cs.drop (i * sz)).take sz)) ∧ C a) →
    ∃ L, R (gOf w) w (.useq sz L cs) ∧ L.length = n ∧ ∀ x ∈ L, C x
  | 0, cs, hl, _ => ⟨[], by rw [List.eq_nil_of_length_eq_zero (by omega : cs.length = 0)]; exact .useqNil, rfl, by simp⟩
  | n + 1, cs, hl, hf => by
    obtain ⟨a, r1, r2⟩ := hf 0 (by omega)
    simp only [Nat.zero_mul, List.drop_zero] at r1
    obtain ⟨L, r3, r4, r5⟩ := useq_elems (C := C) (sz := sz) n (cs.drop sz) (by rw [List.length_drop, hl, Nat.add_mul]; omega) (fun i hi => by
      have := hf (i + 1) (by omega)
      rw [List.drop_drop]
      rw [show sz + i * sz = (i + 1) * sz by rw [Nat.add_mul]; omega]
      exact this)
    refine ⟨a :: L, ?_, by simp [r4], ?_⟩
    · rw [← List.take_append_drop sz cs]
      exact .useqCons r1 (by rw [List.length_take, hl, Nat.add_mul]; omega) r3
    · intro x hx
      rcases List.mem_cons.1 hx with rfl | hx
      · exact r2
      · exact r5 x hx

theorem cell_imm {b o : Nat} {v : Value} (h : w.cell? ⟨b, o, none⟩ = some v) : o < (gOf w).imm b := by
  cases hh : w.heap[b]? with
  | none => simp [World.cell?, hh] at h
  | some q =>
    cases q with
    | cells c t f =>
      simp [World.cell?, hh] at h
      simp only [gOf, hh]
      exact (Array.getElem?_eq_some_iff.1 h).1
    | _ => simp [World.cell?, hh] at h

theorem mem_elems {C : AV → Prop} {sz b : Nat} (hsz : 0 < sz) : ∀ (n o : Nat), (∀ i, i < n → ∃ cs a, cs.length = sz ∧ RowAt w b (o + i * sz) cs ∧ R (gOf w) w (.one a cs) ∧ C a) →
    ∃ L, R (gOf w) w (.mem sz L b o) ∧ L.length = n ∧ ∀ x ∈ L, C x
  | 0, o, _ => ⟨[], .memNil, rfl, by simp⟩
  | n + 1, o, hf => by
    obtain ⟨cs, a, r0, r1, r2, r3⟩ := hf 0 (by omega)
    simp only [Nat.zero_mul, Nat.add_zero] at r1
    obtain ⟨L, r4, r5, r6⟩ := mem_elems (C := C) hsz n (o + sz) (fun i hi => by
      obtain ⟨cs, a, q0, q1, q2, q3⟩ := hf (i + 1) (by omega)
      refine ⟨cs, a, q0, ?_, q2, q3⟩
      rw [show o + sz + i * sz = o + (i + 1) * sz by rw [Nat.add_mul]; omega]
      exact q1)
    refine ⟨a :: L, .memCons r2 r0 r1 ?_ r4, by simp [r5], ?_⟩
    · have h1 := r1 (sz - 1) (cs[sz - 1]'(by omega)) (List.getElem?_eq_getElem _)
      have := cell_imm h1
      omega
    · intro x hx
      rcases List.mem_cons.1 hx with rfl | hx
      · exact r3
      · exact r6 x hx

theorem Ty.bool {n : Nat} {t : TypeId} {b : Bool} (hu : P.underlying t = some .bool) : Ty P (n + 1) t (.val (.bool b)) := by
  simp only [Ty, hu]; exact ⟨_, rfl⟩
theorem Ty.int {n : Nat} {t : TypeId} {k : IntKind} {x : Int} (hu : P.underlying t = some (.int k)) (h1 : k.min ≤ x) (h2 : x ≤ k.max) : Ty P (n + 1) t (.val (.int k x)) := by
  simp only [Ty, hu]; exact ⟨_, rfl, h1, h2⟩
theorem Ty.str {n : Nat} {t : TypeId} {s : ByteArray} (hu : P.underlying t = some .string) (h1 : s.size ≤ maxLen) : Ty P (n + 1) t (.val (.string s)) := by
  simp only [Ty, hu]; exact ⟨_, rfl, h1⟩
theorem Ty.sl {n : Nat} {t e : TypeId} {L : List AV} (hu : P.underlying t = some (.slice e)) (h1 : L.length ≤ maxLen) (h2 : ∀ x ∈ L, Ty P n e x) : Ty P (n + 1) t (.sl (P.cellsOf e) L 0) := by
  simp only [Ty, hu]; exact ⟨_, rfl, h1, h2⟩
theorem Ty.arr {n k : Nat} {t e : TypeId} {L : List AV} (hu : P.underlying t = some (.array k e)) (h1 : L.length = k) (h2 : ∀ x ∈ L, Ty P n e x) : Ty P (n + 1) t (.vec (P.cellsOf e) L) := by
  simp only [Ty, hu]; exact ⟨_, rfl, h1, h2⟩
theorem Ty.struct {n : Nat} {t : TypeId} {fs : Array Field} {L : List AV} (hu : P.underlying t = some (.struct fs)) (h2 : TyF (Ty P n) (fs.toList.map (·.type)) L) : Ty P (n + 1) t (.agg (P.cellsOf t) L) := by
  simp only [Ty, hu]; exact ⟨_, rfl, h2⟩

theorem Ty.int_inv {n : Nat} {t : TypeId} {k : IntKind} {a : AV} (hu : P.underlying t = some (.int k)) (h : Ty P (n + 1) t a) : ∃ x, a = .val (.int k x) ∧ k.min ≤ x ∧ x ≤ k.max := by
  simp only [Ty, hu] at h; exact h
theorem Ty.bool_inv {n : Nat} {t : TypeId} {a : AV} (hu : P.underlying t = some .bool) (h : Ty P (n + 1) t a) : ∃ b, a = .val (.bool b) := by
  simp only [Ty, hu] at h; exact h
theorem Ty.str_inv {n : Nat} {t : TypeId} {a : AV} (hu : P.underlying t = some .string) (h : Ty P (n + 1) t a) : ∃ s : ByteArray, a = .val (.string s) ∧ s.size ≤ maxLen := by
  simp only [Ty, hu] at h; exact h
theorem Ty.sl_inv {n m : Nat} {t e : TypeId} {a : AV} (hu : P.underlying t = some (.slice e)) (hm : P.cellsOf e = m) (h : Ty P (n + 1) t a) : ∃ L, a = .sl m L 0 ∧ L.length ≤ maxLen ∧ ∀ x ∈ L, Ty P n e x := by
  simp only [Ty, hu, hm] at h; exact h
theorem Ty.arr_inv {n m k : Nat} {t e : TypeId} {a : AV} (hu : P.underlying t = some (.array k e)) (hm : P.cellsOf e = m) (h : Ty P (n + 1) t a) : ∃ L, a = .vec m L ∧ L.length = k ∧ ∀ x ∈ L, Ty P n e x := by
  simp only [Ty, hu, hm] at h; exact h
theorem Ty.struct_inv {n m : Nat} {t : TypeId} {fs : Array Field} {ts : List TypeId} {a : AV} (hu : P.underlying t = some (.struct fs)) (hm : P.cellsOf t = m) (hts : fs.toList.map (·.type) = ts) (h : Ty P (n + 1) t a) : ∃ L, a = .agg m L ∧ TyF (Ty P n) ts L := by
  simp only [Ty, hu, hm, hts] at h; exact h
theorem TyF.cons_inv {C : TypeId → AV → Prop} {t : TypeId} {ts : List TypeId} {L : List AV} (h : TyF C (t :: ts) L) : ∃ a as, L = a :: as ∧ C t a ∧ TyF C ts as := by
  cases L with
  | nil => exact h.elim
  | cons a as => exact ⟨a, as, rfl, h.1, h.2⟩
theorem TyF.nil_inv {C : TypeId → AV → Prop} {L : List AV} (h : TyF C [] L) : L = [] := by
  cases L with
  | nil => rfl
  | cons a as => exact h.elim
theorem list_inv {α : Type} {f : α → AV} {p : α → Prop} : ∀ {L : List AV}, (∀ x ∈ L, ∃ r, x = f r ∧ p r) → ∃ rs : List α, L = rs.map f ∧ ∀ r ∈ rs, p r
  | [], _ => ⟨[], rfl, by simp⟩
  | a :: L, h => by
    obtain ⟨r, rfl, hr⟩ := h a (by simp)
    obtain ⟨rs, rfl, hrs⟩ := list_inv (L := L) (fun x hx => h x (by simp [hx]))
    exact ⟨r :: rs, rfl, by simpa [hr] using hrs⟩

theorem trod_R : ∀ (n fuel : Nat) (t : TypeId) (cs : List Value) (x : DataW H × List MemPlace), plainT P n t = true → DataW.trod enc P w 0 (fun _ => true) true fuel t cs = some x →
    ∃ a, R (gOf w) w (.one a cs) ∧ Ty P n t a
  | 0, _, _, _, _, h, _ => by simp [plainT] at h
  | n + 1, fuel, t, cs, x, hp, h => by
    unfold plainT at hp
    simp only [Bool.and_eq_true] at hp
    obtain ⟨⟨hv, hr⟩, hp⟩ := hp
    have hrow := hr
    unfold rowFine at hrow
    rw [hv] at hrow
    simp only [Bool.not_true, Bool.false_or] at hrow
    split at hp
    · rename_i hu
      obtain ⟨b, rfl, _⟩ := DataW.trod_bool hu h
      exact ⟨_, .val rfl, .bool hu⟩
    · rename_i k hu
      obtain ⟨m, rfl, _, hw⟩ := DataW.trod_int hu h
      simp only [Lit.wf, Bool.and_eq_true, decide_eq_true_eq] at hw
      exact ⟨_, .val rfl, .int hu hw.1 hw.2⟩
    · rename_i hu
      obtain ⟨s, rfl, _, hs⟩ := DataW.trod_string hu h
      exact ⟨_, .val rfl, .str hu hs⟩
    · rename_i e hu
      simp only [Bool.and_eq_true, decide_eq_true_eq] at hp
      rcases Go.Deep.open_slice hu h with ⟨rfl, _⟩ | ⟨a, len, cap, m, q, D, Pl, rfl, _, h2, h3, h4, _, h5⟩
      · exact ⟨.sl (P.cellsOf e) [] 0, .slNil, .sl hu (by simp) (by simp)⟩
      · simp only [if_true] at h4
        subst h4
        by_cases h0 : m = 0
        · have hl0 : len = 0 := by omega
          subst h0 hl0
          exact ⟨.sl (P.cellsOf e) [] 0, .slNil, .sl hu (by simp) (by simp)⟩
        · -- the address is plain
          have hsp : a.spot = none := by
            obtain ⟨cs', k1, _⟩ := h5 0 (by omega)
            obtain ⟨_, k2, k3⟩ := World.cells?_some k1
            have := k3 0 (by omega)
            rw [List.getElem?_eq_getElem (by omega)] at this
            simp [World.cell?, Addr.add] at this
            split at this
            · cases hs : a.spot with
              | none => rfl
              | some q => rw [hs] at this; simp at this
            · cases this
          obtain ⟨b, o, sp⟩ := a
          simp only at hsp
          subst hsp
          obtain ⟨L, r1, r2, r3⟩ := mem_elems (w := w) (C := Ty P n e) hp.1 (b := b) len o (fun i hi => by
            obtain ⟨cs', k1, k2⟩ := h5 i (by omega)
            obtain ⟨_, k3, k4⟩ := World.cells?_some k1
            obtain ⟨a, q1, q2⟩ := trod_R n q e cs' _ hp.2 k2
            refine ⟨cs', a, k3, ?_, q1, q2⟩
            intro j v hj
            have hjl : j < cs'.length := by
              by_cases hc : j < cs'.length
              · exact hc
              · rw [List.getElem?_eq_none (by omega)] at hj; cases hj
            have := k4 j (by omega)
            rw [add_none, add_none, hj] at this
            exact this)
          subst r2
          exact ⟨.sl (P.cellsOf e) L 0, .sl h2 r1 trivial, .sl hu (by omega) r3⟩
    · rename_i k e hu
      rw [hu] at hrow
      simp only [Bool.and_eq_true, beq_iff_eq] at hrow
      obtain ⟨xs, m, _, _, h2, h3, h4⟩ := DataW.trod_array hu h
      obtain ⟨L, r1, r2, r3⟩ := useq_elems (w := w) (C := Ty P n e) k cs (h2.trans hrow.2) (fun i hi => by
        have := h4 i hi
        rw [List.getElem?_eq_getElem (by omega)] at this
        exact trod_R n m e _ _ hp this)
      exact ⟨.vec (P.cellsOf e) L, .vec r1, .arr hu r2 r3⟩
    · rename_i fs hu
      rw [hu] at hrow
      simp only [Bool.and_eq_true, beq_iff_eq, List.all_eq_true, List.mem_range] at hrow
      simp only [List.all_eq_true] at hp
      obtain ⟨xs, m, _, _, h2, h3, h4⟩ := DataW.trod_struct hu h
      obtain ⟨L, r1, r2⟩ := seq_fields (w := w) (P := P) (C := Ty P n) (cs := cs) fs.toList 0 (fun j f hf => by
        have hj : j < fs.toList.length := by
          by_cases hc : j < fs.toList.length
          · exact hc
          · rw [List.getElem?_eq_none (by omega)] at hf; cases hf
        have := hrow.2 j hj
        rw [hf] at this
        simpa using this) (by rw [h2, hrow.1.2]; simp) (fun f hf => by
        obtain ⟨j, hj⟩ := List.getElem?_of_mem hf
        have hj2 : fs[j]? = some f := by simpa using hj
        have h5 := h4 j f hj2
        have hjl : j < xs.length := by
          rw [h3]
          by_cases hc : j < fs.size
          · exact hc
          · rw [Array.getElem?_eq_none (by omega)] at hj2; cases hj2
        rw [List.getElem?_eq_getElem hjl] at h5
        exact trod_R n m f.type _ _ (hp f hf) h5)
      refine ⟨.agg (P.cellsOf t) L, ?_, .struct hu r2⟩
      simp only [List.drop_zero] at r1
      exact .agg r1 h2.symm
    · cases hp

/-- An argument. -/
theorem arg_V1 {n : Nat} {t : TypeId} {v : Value} {d : DataW H} {ps : List MemPlace} {base : Nat} (hp : plainT P n t = true) (h : DataW.Trod enc P w 0 (fun _ => true) true t v d ps) (hok : Value.okWide P w .any base t v) :
    ∃ a, V1 (gOf w) w a v ∧ Ty P n t a := by
  obtain ⟨fuel, h⟩ := h
  obtain ⟨a, r1, r2⟩ := trod_R n fuel t _ _ hp h
  refine ⟨a, .of_V0 ⟨r1, ?_⟩, r2⟩
  cases n with
  | zero => exact r2.elim
  | succ n =>
    unfold Ty at r2
    unfold Value.okWide at hok
    cases hu : P.underlying t with
    | none => rw [hu] at r2; exact r2.elim
    | some d =>
      rw [hu] at r2 hok
      cases d <;> simp only at r2 hok <;> try exact r2.elim
      · obtain ⟨b, rfl⟩ := r2
        simp only [Cell.okWide, Cell.ok, hu] at hok
        cases v <;> simp_all [isAggV, AV.isAgg]
      · obtain ⟨x, rfl, _⟩ := r2
        simp only [Cell.okWide, Cell.ok, hu] at hok
        cases v <;> simp_all [isAggV, AV.isAgg]
      · obtain ⟨x, rfl, _⟩ := r2
        simp only [Cell.okWide, Cell.ok, hu] at hok
        cases v <;> simp_all [isAggV, AV.isAgg]
      · obtain ⟨x, rfl, _⟩ := r2
        simp only [Cell.okWide, Cell.ok, hu] at hok
        cases v <;> simp_all [isAggV, AV.isAgg]
      · obtain ⟨x, rfl, _⟩ := r2
        obtain ⟨cs, rfl, _⟩ := hok
        rfl
      · obtain ⟨x, rfl, _⟩ := r2
        obtain ⟨cs, rfl, _⟩ := hok
        rfl

theorem args_V1 {n base : Nat} : ∀ (ts : List TypeId) (vs : List Value) (ds : List (DataW H)) (ps : List MemPlace), (∀ t ∈ ts, plainT P n t = true) → DataW.TrodAll enc P w 0 (fun _ => true) true ts vs ds ps →
    (∀ (j : Nat) t v, ts[j]? = some t → vs[j]? = some v → Value.okWide P w .any base t v) → ∃ as, ArgsOK (gOf w) w as vs ∧ TyF (Ty P n) ts as ∧ ds.length = ts.length
  | [], [], [], ps, _, h, _ => ⟨[], ⟨rfl, fun i x y hx => by simp at hx⟩, trivial, rfl⟩
  | t :: ts, v :: vs, d :: ds, ps, hp, h, hok => by
    obtain ⟨p, q, h1, h2, _⟩ := h
    obtain ⟨a, r1, r2⟩ := arg_V1 (hp t (by simp)) h1 (hok 0 t v rfl rfl)
    obtain ⟨as, r3, r4, r5⟩ := args_V1 ts vs ds q (fun t' ht => hp t' (by simp [ht])) h2 (fun j t' v' hj hv => hok (j + 1) t' v' (by simpa using hj) (by simpa using hv))
    refine ⟨a :: as, ⟨by simp [r3.1], fun i x y hx hy => ?_⟩, ⟨r2, r4⟩, by simp [r5]⟩
    cases i with
    | zero => simp at hx hy; subst hx hy; exact r1
    | succ i => exact r3.2 i x y (by simpa using hx) (by simpa using hy)
  | [], v :: vs, _, _, _, h, _ => by simp [DataW.TrodAll] at h
  | [], [], d :: ds, _, _, h, _ => by simp [DataW.TrodAll] at h
  | t :: ts, [], _, _, _, h, _ => by simp [DataW.TrodAll] at h
  | t :: ts, v :: vs, [], _, _, h, _ => by simp [DataW.TrodAll] at h

open Go.RowKit in
theorem trodAll_stays (hl : laidOutB P = true) {w' : World} (hb : Below w.heap.size w w') {sp : Nat → Bool} : ∀ (ts : List TypeId) (vs : List Value) (ds : List (DataW H)) (ps : List MemPlace), (∀ t ∈ ts, P.readableRec t = true ∧ t < P.types.size) →
    DataW.TrodAll enc P w 0 (fun _ => true) true ts vs ds ps → (∀ x ∈ ps, x.block < w.heap.size) → (∀ x ∈ ps, sp x.block = true) → DataW.TrodAll enc P w' 0 sp true ts vs ds ps
  | [], [], [], ps, _, h, _, _ => h
  | t :: ts, v :: vs, d :: ds, ps, hp, h, hlt, hsp => by
    obtain ⟨p, q, h1, h2, rfl⟩ := h
    refine ⟨p, q, ?_, trodAll_stays hl hb ts vs ds q (fun t' ht => hp t' (by simp [ht])) h2 (fun x hx => hlt x (by simp [hx])) (fun x hx => hsp x (by simp [hx])), rfl⟩
    exact WideElems.Trod_stays hl (hp t (by simp)).1 (hp t (by simp)).2 h1 (fun x hx => hb.same (hlt x (by simp [hx]))) (fun x hx => hsp x (by simp [hx]))
  | [], v :: vs, _, _, _, h, _, _ => by simp [DataW.TrodAll] at h
  | [], [], d :: ds, _, _, h, _, _ => by simp [DataW.TrodAll] at h
  | t :: ts, [], _, _, _, h, _, _ => by simp [DataW.TrodAll] at h
  | t :: ts, v :: vs, [], _, _, h, _, _ => by simp [DataW.TrodAll] at h

open Go.RowKit Go.ChangeShapes in
/-- As the kit's 'post_of_same', where of new blocks it is not asked that nothing in them is frozen. -/
theorem post_of_same_old {f : Func} {s : ChangeSpec} {apart fresh handsOn again : Bool} {W W' : World} {args : Array Value} {v : Value} {ds gs : List (DataW H)} {before pa pv : List MemPlace}
    (hW : DataW.Whole enc P f.params.toList s.vars apart W args.toList ds gs before)
    (hres : ∀ (b : Nat) (sp : Nat → Bool) (hd : Bool), DataW.TrodAll enc P W' b sp hd f.resultTypes.toList (v.resultList f.resultTypes.size) (s.fn H (ds ++ gs)).results [])
    (hargs : ∀ sp : Nat → Bool, (∀ p ∈ before, sp p.block = true) → DataW.TrodAll enc P W' 0 sp true f.params.toList args.toList (s.fn H (ds ++ gs)).args pa)
    (hvars : ∀ sp : Nat → Bool, (∀ p ∈ before, sp p.block = true) → DataW.TrodVars enc P W' sp s.vars (s.fn H (ds ++ gs)).vars pv)
    (hps : before = pa ++ pv) (hk : W.keptBut W' (· ∈ before)) (hfz : ∀ a : Addr, a.block < W.heap.size → W'.frozen? a = W.frozen? a)
    (hok : ∀ (j : Nat) (t : TypeId) (r : Value), f.resultTypes[j]? = some t → (v.resultList f.resultTypes.size)[j]? = some r → Value.okWide P W' .any 0 t r) :
    s.post enc P f apart fresh handsOn again W args v W' := by
  have hold : ∀ p ∈ before, (fun b => decide (b < W.heap.size)) p.block = true := fun p hp => by simpa using hW.lt p hp
  have hWW := hW
  refine ⟨ds, gs, before, [], pa, pv, hW, hres _ _ _, hargs _ hold, hvars _ hold, World.keptBut_mono (fun p hp => ⟨hp, ?_⟩) hk, fun _ => ?_⟩
  · rw [hps, List.mem_append] at hp
    exact Or.inr hp
  · obtain ⟨_, _, _, _, _, hz, hn⟩ := hW
    refine ⟨hok, _, _, ([] ++ pa) ++ pv, ⟨[] ++ pa, pv, trodAll_append (hargs _ (fun _ _ => rfl)) (hres _ _ _), hvars _ (fun _ _ => rfl), rfl, ?_, ?_⟩, ?_⟩
    · intro b off hp
      rw [hfz _ (hWW.lt _ (by rw [hps]; simpa using hp))]
      exact hz b off (by rw [hps]; simpa using hp)
    · intro ha
      have := hn ha
      rw [hps] at this
      simpa using this
    · intro p hp _
      rw [hps]
      simpa using hp

open Go.RowKit Go.ChangeShapes in
/-- **What a contract gives of a row that says 'true, and the arguments read as they did'.** -/
theorem post_of_spec {f n k tb : Nat} {fn : Func} {s : ChangeSpec} {apart fresh handsOn again : Bool} (hl : laidOutB P = true) (hvars : s.vars = []) (hfn : ∀ ds : List (DataW H), ds.length = fn.params.size → s.fn H ds = { results := [.lit (.bool true)], args := ds })
    (hpl : fn.params.toList.all (fun t => plainT P n t) = true) (hrd : fn.params.toList.all (fun t => P.readableRec t && decide (t < P.types.size)) = true) (hrt : fn.resultTypes = #[tb]) (htb : P.underlying tb = some .bool)
    (spec : ∀ as, TyF (Ty P n) fn.params.toList as → FnSpec P f 0 as [] (.val (.bool true)) [] k)
    (W : World) (base : Nat) (args : Array Value) (ds gs : List (DataW H)) (before : List MemPlace) (hok : ∀ (j : Nat) t v, fn.params[j]? = some t → args[j]? = some v → Value.okWide P W .any base t v)
    (hW : DataW.Whole enc P fn.params.toList s.vars apart W args.toList ds gs before) : Calls P f args W fun e W' => ∃ v, e = .returned v ∧ s.post enc P fn apart fresh handsOn again W args v W' := by
  have hW' := hW
  obtain ⟨p, q, hA, hV, rfl, hfz, hnd⟩ := hW
  rw [hvars] at hV
  obtain ⟨rfl, rfl⟩ := trodVars_none hV
  simp only [List.all_eq_true, Bool.and_eq_true, decide_eq_true_eq] at hpl hrd
  obtain ⟨as, r1, r2, r3⟩ := args_V1 (base := base) fn.params.toList args.toList ds p hpl hA (fun j t v hj hv => hok j t v (by simpa using hj) (by simpa using hv))
  refine ((spec as r2).2 args (gOf W) W r1 (gOf_inv W) ⟨fun n r h => by simp [Heap.get] at h, fun n n' r r' b h => by simp [Heap.get] at h⟩ (fun m _ h => h)).mono ?_
  rintro e W' ⟨v, g', rfl, hv, hd⟩
  obtain ⟨rfl, _⟩ := V1_val hv
  refine ⟨_, rfl, ?_⟩
  have hnd : ∀ b, ¬ Blks (gOf W) [] (keys ([] : Heap)) b := by rintro b ⟨n, r, h, _⟩; simp [keys] at h
  have hbelow : Below W.heap.size W W' := ⟨hd.delta.os, hd.delta.tape, hd.delta.output, hd.delta.size, fun b hb => (hd.delta.keep b hb (hnd b)).1⟩
  have hlen : (ds ++ ([] : List (DataW H))).length = fn.params.size := by rw [List.append_nil, r3]; simp
  have hlt : ∀ x ∈ p, x.block < W.heap.size := fun x hx => hW'.lt x (by simpa using hx)
  refine post_of_same_old (pa := p) (pv := []) hW' ?_ ?_ ?_ (by simp) (hbelow.frame _) (fun a ha => World.frozen?_of_block (w := W) ((hd.delta.keep a.block ha (hnd _)).1)) ?_
  · intro b sp hd
    rw [hfn _ hlen, hrt]
    exact trodAll_mk1 (shut_bool htb true)
  · intro sp hsp
    rw [hfn _ hlen]
    simp only [List.append_nil]
    exact trodAll_stays hl hbelow _ _ _ _ (fun t ht => hrd t ht) hA hlt (fun x hx => hsp x (by simpa using hx))
  · intro sp hsp
    rw [hfn _ hlen, hvars]
    rfl
  · exact ok_one hrt rfl (okWide_bool_mk htb true)
end
end Go.AL

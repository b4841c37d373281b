/-
  The layer AL, part 6d: operations on plain values, strings, slices cut, made, copied.
-/
import Derived.Test.YtdkcobnhcpgpaaaGreatAL6c
import Derived.Laws.Slices
set_option linter.unusedSimpArgs false
set_option linter.unusedVariables false
namespace Go.AL
open Go

def u8 (b : UInt8) : AV := .val (.int .u8 b.toNat)
def u8s (bs : List UInt8) : List AV := bs.map u8
def byteOf : AV → UInt8
  | .val (.int _ n) => UInt8.ofNat n.toNat
  | _ => 0
def isByte : AV → Prop
  | .val (.int .u8 _) => True
  | _ => False
/-- a list of bytes as text -/
def bstr (bs : List UInt8) : ByteArray := ⟨bs.toArray⟩

theorem byteOf_u8 (b : UInt8) : byteOf (u8 b) = b := by simp [byteOf, u8]
theorem bytesOf_u8s (bs : List UInt8) : (u8s bs).map byteOf = bs := by
  simp [u8s, List.map_map, Function.comp_def, byteOf_u8]
theorem isByte_u8s (bs : List UInt8) : ∀ a ∈ u8s bs, isByte a := by
  intro a ha
  obtain ⟨b, _, rfl⟩ := List.mem_map.1 ha
  trivial
theorem u8s_length (bs : List UInt8) : (u8s bs).length = bs.length := by simp [u8s]
theorem u8s_append (a b : List UInt8) : u8s a ++ u8s b = u8s (a ++ b) := by simp [u8s]
theorem u8_inj {a b : UInt8} (h : u8 a = u8 b) : a = b := by rw [← byteOf_u8 a, h, byteOf_u8]
theorem u8s_inj {a b : List UInt8} (h : u8s a = u8s b) : a = b := by rw [← bytesOf_u8s a, h, bytesOf_u8s]
theorem bstr_inj {a b : List UInt8} (h : bstr a = bstr b) : a = b := by
  have := congrArg (fun x => x.data.toList) h
  simpa [bstr] using this
theorem bstr_data (s : ByteArray) : bstr s.data.toList = s := by
  obtain ⟨⟨l⟩⟩ := s; rfl
theorem bstr_toList (b : List UInt8) : (bstr b).data.toList = b := rfl

section
variable {P : Program} {o : Oper} {env : Env} {H : Heap}

theorem op_eqAV {T U : TypeId} {x y : Operand} {neg : Bool} (ho : o.op = .binOp (if neg then .neq else .eql) T x y U) (hx : (evA env x).isAgg = true) (hy : (evA env y).isAgg = true) :
    OpOK P o env H ⟨teq P T = true ∧ cmpOK P 8 T (evA env x) ∧ cmpOK P 8 T (evA env y), .val (.bool (if neg then !eqB (evA env x) (evA env y) else eqB (evA env x) (evA env y))), [], [], []⟩ := by
  refine .pure fun ρ g w hop _ hvc => ?_
  obtain ⟨v1, v2, v3⟩ := hvc
  have h1 := hop x (by simp [Op.operands, ho])
  have h2 := hop y (by simp [Op.operands, ho])
  obtain ⟨xs, hxs, hxr⟩ := V1_agg h1 hx
  obtain ⟨ys, hys, hyr⟩ := V1_agg h2 hy
  have he := eq_run (P := P) 8 T _ _ _ _ (V0.of_agg hxr hx) (V0.of_agg hyr hy) v2 v3 10000 (by omega)
  have hm : P.eqGuardType P.depth T = false := by simpa [teq] using v1
  cases neg with
  | false =>
    refine ⟨_, ?_, V1_mk rfl⟩
    simp only [Bool.false_eq_true, if_false] at ho ⊢
    simp only [execOp, ho, hxs, hys, Sem.run_bind, run_eqGuard_agg w _ T x y xs ys hm, Result.andThen_ok, run_eql_struct w T xs ys, he, Sem.run_pure]
  | true =>
    refine ⟨_, ?_, V1_mk rfl⟩
    simp only [if_true] at ho ⊢
    simp only [execOp, ho, hxs, hys, Sem.run_bind, run_eqGuard_agg w _ T x y xs ys hm, Result.andThen_ok, run_neq_struct w T xs ys, he, Sem.run_pure]

theorem op_eqBool {T U : TypeId} {x y : Operand} {a b neg : Bool} (ho : o.op = .binOp (if neg then .neq else .eql) T x y U) (hx : evA env x = .val (.bool a)) (hy : evA env y = .val (.bool b)) :
    OpOK P o env H ⟨tbool P T = some (), .val (.bool (if neg then !(a == b) else a == b)), [], [], []⟩ := by
  refine .pure fun ρ g w hop _ hvc => ?_
  have h1 := hop x (by simp [Op.operands, ho])
  have h2 := hop y (by simp [Op.operands, ho])
  rw [hx] at h1; rw [hy] at h2
  obtain ⟨h5, _⟩ := V1_val h1
  obtain ⟨h6, _⟩ := V1_val h2
  have hg : ∀ op : BinOp, (eqGuard op T x y (.bool a) (.bool b)).run P w = .ok () w := by intro op; cases op <;> simp [eqGuard]
  cases neg with
  | false => exact ⟨_, by simp only [Bool.false_eq_true, if_false] at ho ⊢; simp only [execOp, ho, h5, h6, Sem.run_bind, hg, Result.andThen_ok, run_eql_bool w T a b (tbool_und hvc), Sem.run_pure], V1_mk rfl⟩
  | true => exact ⟨_, by simp only [if_true] at ho ⊢; simp only [execOp, ho, h5, h6, Sem.run_bind, hg, Result.andThen_ok, run_neq_bool w T a b (tbool_und hvc), Sem.run_pure], V1_mk rfl⟩

def strOp (op : BinOp) (a b : ByteArray) : Option (Prop × Value) :=
  match op with
  | .eql => some (True, .bool (decide (a = b)))
  | .neq => some (True, .bool (!decide (a = b)))
  | .add => some (a.size + b.size < 2 ^ 62, .string (a ++ b))
  | _ => none

theorem toList_beq (a b : ByteArray) : (a.toList == b.toList) = decide (a = b) := by rw [← beq_toListBytes, bytes_beq]

theorem op_str {op : BinOp} {T U : TypeId} {x y : Operand} {a b : ByteArray} {vc : Prop} {r : Value} (ho : o.op = .binOp op T x y U) (hx : evA env x = .val (.string a)) (hy : evA env y = .val (.string b)) (hr : strOp op a b = some (vc, r)) :
    OpOK P o env H ⟨vc, .val r, [], [], []⟩ := by
  refine .pure fun ρ g w hop _ hvc => ?_
  have h1 := hop x (by simp [Op.operands, ho])
  have h2 := hop y (by simp [Op.operands, ho])
  rw [hx] at h1; rw [hy] at h2
  obtain ⟨h5, _⟩ := V1_val h1
  obtain ⟨h6, _⟩ := V1_val h2
  have hg : (eqGuard op T x y (.string a) (.string b)).run P w = .ok () w := by cases op <;> simp [eqGuard]
  refine ⟨r, ?_, ?_⟩
  · simp only [execOp, ho, h5, h6, Sem.run_bind, hg, Result.andThen_ok]
    cases op <;> simp only [strOp, Option.some.injEq, Prod.mk.injEq, reduceCtorEq] at hr <;> obtain ⟨rfl, rfl⟩ := hr <;> simp [binOp, Op.stringOp, toList_beq]
    omega
  · cases op <;> simp only [strOp, Option.some.injEq, Prod.mk.injEq, reduceCtorEq] at hr <;> obtain ⟨rfl, rfl⟩ := hr <;> exact V1_mk rfl

/-! ### slices cut -/
def bndA (env : Env) (x : Option Operand) (d : Int) : Option Int :=
  match x with
  | none => some d
  | some y => match evA env y with
    | .val (.int _ i) => some i
    | _ => none

def Bnd (v : Option Value) (d i : Int) : Prop :=
  match v with
  | none => i = d
  | some u => ∃ k, u = .int k i

theorem bndA_ok {g : G} {w : World} {ρ : Operand → Value} {x : Option Operand} {d i : Int} (h : bndA env x d = some i) (hop : ∀ y, x = some y → V1 g w (evA env y) (ρ y)) : Bnd (x.map ρ) d i := by
  unfold bndA at h
  split at h
  · injection h with h; exact h.symm
  · rename_i y
    split at h
    · rename_i k n hy
      injection h with h; subst h
      have := hop y rfl
      rw [hy] at this
      exact ⟨k, (V1_val this).1⟩
    · cases h

theorem bounds_run {w : World} {isSlice : Bool} {len cap : Nat} {lo hi mx : Option Value} {l h m : Int} (h1 : Bnd lo 0 l) (h2 : Bnd hi len h) (h3 : Bnd mx cap m) (hm : mx.isSome = true → hi.isSome = true) (a1 : 0 ≤ l) (a2 : l ≤ h) (a3 : h ≤ m) (a4 : m ≤ cap) :
    (Instr.sliceBounds isSlice len cap lo hi mx).run P w = .ok (l.toNat, h.toNat, m.toNat) w := by
  have eh : (h.toNat : Int) = h := Int.toNat_of_nonneg (by omega)
  have em : (m.toNat : Int) = m := Int.toNat_of_nonneg (by omega)
  cases mx with
  | none =>
    have hm' : m = cap := h3
    subst hm'
    cases hi with
    | none =>
      have hh : h = len := h2
      subst hh
      cases lo with
      | none =>
        have hl : l = 0 := h1
        subst hl
        simp [Instr.sliceBounds]
      | some u =>
        obtain ⟨k, rfl⟩ := h1
        simp [Instr.sliceBounds, run_sliceBound, a1, a2]
    | some v =>
      obtain ⟨k, rfl⟩ := h2
      cases lo with
      | none =>
        have hl : l = 0 := h1
        subst hl
        simp [Instr.sliceBounds, run_sliceBound, a2, a3]
      | some u =>
        obtain ⟨k, rfl⟩ := h1
        simp [Instr.sliceBounds, run_sliceBound, a1, a2, a3, eh, show 0 ≤ h by omega]
  | some z =>
    obtain ⟨k, rfl⟩ := h3
    cases hi with
    | none => simp at hm
    | some v =>
      obtain ⟨k, rfl⟩ := h2
      cases lo with
      | none =>
        have hl : l = 0 := h1
        subst hl
        simp [Instr.sliceBounds, run_sliceBound, a2, a3, a4, em, show 0 ≤ m by omega]
      | some u =>
        obtain ⟨k, rfl⟩ := h1
        simp [Instr.sliceBounds, run_sliceBound, a1, a2, a3, a4, em, eh, show 0 ≤ m by omega, show 0 ≤ h by omega]

def slTok (tok : Nat) (lo hi mx : Option Operand) (h m : Int) : Nat :=
  match mx with
  | some _ => if h = m then 1 else 0
  | none => match hi with
    | some _ => 0
    | none => match lo with
      | some _ => if tok = 1 then 1 else 0
      | none => tok

/-- where the operands of a cut lie -/
theorem slice_ops {T : TypeId} {x : Operand} {lo hi mx : Option Operand} (ho : o.op = .slice T x lo hi mx) : x ∈ o.op.operands ∧ (∀ y, lo = some y → y ∈ o.op.operands) ∧ (∀ y, hi = some y → y ∈ o.op.operands) ∧ (∀ y, mx = some y → y ∈ o.op.operands) := by
  refine ⟨by simp [Op.operands, ho], fun y hy => ?_, fun y hy => ?_, fun y hy => ?_⟩ <;> subst hy <;> simp [Op.operands, ho]

theorem op_slice_sl {T e : TypeId} {x : Operand} {lo hi mx : Option Operand} {sz size tok : Nat} {L : List AV} {l h m : Int} (ho : o.op = .slice T x lo hi mx) (hx : evA env x = .sl sz L tok) (hT : tsl P T = some e) (hs : tsz P e = some size)
    (hl : bndA env lo 0 = some l) (hh : bndA env hi L.length = some h) (hm : bndA env mx L.length = some m) (hmh : mx.isSome = true → hi.isSome = true) :
    OpOK P o env H ⟨0 ≤ l ∧ l ≤ h ∧ h ≤ m ∧ m ≤ L.length ∧ (sz = size ∨ L = []), .sl sz ((L.take h.toNat).drop l.toNat) (slTok tok lo hi mx h m), [], [], []⟩ := by
  refine .pure fun ρ g w hop _ hvc => ?_
  obtain ⟨v1, v2, v3, v4, v5⟩ := hvc
  obtain ⟨o1, o2, o3, o4⟩ := slice_ops ho
  have h1 := hop x o1
  rw [hx] at h1
  have b1 := bndA_ok hl (fun y hy => hop y (o2 y hy))
  have b2 := bndA_ok hh (fun y hy => hop y (o3 y hy))
  have b3 := bndA_ok hm (fun y hy => hop y (o4 y hy))
  have run : ∀ (base : Option Addr) (c : Nat), ρ x = .slice base L.length c → L.length ≤ c → ∃ m' : Nat, (execOp ρ o).run P w = .ok (.value (.slice (if m' = l.toNat then base else base.map (·.add (l.toNat * size))) (h.toNat - l.toNat) (m' - l.toNat))) w ∧ h.toNat ≤ m' ∧ (mx = none → m' = c) ∧ (mx ≠ none → m' = m.toNat) := by
    intro base c hv hc
    have hmm : ∃ m' : Int, Bnd (mx.map ρ) c m' ∧ h ≤ m' ∧ m' ≤ c ∧ (mx = none → m' = c) ∧ (mx ≠ none → m' = m) := by
      cases mx with
      | none => exact ⟨c, rfl, by omega, Int.le_refl _, fun _ => rfl, fun h => absurd rfl h⟩
      | some z => exact ⟨m, b3, v3, by omega, (fun h => by cases h), (fun _ => rfl)⟩
    obtain ⟨m', c1, c2, c3, c4, c5⟩ := hmm
    have hb := bounds_run (P := P) (w := w) (isSlice := true) b1 b2 c1 (by simpa using hmh) v1 v2 c2 c3
    refine ⟨m'.toNat, ?_, by omega, fun hn => by have := c4 hn; omega, fun hn => by have := c5 hn; omega⟩
    simp [execOp, ho, Instr.sliceAt, run_underlying (tsl_und hT), Instr.slice, hv, hb, tsz_run hs]
  have hlen : ((L.take h.toNat).drop l.toNat).length = h.toNat - l.toNat := by rw [List.length_drop, List.length_take, Nat.min_eq_left (by omega)]
  rcases V1_sl h1 with ⟨rfl, base, hv⟩ | ⟨b, q, c, hv, hc, hmem, htok⟩
  · obtain ⟨m', r1, r2, r3, r4⟩ := run base 0 hv (Nat.le_refl _)
    refine ⟨_, r1, ?_⟩
    have e1 : h.toNat = 0 := by simp at v4; omega
    have e2 : l.toNat = 0 := by omega
    have e3 : m' = 0 := by
      by_cases hn : mx = none
      · exact r3 hn
      · have := r4 hn; simp at v4; omega
    simp only [e1, e2, e3, Nat.sub_zero, if_true, List.take_nil, List.drop_nil]
    exact V0.of_cell .slNil rfl
  · obtain ⟨m', r1, r2, r3, r4⟩ := run _ c hv hc
    refine ⟨_, r1, ?_⟩
    have hmc : m' ≤ c := by
      by_cases hn : mx = none
      · rw [r3 hn]; exact Nat.le_refl _
      · have := r4 hn; omega
    have hw : ∀ q' : Nat, R g w (.mem sz ((L.take h.toNat).drop l.toNat) b q') → TokOK g (slTok tok lo hi mx h m) b (h.toNat - l.toNat) (m' - l.toNat) (q' + (h.toNat - l.toNat) * sz) (q' + (m' - l.toNat) * sz) →
        V0 g w (.sl sz ((L.take h.toNat).drop l.toNat) (slTok tok lo hi mx h m)) (.slice (some ⟨b, q', none⟩) (h.toNat - l.toNat) (m' - l.toNat)) := by
      intro q' k1 k2
      have := R.sl (g := g) (w := w) (tok := slTok tok lo hi mx h m) (c := m' - l.toNat) (by rw [hlen]; omega) k1 (by rw [hlen]; exact k2)
      rw [hlen] at this
      exact V0.of_cell this rfl
    have hcut : R g w (.mem sz ((L.take h.toNat).drop l.toNat) b (q + l.toNat * sz)) := R.mem_drop l.toNat (R.mem_take h.toNat hmem) (by rw [List.length_take, Nat.min_eq_left (by omega)]; omega)
    have tk : ∀ q' : Nat, (lo = none → hi = none → mx = none → q' = q) → TokOK g (slTok tok lo hi mx h m) b (h.toNat - l.toNat) (m' - l.toNat) (q' + (h.toNat - l.toNat) * sz) (q' + (m' - l.toNat) * sz) := by
      intro q' hq'
      unfold slTok
      cases mx with
      | some z =>
        simp only
        split
        · show _ = _
          have := r4 (by simp); omega
        · trivial
      | none =>
        cases hi with
        | some z => trivial
        | none =>
          have hh' : h = L.length := by simpa [bndA] using hh.symm
          have hm' : m' = c := r3 rfl
          cases lo with
          | some z =>
            simp only
            split
            · rename_i ht
              rw [ht] at htok
              have : c = L.length := htok
              show _ = _
              omega
            · trivial
          | none =>
            have hl' : l = 0 := by simpa [bndA] using hl.symm
            have hq := hq' rfl rfl rfl
            subst hq hl' hm'
            have e : h.toNat = L.length := by omega
            simp only [Int.toNat_zero, Nat.sub_zero, e]
            exact htok
    split
    · rename_i em
      have e0 : (L.take h.toNat).drop l.toNat = [] := List.eq_nil_of_length_eq_zero (by rw [hlen]; omega)
      refine hw q (by rw [e0]; exact .memNil) (tk q (fun _ _ _ => rfl))
    · simp only [Option.map_some, add_none]
      rcases v5 with rfl | rfl
      · exact hw _ hcut (tk _ (fun hl0 _ _ => by
          subst hl0
          have hl' : l = 0 := by simpa [bndA] using hl.symm
          subst hl'; simp))
      · have e0 : (([] : List AV).take h.toNat).drop l.toNat = [] := by simp
        refine hw _ (by rw [e0]; exact .memNil) (tk _ (fun hl0 _ _ => by
          subst hl0
          have hl' : l = 0 := by simpa [bndA] using hl.symm
          subst hl'; simp))

theorem op_slice_str {T : TypeId} {x : Operand} {lo hi : Option Operand} {s : ByteArray} {l h : Int} (ho : o.op = .slice T x lo hi none) (hx : evA env x = .val (.string s)) (hT : tstr P T = some ())
    (hl : bndA env lo 0 = some l) (hh : bndA env hi s.size = some h) :
    OpOK P o env H ⟨0 ≤ l ∧ l ≤ h ∧ h ≤ s.size, .val (.string (s.extract l.toNat h.toNat)), [], [], []⟩ := by
  refine .pure fun ρ g w hop _ hvc => ?_
  obtain ⟨v1, v2, v3⟩ := hvc
  obtain ⟨o1, o2, o3, _⟩ := slice_ops ho
  have h1 := hop x o1
  rw [hx] at h1
  obtain ⟨hv, _⟩ := V1_val h1
  have b1 := bndA_ok hl (fun y hy => hop y (o2 y hy))
  have b2 := bndA_ok hh (fun y hy => hop y (o3 y hy))
  have hb := bounds_run (P := P) (w := w) (isSlice := false) (mx := none) (m := s.size) b1 b2 rfl (by simp) v1 v2 v3 (Int.le_refl _)
  exact ⟨_, by simp [execOp, ho, Instr.sliceAt, run_underlying (tstr_und hT), Instr.slice, hv, hb], V1_mk rfl⟩

/-- an array that stays what it is, cut -/
theorem op_slice_cref {T e : TypeId} {x : Operand} {lo hi mx : Option Operand} {sz n : Nat} {ps : List AV} {l h m : Int} (ho : o.op = .slice T x lo hi mx) (hx : evA env x = .cref (.vec sz ps)) (hT : tarr P T = some (n, e)) (hs : tsz P e = some sz)
    (hl : bndA env lo 0 = some l) (hh : bndA env hi n = some h) (hm : bndA env mx n = some m) (hmh : mx.isSome = true → hi.isSome = true) :
    OpOK P o env H ⟨0 ≤ l ∧ l ≤ h ∧ h ≤ m ∧ m ≤ n ∧ ps.length = n, .sl sz ((ps.take h.toNat).drop l.toNat) (if h = m then 1 else 0), [], [], []⟩ := by
  refine .pure fun ρ g w hop _ hvc => ?_
  obtain ⟨v1, v2, v3, v4, v5⟩ := hvc
  obtain ⟨o1, o2, o3, o4⟩ := slice_ops ho
  have h1 := hop x o1
  rw [hx] at h1
  obtain ⟨b, q, cs, hv, hr, hrow, him⟩ := V1_cref h1
  have b1 := bndA_ok hl (fun y hy => hop y (o2 y hy))
  have b2 := bndA_ok hh (fun y hy => hop y (o3 y hy))
  have b3 := bndA_ok hm (fun y hy => hop y (o4 y hy))
  have hb := bounds_run (P := P) (w := w) (isSlice := false) b1 b2 b3 (by simpa using hmh) v1 v2 v3 v4
  have hu : R g w (.useq sz ps cs) := by cases hr; assumption
  have hmem := R.mem_of hu hrow him
  have hlen : ((ps.take h.toNat).drop l.toNat).length = h.toNat - l.toNat := by rw [List.length_drop, List.length_take, Nat.min_eq_left (by omega)]
  refine ⟨_, by simp [execOp, ho, Instr.sliceAt, Instr.sureAddr, run_underlying (tarr_und hT), hv, hb, tsz_run hs]; rfl, ?_⟩
  have tk : TokOK g (if h = m then 1 else 0) b (h.toNat - l.toNat) (m.toNat - l.toNat) 0 0 := by
    split
    · rename_i e; subst e; rfl
    · trivial
  have tk' : ∀ a c, TokOK g (if h = m then 1 else 0) b (h.toNat - l.toNat) (m.toNat - l.toNat) a c := by
    intro a c
    split
    · rename_i e; subst e; rfl
    · trivial
  by_cases em : m.toNat = l.toNat
  · rw [if_pos em]
    have e0 : (ps.take h.toNat).drop l.toNat = [] := List.eq_nil_of_length_eq_zero (by rw [hlen]; omega)
    have := R.sl (g := g) (w := w) (sz := sz) (tok := if h = m then 1 else 0) (L := (ps.take h.toNat).drop l.toNat) (b := b) (o := q) (c := m.toNat - l.toNat) (by rw [hlen]; omega) (by rw [e0]; exact .memNil) (by rw [hlen]; exact tk' _ _)
    rw [hlen] at this
    exact V0.of_cell this rfl
  · rw [if_neg em, add_none]
    have := R.sl (g := g) (w := w) (sz := sz) (tok := if h = m then 1 else 0) (L := (ps.take h.toNat).drop l.toNat) (b := b) (o := q + l.toNat * sz) (c := m.toNat - l.toNat) (by rw [hlen]; omega)
      (R.mem_drop l.toNat (R.mem_take h.toNat hmem) (by rw [List.length_take, Nat.min_eq_left (by omega)]; omega)) (by rw [hlen]; exact tk' _ _)
    rw [hlen] at this
    exact V0.of_cell this rfl

/-- an array that is written, cut -/
theorem op_slice_ref {T e : TypeId} {x : Operand} {lo hi mx : Option Operand} {sz n nn off : Nat} {path : List Nat} {l h m : Int} (ho : o.op = .slice T x lo hi mx) (hx : evA env x = .ref nn off path) (hT : tarr P T = some (n, e)) (hs : tsz P e = some sz)
    (hl : bndA env lo 0 = some l) (hh : bndA env hi n = some h) (hm : bndA env mx n = some m) (hmh : mx.isSome = true → hi.isSome = true) :
    OpOK P o env H ⟨0 ≤ l ∧ l ≤ h ∧ h ≤ m ∧ m ≤ n ∧ (l < m ∨ l = 0), .aref nn off path sz l.toNat (h.toNat - l.toNat), [], [], []⟩ := by
  refine .pure fun ρ g w hop _ hvc => ?_
  obtain ⟨v1, v2, v3, v4, v5⟩ := hvc
  obtain ⟨o1, o2, o3, o4⟩ := slice_ops ho
  have h1 := hop x o1
  rw [hx] at h1
  obtain ⟨b, z, hv, hu, hloc⟩ := V1_ref h1
  have b1 := bndA_ok hl (fun y hy => hop y (o2 y hy))
  have b2 := bndA_ok hh (fun y hy => hop y (o3 y hy))
  have b3 := bndA_ok hm (fun y hy => hop y (o4 y hy))
  have hb := bounds_run (P := P) (w := w) (isSlice := false) b1 b2 b3 (by simpa using hmh) v1 v2 v3 v4
  refine ⟨_, by simp [execOp, ho, Instr.sliceAt, Instr.sureAddr, run_underlying (tarr_und hT), hv, hb, tsz_run hs]; rfl, ?_⟩
  have e : (if m.toNat = l.toNat then (⟨b, off, none⟩ : Addr) else (⟨b, off, none⟩ : Addr).add (l.toNat * sz)) = ⟨b, off + l.toNat * sz, none⟩ := by
    split
    · have : l.toNat = 0 := by omega
      rw [this]; simp
    · rw [add_none]
  rw [e]
  exact V0.of_cell (.aref hu hloc (by omega)) rfl

/-- a part of an array that is written, cut -/
theorem op_slice_aref {T e : TypeId} {x : Operand} {lo hi : Option Operand} {sz nn off lo0 len : Nat} {path : List Nat} {l h : Int} (ho : o.op = .slice T x lo hi none) (hx : evA env x = .aref nn off path sz lo0 len) (hT : tsl P T = some e) (hs : tsz P e = some sz)
    (hl : bndA env lo 0 = some l) (hh : bndA env hi len = some h) :
    OpOK P o env H ⟨0 ≤ l ∧ l ≤ h ∧ h ≤ len ∧ (l < len ∨ l = 0), .aref nn off path sz (lo0 + l.toNat) (h.toNat - l.toNat), [], [], []⟩ := by
  refine .pure fun ρ g w hop _ hvc => ?_
  obtain ⟨v1, v2, v3, v5⟩ := hvc
  obtain ⟨o1, o2, o3, o4⟩ := slice_ops ho
  have h1 := hop x o1
  rw [hx] at h1
  obtain ⟨b, z, c, hv, hu, hloc, hc⟩ := V1_aref h1
  have b1 := bndA_ok hl (fun y hy => hop y (o2 y hy))
  have b2 := bndA_ok hh (fun y hy => hop y (o3 y hy))
  have hb := bounds_run (P := P) (w := w) (isSlice := true) (len := len) (cap := c) (mx := none) (m := c) b1 b2 rfl (by simp) v1 v2 (by omega) (Int.le_refl _)
  refine ⟨_, by simp [execOp, ho, Instr.sliceAt, Instr.slice, run_underlying (tsl_und hT), hv, hb, tsz_run hs]; rfl, ?_⟩
  have e : (if c = l.toNat then some (⟨b, off + lo0 * sz, none⟩ : Addr) else some ((⟨b, off + lo0 * sz, none⟩ : Addr).add (l.toNat * sz))) = some ⟨b, off + (lo0 + l.toNat) * sz, none⟩ := by
    split
    · have : l.toNat = 0 := by omega
      rw [this]; simp
    · rw [add_none, Nat.add_mul, Nat.add_assoc]
  rw [e]
  exact V0.of_cell (.aref hu hloc (by omega)) rfl
end
end Go.AL

/-
  The layer AL, part 4: what single operations do, told of abstract values.
-/
import Derived.Test.YtdkcobnhcpgpaaaGreatAL3
import Derived.Laws.NewBlocks
set_option linter.unusedSimpArgs false
set_option linter.unusedVariables false
namespace Go.AL
open Go

structure Out where
  vc : Prop
  av : AV
  rd : List Nat
  wr : Heap
  nw : List Nat

def constAV : Value → AV
  | .slice none 0 0 => .sl 0 [] 1
  | .agg _ | .tuple _ => .undef
  | v => .val v

def evA (env : Env) : Operand → AV
  | .tmp t => env.get t
  | .const v => constAV v
  | .func f => .clos f []
  | .global _ => .undef

theorem V1_const (g : G) (w : World) (v : Value) : V1 g w (constAV v) v := by
  unfold constAV
  split
  · exact V0.of_cell .slNil rfl
  · trivial
  · trivial
  · rename_i h1 h2 h3
    refine V0.of_cell (.val ?_) rfl
    cases v <;> first | rfl | exact absurd rfl (h2 _) | exact absurd rfl (h3 _)

/-- What an operation comes to, wherever its operands stand for these abstract values and the names that it looks at are as told. -/
def OpOK (P : Program) (o : Oper) (env : Env) (H : Heap) (out : Out) : Prop :=
  ∀ (ρ : Operand → Value) (g : G) (w : World), (∀ v, ρ (.const v) = v) → (∀ x ∈ o.op.operands, V1 g w (evA env x) (ρ x)) → Inv g w →
    (∀ n, n ∈ out.rd ∨ n ∈ keys out.wr → ∀ r, H.get n = some r → resOK g w n r) → (∀ n ∈ out.nw, ¬ g.use n) → out.vc →
    ∃ g' w' v, ((execOp ρ o).run P w = .ok (.value v) w' ∨ ((execOp ρ o).run P w = .ok .skip w' ∧ v = Go.undef)) ∧ V1 g' w' out.av v ∧ StepPost g w H out.wr out.nw g' w'

/-- A simple operation: it leaves the world as it was. -/
theorem OpOK.pure {P : Program} {o : Oper} {env : Env} {H : Heap} {vc : Prop} {av : AV} {rd : List Nat}
    (h : ∀ (ρ : Operand → Value) (g : G) (w : World), (∀ x ∈ o.op.operands, V1 g w (evA env x) (ρ x)) → (∀ n ∈ rd, ∀ r, H.get n = some r → resOK g w n r) → vc →
      ∃ v, (execOp ρ o).run P w = .ok (.value v) w ∧ V1 g w av v) : OpOK P o env H ⟨vc, av, rd, [], []⟩ := by
  intro ρ g w _ hop _ hrd _ hvc
  obtain ⟨v, h1, h2⟩ := h ρ g w hop (fun n hn => hrd n (.inl hn)) hvc
  exact ⟨g, w, v, .inl h1, h2, StepPost.same g w H []⟩

/-! ### what is read off the table of types -/
def tsz (P : Program) (T : TypeId) : Option Nat := (P.info? T).map (·.size)
def tby (P : Program) (T : TypeId) : Option Nat := (P.info? T).map (·.bytes)
def dagg : TypeDesc → Bool
  | .struct _ | .array _ _ => true
  | _ => false
def tagg (P : Program) (T : TypeId) : Option Bool := (P.underlying T).map dagg
def tfld (P : Program) (T : TypeId) (i : Nat) : Option (Nat × TypeId) :=
  match P.underlying T with
  | some (.struct fs) => (fs[i]?).map fun f => (f.offset, f.type)
  | _ => none
def tsl (P : Program) (T : TypeId) : Option TypeId :=
  match P.underlying T with
  | some (.slice e) => some e
  | _ => none
def tarr (P : Program) (T : TypeId) : Option (Nat × TypeId) :=
  match P.underlying T with
  | some (.array n e) => some (n, e)
  | _ => none
def tptr (P : Program) (T : TypeId) : Option TypeId :=
  match P.underlying T with
  | some (.pointer e) => some e
  | _ => none
def tint (P : Program) (T : TypeId) : Option IntKind :=
  match P.underlying T with
  | some (.int k) => some k
  | _ => none
def tstr (P : Program) (T : TypeId) : Option Unit :=
  match P.underlying T with
  | some .string => some ()
  | _ => none

theorem tsz_run {P : Program} {T : TypeId} {n : Nat} (h : tsz P T = some n) (w : World) : (sizeOf T).run P w = .ok n w := by
  unfold tsz at h
  cases hq : P.info? T with
  | none => simp [hq] at h
  | some i => simp [hq] at h; simp [sizeOf, typeInfo, hq, h]
theorem tby_run {P : Program} {T : TypeId} {n : Nat} (h : tby P T = some n) (w : World) : ∃ i, (typeInfo T).run P w = .ok i w ∧ i.bytes = n := by
  unfold tby at h
  cases hq : P.info? T with
  | none => simp [hq] at h
  | some i => simp [hq] at h; exact ⟨i, by simp [typeInfo, hq], h⟩
theorem tagg_run {P : Program} {T : TypeId} {b : Bool} (h : tagg P T = some b) (w : World) : (isAgg T).run P w = .ok b w := by
  unfold tagg at h
  cases hq : P.underlying T with
  | none => simp [hq] at h
  | some d =>
    simp [hq] at h
    unfold isAgg
    rw [Sem.run_bind, run_underlying hq w]
    subst h
    cases d <;> rfl
theorem tfld_und {P : Program} {T : TypeId} {i o : Nat} {t : TypeId} (h : tfld P T i = some (o, t)) : ∃ fs f, P.underlying T = some (.struct fs) ∧ fs[i]? = some f ∧ f.offset = o ∧ f.type = t := by
  unfold tfld at h
  split at h
  · rename_i fs hu
    simp only [Option.map_eq_some_iff] at h
    obtain ⟨f, h1, h2⟩ := h
    simp at h2
    exact ⟨fs, f, hu, h1, h2.1, h2.2⟩
  · cases h
theorem tsl_und {P : Program} {T e : TypeId} (h : tsl P T = some e) : P.underlying T = some (.slice e) := by
  unfold tsl at h; split at h <;> simp_all
theorem tarr_und {P : Program} {T e : TypeId} {n : Nat} (h : tarr P T = some (n, e)) : P.underlying T = some (.array n e) := by
  unfold tarr at h; split at h <;> simp_all
theorem tptr_und {P : Program} {T e : TypeId} (h : tptr P T = some e) : P.underlying T = some (.pointer e) := by
  unfold tptr at h; split at h <;> simp_all
theorem tint_und {P : Program} {T : TypeId} {k : IntKind} (h : tint P T = some k) : P.underlying T = some (.int k) := by
  unfold tint at h; split at h <;> simp_all
theorem tstr_und {P : Program} {T : TypeId} (h : tstr P T = some ()) : P.underlying T = some .string := by
  unfold tstr at h; split at h <;> simp_all

theorem add_none (b o i : Nat) : (⟨b, o, none⟩ : Addr).add i = ⟨b, o + i, none⟩ := by
  unfold Addr.add; split <;> simp_all

theorem loadCells_row {P : Program} {w : World} {b o : Nat} {cs : List Value} (h : RowAt w b o cs) (n : Nat) (hn : n = cs.length) : (loadCells ⟨b, o, none⟩ n).run P w = .ok cs.toArray w := by
  subst hn
  exact run_loadCells_list (P := P) w ⟨b, o, none⟩ cs (fun j v hv => by rw [add_none]; exact h j v hv)

theorem loadVar_row {P : Program} {g : G} {w : World} {b o : Nat} {cs : List Value} {a : AV} {T : TypeId} (hr : R g w (.one a cs)) (h : RowAt w b o cs) (hs : tsz P T = some a.csize) (ha : tagg P T = some a.isAgg) :
    ∃ v, (loadVar T ⟨b, o, none⟩).run P w = .ok v w ∧ V0 g w a v := by
  have hl := hr.length
  cases hagg : a.isAgg with
  | true =>
    rw [hagg] at ha
    refine ⟨.agg cs.toArray, ?_, V0.of_agg (by simpa using hr) hagg⟩
    unfold loadVar
    simp [tagg_run ha, tsz_run hs, loadCells_row h a.csize (by omega)]
  | false =>
    rw [hagg] at ha
    obtain ⟨v, rfl, hv⟩ := hr.single hagg
    refine ⟨v, ?_, V0.of_cell hr hagg⟩
    have hc : w.cell? ⟨b, o, none⟩ = some v := by have := h 0 v rfl; simpa using this
    unfold loadVar
    simp [tagg_run ha]
    rw [hc]

theorem RowAt.of_heap {w : World} {b : Nat} {arr : Array Value} {T : TypeId} {fz : Nat × Nat} (h : w.heap[b]? = some (.cells arr T fz)) : RowAt w b 0 arr.toList := by
  intro j v hj
  simp only [World.cell?, h, Nat.zero_add]
  simpa using hj

theorem V1_val {g : G} {w : World} {u v : Value} (h : V1 g w (.val u) v) : v = u ∧ u.oneCell' = true := by
  have h4 := (V0.cell h rfl).1
  generalize hs : Sh.one (.val u) [v] = s at h4
  cases h4 <;> simp at hs
  obtain ⟨rfl, rfl⟩ := hs
  exact ⟨rfl, by assumption⟩
theorem V1_mk {g : G} {w : World} {u : Value} (h : u.oneCell' = true) : V1 g w (.val u) u := V0.of_cell (.val h) rfl
theorem V1_ref {g : G} {w : World} {n off : Nat} {path : List Nat} {v : Value} (h : V1 g w (.ref n off path) v) : ∃ b x, v = .pointer (some ⟨b, off, none⟩) ∧ g.use n ∧ g.loc n 0 = some (b, x) := by
  have h4 := (V0.cell h rfl).1
  generalize hs : Sh.one (.ref n off path) [v] = s at h4
  cases h4 <;> simp at hs
  obtain ⟨⟨rfl, rfl, rfl⟩, rfl⟩ := hs
  exact ⟨_, _, rfl, by assumption, by assumption⟩
theorem V1_cref {g : G} {w : World} {a : AV} {v : Value} (h : V1 g w (.cref a) v) : ∃ b o cs, v = .pointer (some ⟨b, o, none⟩) ∧ R g w (.one a cs) ∧ RowAt w b o cs ∧ o + cs.length ≤ g.imm b := by
  have h4 := (V0.cell h rfl).1
  generalize hs : Sh.one (.cref a) [v] = s at h4
  cases h4 <;> simp at hs
  obtain ⟨rfl, rfl⟩ := hs
  exact ⟨_, _, _, rfl, by assumption, by assumption, by assumption⟩
theorem V1_sl {g : G} {w : World} {sz tok : Nat} {L : List AV} {v : Value} (h : V1 g w (.sl sz L tok) v) :
    (L = [] ∧ ∃ base, v = .slice base 0 0) ∨ ∃ b o c, v = .slice (some ⟨b, o, none⟩) L.length c ∧ L.length ≤ c ∧ R g w (.mem sz L b o) ∧ TokOK g tok b L.length c (o + L.length * sz) (o + c * sz) := by
  have h4 := (V0.cell h rfl).1
  generalize hs : Sh.one (.sl sz L tok) [v] = s at h4
  cases h4 <;> simp at hs
  · obtain ⟨⟨rfl, rfl, rfl⟩, rfl⟩ := hs; exact .inl ⟨rfl, _, rfl⟩
  · obtain ⟨⟨rfl, rfl, rfl⟩, rfl⟩ := hs; exact .inr ⟨_, _, _, rfl, by assumption, by assumption, by assumption⟩
theorem V1_aref {g : G} {w : World} {n off sz lo len : Nat} {path : List Nat} {v : Value} (h : V1 g w (.aref n off path sz lo len) v) :
    ∃ b x c, v = .slice (some ⟨b, off + lo * sz, none⟩) len c ∧ g.use n ∧ g.loc n 0 = some (b, x) ∧ len ≤ c := by
  have h4 := (V0.cell h rfl).1
  generalize hs : Sh.one (.aref n off path sz lo len) [v] = s at h4
  cases h4 <;> simp at hs
  obtain ⟨⟨rfl, rfl, rfl, rfl, rfl, rfl⟩, rfl⟩ := hs
  exact ⟨_, _, _, rfl, by assumption, by assumption, by assumption⟩
theorem V1_map {g : G} {w : World} {n : Nat} {v : Value} (h : V1 g w (.map n) v) : ∃ b x, v = .map (some b) ∧ g.use n ∧ g.loc n 0 = some (b, x) := by
  have h4 := (V0.cell h rfl).1
  generalize hs : Sh.one (.map n) [v] = s at h4
  cases h4 <;> simp at hs
  obtain ⟨rfl, rfl⟩ := hs
  exact ⟨_, _, rfl, by assumption, by assumption⟩
theorem V1_clos {g : G} {w : World} {f : Nat} {caps : List AV} {v : Value} (h : V1 g w (.clos f caps) v) : ∃ cs, v = .func (.func f) #[] cs.toArray ∧ R g w (.useq 1 caps cs) ∧ ∀ a ∈ caps, a.isAgg = false := by
  have h4 := (V0.cell h rfl).1
  generalize hs : Sh.one (.clos f caps) [v] = s at h4
  cases h4 <;> simp at hs
  obtain ⟨⟨rfl, rfl⟩, rfl⟩ := hs
  exact ⟨_, rfl, by assumption, by assumption⟩
theorem V1_agg {g : G} {w : World} {a : AV} {v : Value} (h : V1 g w a v) (ha : a.isAgg = true) : ∃ cs, v = .agg cs ∧ R g w (.one a cs.toList) := by
  cases a <;> simp [AV.isAgg] at ha <;> exact V0.agg h rfl

section
variable {P : Program} {o : Oper} {env : Env} {H : Heap}

theorem op_move {x : Operand} (ho : o.op = .move x ∨ o.op = .assign x) : OpOK P o env H ⟨True, evA env x, [], [], []⟩ := by
  refine .pure fun ρ g w hop _ _ => ⟨ρ x, ?_, hop x ?_⟩
  · rcases ho with ho | ho <;> simp [execOp, ho]
  · rcases ho with ho | ho <;> simp [Op.operands, ho]

def pickA : Bool → AV → AV → AV
  | true, a, _ => a
  | false, _, b => b

theorem op_pick {c x y : Operand} {b : Bool} (ho : o.op = .pick c x y) (hc : evA env c = .val (.bool b)) : OpOK P o env H ⟨True, pickA b (evA env x) (evA env y), [], [], []⟩ := by
  refine .pure fun ρ g w hop _ _ => ?_
  have h1 := hop c (by simp [Op.operands, ho])
  have h2 := hop x (by simp [Op.operands, ho])
  have h3 := hop y (by simp [Op.operands, ho])
  rw [hc] at h1
  obtain ⟨h5, _⟩ := V1_val h1
  refine ⟨if b then ρ x else ρ y, ?_, ?_⟩
  · simp [execOp, ho, h5, asBool]
  · cases b <;> simpa [pickA]

theorem op_not {x : Operand} {T : TypeId} {b : Bool} (ho : o.op = .unOp .not T x) (hx : evA env x = .val (.bool b)) : OpOK P o env H ⟨True, .val (.bool !b), [], [], []⟩ := by
  refine .pure fun ρ g w hop _ _ => ?_
  have h1 := hop x (by simp [Op.operands, ho])
  rw [hx] at h1
  obtain ⟨h5, _⟩ := V1_val h1
  exact ⟨_, by simp [execOp, ho, h5, Op.unary], V1_mk rfl⟩

theorem op_neg {x : Operand} {T : TypeId} {k : IntKind} {n : Int} (ho : o.op = .unOp .neg T x) (hx : evA env x = .val (.int k n)) : OpOK P o env H ⟨True, .val (.int k (k.wrap (0 - n))), [], [], []⟩ := by
  refine .pure fun ρ g w hop _ _ => ?_
  have h1 := hop x (by simp [Op.operands, ho])
  rw [hx] at h1
  obtain ⟨h5, _⟩ := V1_val h1
  exact ⟨_, by simp [execOp, ho, h5, Op.unary, Op.intArith], V1_mk rfl⟩

theorem op_xor1 {x : Operand} {T : TypeId} {k : IntKind} {n : Int} (ho : o.op = .unOp .xor T x) (hx : evA env x = .val (.int k n)) :
    OpOK P o env H ⟨True, .val (.int k (k.wrap (BitVec.ofInt k.bits (if k.signed then -1 else k.max) ^^^ BitVec.ofInt k.bits n).toNat)), [], [], []⟩ := by
  refine .pure fun ρ g w hop _ _ => ?_
  have h1 := hop x (by simp [Op.operands, ho])
  rw [hx] at h1
  obtain ⟨h5, _⟩ := V1_val h1
  exact ⟨_, by simp [execOp, ho, h5, Op.unary, Op.intBits], V1_mk rfl⟩

/-- Whole numbers under an operator: what has to hold, and what comes. -/
def intOp (op : BinOp) (k : IntKind) (a b : Int) : Option (Prop × Value) :=
  match op with
  | .add => some (True, .int k (k.wrap (a + b)))
  | .sub => some (True, .int k (k.wrap (a - b)))
  | .mul => some (True, .int k (k.wrap (a * b)))
  | .quo => some (b ≠ 0, .int k (k.wrap (a.tdiv b)))
  | .rem => some (b ≠ 0, .int k (a.tmod b))
  | .and => some (True, .int k (k.wrap (BitVec.ofInt k.bits a &&& BitVec.ofInt k.bits b).toNat))
  | .or => some (True, .int k (k.wrap (BitVec.ofInt k.bits a ||| BitVec.ofInt k.bits b).toNat))
  | .xor => some (True, .int k (k.wrap (BitVec.ofInt k.bits a ^^^ BitVec.ofInt k.bits b).toNat))
  | .andNot => some (True, .int k (k.wrap (BitVec.ofInt k.bits a &&& ~~~(BitVec.ofInt k.bits b)).toNat))
  | .shl => some (0 ≤ b, .int k (k.wrap (a * 2 ^ (min b.toNat k.bits))))
  | .shr => some (0 ≤ b, .int k (a.fdiv (2 ^ (min b.toNat k.bits))))
  | .eql => some (True, .bool (decide (a = b)))
  | .neq => some (True, .bool (!decide (a = b)))
  | .lss => some (True, .bool (decide (a < b)))
  | .leq => some (True, .bool (decide (a ≤ b)))
  | .gtr => some (True, .bool (decide (b < a)))
  | .geq => some (True, .bool (decide (b ≤ a)))

theorem op_int {op : BinOp} {x y : Operand} {T U : TypeId} {k k' : IntKind} {a b : Int} {vc : Prop} {r : Value} (ho : o.op = .binOp op T x y U) (hx : evA env x = .val (.int k a)) (hy : evA env y = .val (.int k' b))
    (hk : op = .shl ∨ op = .shr ∨ k = k') (hr : intOp op k a b = some (vc, r)) : OpOK P o env H ⟨vc, .val r, [], [], []⟩ := by
  refine .pure fun ρ g w hop _ hvc => ?_
  have h1 := hop x (by simp [Op.operands, ho])
  have h2 := hop y (by simp [Op.operands, ho])
  rw [hx] at h1
  rw [hy] at h2
  obtain ⟨h5, _⟩ := V1_val h1
  obtain ⟨h6, _⟩ := V1_val h2
  have hg : ∀ u v : Operand, (eqGuard op T u v (.int k a) (.int k' b)).run P w = .ok () w := by
    intro u v
    unfold eqGuard
    cases op <;> simp
  refine ⟨r, ?_, ?_⟩
  · simp only [execOp, ho, h5, h6, Sem.run_bind, hg, Result.andThen_ok]
    cases op <;> simp only [intOp, Option.some.injEq, Prod.mk.injEq, reduceCtorEq] at hr <;> obtain ⟨rfl, rfl⟩ := hr <;>
      simp only [reduceCtorEq, false_or, true_or, or_true] at hk <;> try subst hk
    all_goals simp [binOp, Op.intArith, Op.intDiv, Op.intBits, Op.intCmp, Op.shift]
    all_goals first
      | (intro h; exact absurd h (by omega))
      | rfl
      | (by_cases h : a = b <;> simp [h])
  · cases op <;> simp only [intOp, Option.some.injEq, Prod.mk.injEq, reduceCtorEq] at hr <;> obtain ⟨_, rfl⟩ := hr <;> exact V1_mk rfl

theorem op_convInt {x : Operand} {S T : TypeId} {k k' : IntKind} {n : Int} (ho : o.op = .convert S T x) (hx : evA env x = .val (.int k n)) (hs : (P.underlying S).isSome = true) (hT : tint P T = some k') :
    OpOK P o env H ⟨True, .val (.int k' (k'.wrap n)), [], [], []⟩ := by
  refine .pure fun ρ g w hop _ _ => ?_
  have h1 := hop x (by simp [Op.operands, ho])
  rw [hx] at h1
  obtain ⟨h5, _⟩ := V1_val h1
  obtain ⟨d, hd⟩ := Option.isSome_iff_exists.1 hs
  exact ⟨.int k' (k'.wrap n), by simp [execOp, ho, h5, convert, run_underlying hd, run_underlying (tint_und hT), Conv.intToInt], V1_mk rfl⟩

theorem op_nilCheck_ref {x : Operand} {n off : Nat} {path : List Nat} (ho : o.op = .nilCheck x) (hx : evA env x = .ref n off path) : OpOK P o env H ⟨True, .ref n off path, [], [], []⟩ := by
  refine .pure fun ρ g w hop _ _ => ?_
  have h1 := hop x (by simp [Op.operands, ho])
  rw [hx] at h1
  obtain ⟨b, y, hv, _⟩ := V1_ref h1
  exact ⟨_, by simp [execOp, ho, hv], hv ▸ h1⟩
theorem op_nilCheck_cref {x : Operand} {v : AV} (ho : o.op = .nilCheck x) (hx : evA env x = .cref v) : OpOK P o env H ⟨True, .cref v, [], [], []⟩ := by
  refine .pure fun ρ g w hop _ _ => ?_
  have h1 := hop x (by simp [Op.operands, ho])
  rw [hx] at h1
  obtain ⟨b, y, cs, hv, _⟩ := V1_cref h1
  exact ⟨_, by simp [execOp, ho, hv], hv ▸ h1⟩
end
end Go.AL

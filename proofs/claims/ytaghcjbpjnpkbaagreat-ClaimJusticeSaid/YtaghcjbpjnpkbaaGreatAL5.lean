/-
  The layer AL, part 4: what single operations do, told of abstract values.
-/
import Derived.Test.YtaghcjbpjnpkbaaGreatAL3
import Derived.Laws.NewBlocks
set_option linter.unusedSimpArgs false
set_option linter.unusedVariables false
namespace Go.AL
open Go

structure Out where
  vc : Prop
  av : AV
  rd : List Nat
  wr : Heap
  nw : List Nat

def constAV : Value → AV
  | .slice none 0 0 => .sl 0 [] 1
  | .agg _ | .tuple _ => .undef
  | v => .val v

def evA (env : Env) : Operand → AV
  | .tmp t => env.get t
  | .const v => constAV v
  | .func f => .clos f []
  | .global _ => .undef

theorem V1_const (g : G) (w : World) (v : Value) : V1 g w (constAV v) v := by
  unfold constAV
  split
  · exact V0.of_cell .slNil rfl
  · trivial
  · trivial
  · rename_i h1 h2 h3
    refine V0.of_cell (.val ?_) rfl
    cases v <;> first | rfl | exact absurd rfl (h2 _) | exact absurd rfl (h3 _)

def OpOK (P : Program) (o : Oper) (env : Env) (H : Heap) (out : Out) : Prop :=
  ∀ (ρ : Operand → Value) (g : G) (w : World), (∀ v, ρ (.const v) = v) → (∀ x ∈ o.op.operands, V1 g w (evA env x) (ρ x)) → Inv g w →
    (∀ n, n ∈ out.rd ∨ n ∈ keys out.wr → ∀ r, H.get n = some r → resOK g w n r) → (∀ n ∈ out.nw, ¬ g.use n) → out.vc →
    ∃ g' w' v, ((execOp ρ o).run P w = .ok (.value v) w' ∨ ((execOp ρ o).run P w = .ok .skip w' ∧ v = Go.undef)) ∧ V1 g' w' out.av v ∧ StepPost g w H out.wr out.nw g' w'

theorem OpOK.pure {P : Program} {o : Oper} {env : Env} {H : Heap} {vc : Prop} {av : AV} {rd : List Nat}
    (h : ∀ (ρ : Operand → Value) (g : G) (w : World), (∀ x ∈ o.op.operands, V1 g w (evA env x) (ρ x)) → (∀ n ∈ rd, ∀ r, H.get n = some r → resOK g w n r) → vc →
      ∃ v, (execOp ρ o).run P w = .ok (.value v) w ∧ V1 g w av v) : OpOK P o env H ⟨vc, av, rd, [], []⟩ := by
  intro ρ g w _ hop _ hrd _ hvc
  obtain ⟨v, h1, h2⟩ := h ρ g w hop (fun n hn => hrd n (.inl hn)) hvc
  exact ⟨g, w, v, .inl h1, h2, StepPost.same g w H []⟩

/-! ### what is read off the table of types -/
def tsz (P : Program) (T : TypeId) : Option Nat := (P.info? T).map (·.size)
def tby (P : Program) (T : TypeId) : Option Nat := (P.info? T).map (·.bytes)
def dagg : TypeDesc → Bool
  | .struct _ | .array _ _ => true
  | _ => false
def tagg (P : Program) (T : TypeId) : Option Bool := (P.underlying T).map dagg
def tfld (P : Program) (T : TypeId) (i : Nat) : Option (Nat × TypeId) :=
  match P.underlying T with
  | some (.struct fs) => (fs[i]?).map fun f => (f.offset, f.type)
  | _ => none
def tsl (P : Program) (T : TypeId) : Option TypeId :=
  match P.underlying T with
  | some (.slice e) => some e
  | _ => none
def tarr (P : Program) (T : TypeId) : Option (Nat × TypeId) :=
  match P.underlying T with
  | some (.array n e) => some (n, e)
  | _ => none
def tptr (P : Program) (T : TypeId) : Option TypeId :=
  match P.underlying T with
  | some (.pointer e) => some e
  | _ => none
def tint (P : Program) (T : TypeId) : Option IntKind :=
  match P.underlying T with
  | some (.int k) => some k
  | _ => none
def tstr (P : Program) (T : TypeId) : Option Unit :=
  match P.underlying T with
  | some .string => some ()
  | _ => none

theorem tsz_run {P : Program} {T : TypeId} {n : Nat} (h : tsz P T = some n) (w : World) : (sizeOf T).run P w = .ok n w := by
  unfold tsz at h
  cases hq : P.info? T with
  | none => simp [hq] at h
  | some i => simp [hq] at h; simp [sizeOf, typeInfo, hq, h]
theorem tagg_run {P : Program} {T : TypeId} {b : Bool} (h : tagg P T = some b) (w : World) : (isAgg T).run P w = .ok b w := by
  unfold tagg at h
  cases hq : P.underlying T with
  | none => simp [hq] at h
  | some d =>
    simp [hq] at h
    unfold isAgg
    rw [Sem.run_bind, run_underlying hq w]
    subst h
    cases d <;> rfl
theorem tfld_und {P : Program} {T : TypeId} {i o : Nat} {t : TypeId} (h : tfld P T i = some (o, t)) : ∃ fs f, P.underlying T = some (.struct fs) ∧ fs[i]? = some f ∧ f.offset = o ∧ f.type = t := by
  unfold tfld at h
  split at h
  · rename_i fs hu
    simp only [Option.map_eq_some_iff] at h
    obtain ⟨f, h1, h2⟩ := h
    simp at h2
    exact ⟨fs, f, hu, h1, h2.1, h2.2⟩
  · cases h
theorem tsl_und {P : Program} {T e : TypeId} (h : tsl P T = some e) : P.underlying T = some (.slice e) := by
  unfold tsl at h; split at h <;> simp_all
theorem tarr_und {P : Program} {T e : TypeId} {n : Nat} (h : tarr P T = some (n, e)) : P.underlying T = some (.array n e) := by
  unfold tarr at h; split at h <;> simp_all
theorem tptr_und {P : Program} {T e : TypeId} (h : tptr P T = some e) : P.underlying T = some (.pointer e) := by
  unfold tptr at h; split at h <;> simp_all
theorem tint_und {P : Program} {T : TypeId} {k : IntKind} (h : tint P T = some k) : P.underlying T = some (.int k) := by
  unfold tint at h; split at h <;> simp_all
theorem tstr_und {P : Program} {T : TypeId} (h : tstr P T = some ()) : P.underlying T = some .string := by
  unfold tstr at h; split at h <;> simp_all

theorem add_none (b o i : Nat) : (⟨b, o, none⟩ : Addr).add i = ⟨b, o + i, none⟩ := by
  unfold Addr.add; split <;> simp_all

theorem loadCells_row {P : Program} {w : World} {b o : Nat} {cs : List Value} (h : RowAt w b o cs) (n : Nat) (hn : n = cs.length) : (loadCells ⟨b, o, none⟩ n).run P w = .ok cs.toArray w := by
  subst hn
  exact run_loadCells_list (P := P) w ⟨b, o, none⟩ cs (fun j v hv => by rw [add_none]; exact h j v hv)

theorem loadVar_row {P : Program} {g : G} {w : World} {b o : Nat} {cs : List Value} {a : AV} {T : TypeId} (hr : R g w (.one a cs)) (h : RowAt w b o cs) (hs : tsz P T = some a.csize) (ha : tagg P T = some a.isAgg) :
    ∃ v, (loadVar T ⟨b, o, none⟩).run P w = .ok v w ∧ V0 g w a v := by
  have hl := hr.length
  cases hagg : a.isAgg with
  | true =>
    rw [hagg] at ha
    refine ⟨.agg cs.toArray, ?_, V0.of_agg (by simpa using hr) hagg⟩
    unfold loadVar
    simp [tagg_run ha, tsz_run hs, loadCells_row h a.csize (by omega)]
  | false =>
    rw [hagg] at ha
    obtain ⟨v, rfl, hv⟩ := hr.single hagg
    refine ⟨v, ?_, V0.of_cell hr hagg⟩
    have hc : w.cell? ⟨b, o, none⟩ = some v := by have := h 0 v rfl; simpa using this
    unfold loadVar
    simp [tagg_run ha]
    rw [hc]

theorem RowAt.of_heap {w : World} {b : Nat} {arr : Array Value} {T : TypeId} {fz : Nat × Nat} (h : w.heap[b]? = some (.cells arr T fz)) : RowAt w b 0 arr.toList := by
  intro j v hj
  simp only [World.cell?, h, Nat.zero_add]
  simpa using hj

theorem V1_val {g : G} {w : World} {u v : Value} (h : V1 g w (.val u) v) : v = u ∧ u.oneCell' = true := by
  have h4 := (V0.cell h rfl).1
  generalize hs : Sh.one (.val u) [v] = s at h4
  cases h4 <;> simp at hs
  obtain ⟨rfl, rfl⟩ := hs
  exact ⟨rfl, by assumption⟩
theorem V1_mk {g : G} {w : World} {u : Value} (h : u.oneCell' = true) : V1 g w (.val u) u := V0.of_cell (.val h) rfl
theorem V1_ref {g : G} {w : World} {n off : Nat} {path : List Nat} {v : Value} (h : V1 g w (.ref n off path) v) : ∃ b x, v = .pointer (some ⟨b, off, none⟩) ∧ g.use n ∧ g.loc n 0 = some (b, x) := by
  have h4 := (V0.cell h rfl).1
  generalize hs : Sh.one (.ref n off path) [v] = s at h4
  cases h4 <;> simp at hs
  obtain ⟨⟨rfl, rfl, rfl⟩, rfl⟩ := hs
  exact ⟨_, _, rfl, by assumption, by assumption⟩
theorem V1_cref {g : G} {w : World} {a : AV} {v : Value} (h : V1 g w (.cref a) v) : ∃ b o cs, v = .pointer (some ⟨b, o, none⟩) ∧ R g w (.one a cs) ∧ RowAt w b o cs ∧ o + cs.length ≤ g.imm b := by
  have h4 := (V0.cell h rfl).1
  generalize hs : Sh.one (.cref a) [v] = s at h4
  cases h4 <;> simp at hs
  obtain ⟨rfl, rfl⟩ := hs
  exact ⟨_, _, _, rfl, by assumption, by assumption, by assumption⟩
theorem V1_sl {g : G} {w : World} {sz tok : Nat} {L : List AV} {v : Value} (h : V1 g w (.sl sz L tok) v) :
    (L = [] ∧ ∃ base, v = .slice base 0 0) ∨ ∃ b o c, v = .slice (some ⟨b, o, none⟩) L.length c ∧ L.length ≤ c ∧ R g w (.mem sz L b o) ∧ TokOK g tok b L.length c (o + L.length * sz) (o + c * sz) := by
  have h4 := (V0.cell h rfl).1
  generalize hs : Sh.one (.sl sz L tok) [v] = s at h4
  cases h4 <;> simp at hs
  · obtain ⟨⟨rfl, rfl, rfl⟩, rfl⟩ := hs; exact .inl ⟨rfl, _, rfl⟩
  · obtain ⟨⟨rfl, rfl, rfl⟩, rfl⟩ := hs; exact .inr ⟨_, _, _, rfl, by assumption, by assumption, by assumption⟩
theorem V1_aref {g : G} {w : World} {n off sz lo len : Nat} {path : List Nat} {v : Value} (h : V1 g w (.aref n off path sz lo len) v) :
    ∃ b x c, v = .slice (some ⟨b, off + lo * sz, none⟩) len c ∧ g.use n ∧ g.loc n 0 = some (b, x) ∧ len ≤ c := by
  have h4 := (V0.cell h rfl).1
  generalize hs : Sh.one (.aref n off path sz lo len) [v] = s at h4
  cases h4 <;> simp at hs
  obtain ⟨⟨rfl, rfl, rfl, rfl, rfl, rfl⟩, rfl⟩ := hs
  exact ⟨_, _, _, rfl, by assumption, by assumption, by assumption⟩
theorem V1_map {g : G} {w : World} {n : Nat} {v : Value} (h : V1 g w (.map n) v) : ∃ b x, v = .map (some b) ∧ g.use n ∧ g.loc n 0 = some (b, x) := by
  have h4 := (V0.cell h rfl).1
  generalize hs : Sh.one (.map n) [v] = s at h4
  cases h4 <;> simp at hs
  obtain ⟨rfl, rfl⟩ := hs
  exact ⟨_, _, rfl, by assumption, by assumption⟩
theorem V1_clos {g : G} {w : World} {f : Nat} {caps : List AV} {v : Value} (h : V1 g w (.clos f caps) v) : ∃ cs, v = .func (.func f) #[] cs.toArray ∧ R g w (.useq 1 caps cs) ∧ ∀ a ∈ caps, a.isAgg = false := by
  have h4 := (V0.cell h rfl).1
  generalize hs : Sh.one (.clos f caps) [v] = s at h4
  cases h4 <;> simp at hs
  obtain ⟨⟨rfl, rfl⟩, rfl⟩ := hs
  exact ⟨_, rfl, by assumption, by assumption⟩
theorem V1_agg {g : G} {w : World} {a : AV} {v : Value} (h : V1 g w a v) (ha : a.isAgg = true) : ∃ cs, v = .agg cs ∧ R g w (.one a cs.toList) := by
  cases a <;> simp [AV.isAgg] at ha <;> exact V0.agg h rfl

section
variable {P : Program} {o : Oper} {env : Env} {H : Heap}

theorem op_move {x : Operand} (ho : o.op = .move x ∨ o.op = .assign x) : OpOK P o env H ⟨True, evA env x, [], [], []⟩ := by
  refine .pure fun ρ g w hop _ _ => ⟨ρ x, ?_, hop x ?_⟩
  · rcases ho with ho | ho <;> simp [execOp, ho]
  · rcases ho with ho | ho <;> simp [Op.operands, ho]

def pickA : Bool → AV → AV → AV
  | true, a, _ => a
  | false, _, b => b

theorem op_pick {c x y : Operand} {b : Bool} (ho : o.op = .pick c x y) (hc : evA env c = .val (.bool b)) : OpOK P o env H ⟨True, pickA b (evA env x) (evA env y), [], [], []⟩ := by
  refine .pure fun ρ g w hop _ _ => ?_
  have h1 := hop c (by simp [Op.operands, ho])
  have h2 := hop x (by simp [Op.operands, ho])
  have h3 := hop y (by simp [Op.operands, ho])
  rw [hc] at h1
  obtain ⟨h5, _⟩ := V1_val h1
  refine ⟨if b then ρ x else ρ y, ?_, ?_⟩
  · simp [execOp, ho, h5, asBool]
  · cases b <;> simpa [pickA]

theorem op_not {x : Operand} {T : TypeId} {b : Bool} (ho : o.op = .unOp .not T x) (hx : evA env x = .val (.bool b)) : OpOK P o env H ⟨True, .val (.bool !b), [], [], []⟩ := by
  refine .pure fun ρ g w hop _ _ => ?_
  have h1 := hop x (by simp [Op.operands, ho])
  rw [hx] at h1
  obtain ⟨h5, _⟩ := V1_val h1
  exact ⟨_, by simp [execOp, ho, h5, Op.unary], V1_mk rfl⟩

theorem op_neg {x : Operand} {T : TypeId} {k : IntKind} {n : Int} (ho : o.op = .unOp .neg T x) (hx : evA env x = .val (.int k n)) : OpOK P o env H ⟨True, .val (.int k (k.wrap (0 - n))), [], [], []⟩ := by
  refine .pure fun ρ g w hop _ _ => ?_
  have h1 := hop x (by simp [Op.operands, ho])
  rw [hx] at h1
  obtain ⟨h5, _⟩ := V1_val h1
  exact ⟨_, by simp [execOp, ho, h5, Op.unary, Op.intArith], V1_mk rfl⟩

theorem op_xor1 {x : Operand} {T : TypeId} {k : IntKind} {n : Int} (ho : o.op = .unOp .xor T x) (hx : evA env x = .val (.int k n)) :
    OpOK P o env H ⟨True, .val (.int k (k.wrap (BitVec.ofInt k.bits (if k.signed then -1 else k.max) ^^^ BitVec.ofInt k.bits n).toNat)), [], [], []⟩ := by
  refine .pure fun ρ g w hop _ _ => ?_
  have h1 := hop x (by simp [Op.operands, ho])
  rw [hx] at h1
  obtain ⟨h5, _⟩ := V1_val h1
  exact ⟨_, by simp [execOp, ho, h5, Op.unary, Op.intBits], V1_mk rfl⟩

def intOp (op : BinOp) (k : IntKind) (a b : Int) : Option (Prop × Value) :=
  match op with
  | .add => some (True, .int k (k.wrap (a + b)))
  | .sub => some (True, .int k (k.wrap (a - b)))
  | .mul => some (True, .int k (k.wrap (a * b)))
  | .quo => some (b ≠ 0, .int k (k.wrap (a.tdiv b)))
  | .rem => some (b ≠ 0, .int k (a.tmod b))
  | .and => some (True, .int k (k.wrap (BitVec.ofInt k.bits a &&& BitVec.ofInt k.bits b).toNat))
  | .or => some (True, .int k (k.wrap (BitVec.ofInt k.bits a ||| BitVec.ofInt k.bits b).toNat))
  | .xor => some (True, .int k (k.wrap (BitVec.ofInt k.bits a ^^^ BitVec.ofInt k.bits b).toNat))
  | .andNot => some (True, .int k (k.wrap (BitVec.ofInt k.bits a &&& ~~~(BitVec.ofInt k.bits b)).toNat))
  | .shl => some (0 ≤ b, .int k (k.wrap (a * 2 ^ (min b.toNat k.bits))))
  | .shr => some (0 ≤ b, .int k (a.fdiv (2 ^ (min b.toNat k.bits))))
  | .eql => some (True, .bool (decide (a = b)))
  | .neq => some (True, .bool (!decide (a = b)))
  | .lss => some (True, .bool (decide (a < b)))
  | .leq => some (True, .bool (decide (a ≤ b)))
  | .gtr => some (True, .bool (decide (b < a)))
  | .geq => some (True, .bool (decide (b ≤ a)))

theorem op_int {op : BinOp} {x y : Operand} {T U : TypeId} {k k' : IntKind} {a b : Int} {vc : Prop} {r : Value} (ho : o.op = .binOp op T x y U) (hx : evA env x = .val (.int k a)) (hy : evA env y = .val (.int k' b))
    (hk : op = .shl ∨ op = .shr ∨ k = k') (hr : intOp op k a b = some (vc, r)) : OpOK P o env H ⟨vc, .val r, [], [], []⟩ := by
  refine .pure fun ρ g w hop _ hvc => ?_
  have h1 := hop x (by simp [Op.operands, ho])
  have h2 := hop y (by simp [Op.operands, ho])
  rw [hx] at h1
  rw [hy] at h2
  obtain ⟨h5, _⟩ := V1_val h1
  obtain ⟨h6, _⟩ := V1_val h2
  have hg : ∀ u v : Operand, (eqGuard op T u v (.int k a) (.int k' b)).run P w = .ok () w := by
    intro u v
    unfold eqGuard
    cases op <;> simp
  refine ⟨r, ?_, ?_⟩
  · simp only [execOp, ho, h5, h6, Sem.run_bind, hg, Result.andThen_ok]
    cases op <;> simp only [intOp, Option.some.injEq, Prod.mk.injEq, reduceCtorEq] at hr <;> obtain ⟨rfl, rfl⟩ := hr <;>
      simp only [reduceCtorEq, false_or, true_or, or_true] at hk <;> try subst hk
    all_goals simp [binOp, Op.intArith, Op.intDiv, Op.intBits, Op.intCmp, Op.shift]
    all_goals first
      | (intro h; exact absurd h (by omega))
      | rfl
      | (by_cases h : a = b <;> simp [h])
  · cases op <;> simp only [intOp, Option.some.injEq, Prod.mk.injEq, reduceCtorEq] at hr <;> obtain ⟨_, rfl⟩ := hr <;> exact V1_mk rfl

theorem op_convInt {x : Operand} {S T : TypeId} {k k' : IntKind} {n : Int} (ho : o.op = .convert S T x) (hx : evA env x = .val (.int k n)) (hs : (P.underlying S).isSome = true) (hT : tint P T = some k') :
    OpOK P o env H ⟨True, .val (.int k' (k'.wrap n)), [], [], []⟩ := by
  refine .pure fun ρ g w hop _ _ => ?_
  have h1 := hop x (by simp [Op.operands, ho])
  rw [hx] at h1
  obtain ⟨h5, _⟩ := V1_val h1
  obtain ⟨d, hd⟩ := Option.isSome_iff_exists.1 hs
  exact ⟨.int k' (k'.wrap n), by simp [execOp, ho, h5, convert, run_underlying hd, run_underlying (tint_und hT), Conv.intToInt], V1_mk rfl⟩

theorem op_nilCheck_ref {x : Operand} {n off : Nat} {path : List Nat} (ho : o.op = .nilCheck x) (hx : evA env x = .ref n off path) : OpOK P o env H ⟨True, .ref n off path, [], [], []⟩ := by
  refine .pure fun ρ g w hop _ _ => ?_
  have h1 := hop x (by simp [Op.operands, ho])
  rw [hx] at h1
  obtain ⟨b, y, hv, _⟩ := V1_ref h1
  exact ⟨_, by simp [execOp, ho, hv], hv ▸ h1⟩
theorem op_nilCheck_cref {x : Operand} {v : AV} (ho : o.op = .nilCheck x) (hx : evA env x = .cref v) : OpOK P o env H ⟨True, .cref v, [], [], []⟩ := by
  refine .pure fun ρ g w hop _ _ => ?_
  have h1 := hop x (by simp [Op.operands, ho])
  rw [hx] at h1
  obtain ⟨b, y, cs, hv, _⟩ := V1_cref h1
  exact ⟨_, by simp [execOp, ho, hv], hv ▸ h1⟩
end
end Go.AL

set_option linter.unusedSimpArgs false
set_option linter.unusedVariables false
namespace Go.AL
open Go

def AV.good : AV → Bool
  | .undef | .tup _ => false
  | _ => true

theorem V1.toV0 {g : G} {w : World} {a : AV} {v : Value} (h : V1 g w a v) (ha : a.good = true) : V0 g w a v := by
  cases a <;> simp [AV.good] at ha <;> exact h

def G.immSet (g : G) (b m : Nat) : G := { g with imm := fun k => if k = b then m else g.imm k }
def G.newName (g : G) (n : Nat) (f : Nat → Option (Nat × Nat × Nat)) (d : Nat) : G :=
  { g with use := fun k => k = n ∨ g.use k, loc := fun k e => if k = n then f e else g.loc k e, bd := fun k => if k = n then d else g.bd k }

theorem Delta.alloc {g : G} {w : World} (hi : Inv g w) (o : Obj) (m : Nat) (D T N : Nat → Prop) : Delta g w (g.immSet w.heap.size m) (w.alloc o) D T N := by
  have hold : ∀ b, b < w.heap.size → (w.alloc o).heap[b]? = w.heap[b]? := fun b hb => heap_alloc_old w o b hb
  refine ⟨⟨fun _ h => h, fun _ _ => Nat.le_refl _, fun _ _ _ _ => rfl, fun b => ?_, fun b q hq => ?_⟩, rfl, rfl, rfl, by simp, fun b hb _ => ⟨hold b hb, ?_⟩, fun _ h => .inl h, fun _ _ _ => rfl, fun _ b hb => ?_⟩
  · simp only [G.immSet]; split
    · rename_i h; subst h; rw [hi _ (Nat.le_refl _)]; omega
    · exact Nat.le_refl _
  · have hb : b < w.heap.size := by
      rcases Nat.lt_or_ge b w.heap.size with h | h
      · exact h
      · rw [hi b h] at hq; omega
    exact World.cell?_alloc_lt w o ⟨b, q, none⟩ hb
  · simp only [G.immSet]; rw [if_neg (by omega)]
  · simp only [G.immSet]
    simp at hb
    rw [if_neg (by omega)]; exact hi b (by omega)

theorem Delta.name {g : G} {w : World} {n : Nat} (hn : ¬ g.use n) (f : Nat → Option (Nat × Nat × Nat)) (d : Nat) (D T N : Nat → Prop) (hN : N n) : Delta g w (g.newName n f d) w D T N := by
  have ne : ∀ k, g.use k → k ≠ n := fun k hk h => hn (h ▸ hk)
  refine ⟨⟨fun _ h => .inr h, fun k hk => ?_, fun k hk e _ => ?_, fun _ => Nat.le_refl _, fun _ _ _ => rfl⟩, rfl, rfl, rfl, Nat.le_refl _, fun _ _ _ => ⟨rfl, rfl⟩, fun k hk => ?_, fun k hk _ => ?_, fun h => h⟩
  · simp only [G.newName]; rw [if_neg (ne k hk)]; exact Nat.le_refl _
  · simp only [G.newName]; rw [if_neg (ne k hk)]
  · rcases hk with rfl | hk
    · exact .inr hN
    · exact .inl hk
  · simp only [G.newName]; rw [if_neg (ne k hk)]

def ZeroOK (P : Program) (T : TypeId) (z : AV) : Prop := ∃ v, (P.info? T).bind (·.zero) = some v ∧ ∀ g w, V0 g w z v

theorem ZeroOK.run {P : Program} {T : TypeId} {z : AV} (h : ZeroOK P T z) : ∃ v, (∀ w, (zeroValue T).run P w = .ok v w) ∧ ∀ g w, V0 g w z v := by
  obtain ⟨v, h1, h2⟩ := h
  refine ⟨v, fun w => ?_, h2⟩
  cases hq : P.info? T with
  | none => simp [hq] at h1
  | some i => simp [hq] at h1; simp [zeroValue, typeInfo, hq, h1]

section
variable {P : Program} {o : Oper} {env : Env} {H : Heap}

theorem op_box_cref {x : Operand} {T : TypeId} (ho : o.op = .box T x) (hx : (evA env x).good = true) : OpOK P o env H ⟨True, .cref (evA env x), [], [], []⟩ := by
  intro ρ g w hc0 hop hi _ _ _
  have h1 := (hop x (by simp [Op.operands, ho])).toV0 hx
  have hd := Delta.alloc hi (.cells (ρ x).cells T) (ρ x).cells.toList.length (Blks g H (keys [])) (· ∈ keys ([] : Heap)) (· ∈ ([] : List Nat))
  refine ⟨_, _, .pointer (some ⟨w.heap.size, 0, none⟩), .inl ?_, ?_, ⟨hd, fun n r _ hn => by simp at hn, fun n n' r r' b hn => by simp at hn⟩⟩
  · simp [execOp, ho, Instr.box, newVar, newRow]
  · refine V0.of_cell (.cref (h1.1.ext hd.ext) ?_ ?_) rfl
    · exact RowAt.of_heap (T := T) (fz := (0, 0)) (heap_alloc_new w _)
    · simp [G.immSet]

theorem objNew {g : G} {w : World} {n : Nat} {a : AV} {cs : Array Value} {T : TypeId} (hi : Inv g w) (hn : ¬ g.use n) (hr : R g w (.one a cs.toList)) :
    ∃ g', V1 g' (w.alloc (.cells cs T)) (.ref n 0 []) (.pointer (some ⟨w.heap.size, 0, none⟩)) ∧ StepPost g w H [(n, some (.obj a))] [n] g' (w.alloc (.cells cs T)) := by
  have h1 := Delta.name (w := w) hn (fun _ => some (w.heap.size, 0, 0)) 0 (Blks g H (keys [(n, some (.obj a))])) (· ∈ keys [(n, some (Res.obj a))]) (· ∈ [n]) (by simp)
  have hd0 := h1.trans (Delta.alloc (o := .cells cs T) (h1.inv hi) 0 (Blks g H (keys [(n, some (.obj a))])) (· ∈ keys [(n, some (Res.obj a))]) (· ∈ [n]))
  have hd := hd0.mono (D' := Blks g H (keys [(n, some (.obj a))])) (T' := (· ∈ keys [(n, some (Res.obj a))])) (N' := (· ∈ [n])) (fun _ _ h => h.elim id id) (fun _ _ h => h.elim id id) (fun _ h => h.elim id id)
  refine ⟨_, ?_, ⟨hd, fun k r hr' hk => ?_, fun k k' r r' b hk hk' _ _ _ _ => ?_⟩⟩
  · exact V0.of_cell (.ref (x := (0, 0)) (.inl rfl) (by simp [G.immSet, G.newName])) rfl
  · simp [keys] at hk; subst hk
    simp [Heap.get] at hr'; subst hr'
    refine ⟨⟨.inl rfl, w.heap.size, (0, 0), cs, T, by simp [G.immSet, G.newName], heap_alloc_new w _, hr.ext hd.ext, by simp [G.immSet]⟩, fun b hb => .inr ?_⟩
    simp [blkOf, G.immSet, G.newName] at hb; omega
  · simp [keys] at hk hk'; omega

theorem op_box_obj {x : Operand} {T : TypeId} (n : Nat) (ho : o.op = .box T x) (hx : (evA env x).good = true) : OpOK P o env H ⟨True, .ref n 0 [], [], [(n, some (.obj (evA env x)))], [n]⟩ := by
  intro ρ g w hc0 hop hi _ hn _
  have h1 := (hop x (by simp [Op.operands, ho])).toV0 hx
  obtain ⟨g', k1, k2⟩ := objNew (H := H) (T := T) hi (hn n (by simp)) h1.1
  exact ⟨g', _, _, .inl (by simp [execOp, ho, Instr.box, newVar, newRow]), k1, k2⟩

theorem op_alloc {T : TypeId} {z : AV} (n : Nat) (ho : o.op = .alloc T) (hz : ZeroOK P T z) : OpOK P o env H ⟨True, .ref n 0 [], [], [(n, some (.obj z))], [n]⟩ := by
  intro ρ g w hc0 hop hi _ hn _
  obtain ⟨v, h1, h2⟩ := hz.run
  obtain ⟨g', k1, k2⟩ := objNew (H := H) (T := T) hi (hn n (by simp)) (h2 g w).1
  exact ⟨g', _, _, .inl (by simp [execOp, ho, Instr.alloc, newVar, newRow, h1]), k1, k2⟩

theorem op_load_cref {T : TypeId} {x : Operand} {a : AV} (ho : o.op = .load T x) (hx : evA env x = .cref a) : OpOK P o env H ⟨tsz P T = some a.csize ∧ tagg P T = some a.isAgg, a, [], [], []⟩ := by
  refine .pure fun ρ g w hop _ hvc => ?_
  have h1 := hop x (by simp [Op.operands, ho])
  rw [hx] at h1
  obtain ⟨b, q, cs, hv, hr, hrow, _⟩ := V1_cref h1
  obtain ⟨v, k1, k2⟩ := loadVar_row hr hrow hvc.1 hvc.2
  exact ⟨v, by simp [execOp, ho, hv, Instr.loadAt, Instr.sureAddr, k1], .of_V0 k2⟩

theorem objRes {g : G} {w : World} {n : Nat} {a : AV} (hn : Res.obj? (H.get n) = some a) (h : ∀ r, H.get n = some r → resOK g w n r) : resOK g w n (.obj a) := by
  cases hr : H.get n with
  | none => simp [hr, Res.obj?] at hn
  | some r => cases r <;> simp [hr, Res.obj?] at hn <;> (subst hn; have h2 := h _ hr; exact h2)

theorem op_load_ref {T : TypeId} {x : Operand} {a : AV} {n off : Nat} {path : List Nat} (ho : o.op = .load T x) (hx : evA env x = .ref n off path) (hn : Res.obj? (H.get n) = some a) :
    OpOK P o env H ⟨a.okPath path ∧ a.offAt path = off ∧ tsz P T = some (a.at_ path).csize ∧ tagg P T = some (a.at_ path).isAgg, a.at_ path, [n], [], []⟩ := by
  refine .pure fun ρ g w hop hrd hvc => ?_
  obtain ⟨v1, v2, v3, v4⟩ := hvc
  have h1 := hop x (by simp [Op.operands, ho])
  rw [hx] at h1
  obtain ⟨b, y, hv, hu, hl⟩ := V1_ref h1
  obtain ⟨_, b', y', arr, T', hl', hb, hr, _⟩ := objRes hn (hrd n (by simp))
  rw [hl] at hl'; simp at hl'; obtain ⟨rfl, rfl⟩ := hl'
  obtain ⟨m1, m2⟩ := hr.at_ v1
  have hrow := (RowAt.of_heap hb).sub (a.offAt path) (a.at_ path).csize
  rw [Nat.zero_add, v2] at hrow
  rw [v2] at m1
  obtain ⟨v, k1, k2⟩ := loadVar_row m1 hrow v3 v4
  exact ⟨v, by simp [execOp, ho, hv, Instr.loadAt, Instr.sureAddr, k1], .of_V0 k2⟩

theorem storeVar_row {P : Program} {w : World} {b off : Nat} {arr : Array Value} {T' T : TypeId} {v : Value} (hb : w.heap[b]? = some (.cells arr T' (0, 0))) (hs : tsz P T = some v.cells.size)
    (hf : off + v.cells.size ≤ arr.size) (h1 : ∀ c ∈ v.cells.toList, c.oneCell' = true) :
    (storeVar T ⟨b, off, none⟩ v).run P w = .ok () (w.setRow b (splice arr.toList off v.cells.toList).toArray) := by
  have := run_storeCells_at P b off T' v.cells.toList 0 arr w hb (by simpa using hf) h1
  simp only [Nat.add_zero] at this
  unfold storeVar
  simp [tsz_run hs]
  rw [this]
  simp [splice]

theorem Delta.setRow {g : G} {w : World} {b : Nat} {arr new : Array Value} {T' : TypeId} {fz : Nat × Nat} (hb : w.heap[b]? = some (.cells arr T' fz)) (m : Nat) (hm : g.imm b ≤ m) (hc : ∀ j, j < g.imm b → new[j]? = arr[j]?) (D T N : Nat → Prop) (hD : D b) :
    Delta g w (g.immSet b m) (w.setRow b new) D T N := by
  have hlt : b < w.heap.size := by
    rcases Nat.lt_or_ge b w.heap.size with h' | h'
    · exact h'
    · rw [Array.getElem?_eq_none h'] at hb; cases hb
  refine ⟨⟨fun _ h => h, fun _ _ => Nat.le_refl _, fun _ _ _ _ => rfl, fun k => ?_, fun k q hq => ?_⟩, rfl, rfl, rfl, by simp, fun k hk hd => ⟨setRow_other w b k new (fun h => hd (by rw [h]; exact hD)), ?_⟩, fun _ h => .inl h, fun _ _ _ => rfl, fun hi k hk => ?_⟩
  · simp only [G.immSet]; split
    · rename_i h; subst h; exact hm
    · exact Nat.le_refl _
  · by_cases h : k = b
    · subst h
      rw [cell_setRow_same w k q arr new T' fz hb, hc q hq]
      simp [World.cell?, hb]
    · rw [cell_setRow_other w b new _ h]
  · simp only [G.immSet]; rw [if_neg (fun h => hd (by rw [h]; exact hD))]
  · simp only [G.immSet]; simp at hk
    rw [if_neg (by omega)]; exact hi k hk

theorem op_store {T : TypeId} {x y : Operand} {a : AV} {n off : Nat} {path : List Nat} (ho : o.op = .store T x y) (hx : evA env x = .ref n off path) (hn : H.get n = some (.obj a)) (hy : (evA env y).good = true) :
    OpOK P o env H ⟨a.okPath path ∧ a.offAt path = off ∧ tsz P T = some (evA env y).csize ∧ (evA env y).csize = (a.at_ path).csize, .undef, [], [(n, some (.obj (a.setAt path (evA env y))))], []⟩ := by
  intro ρ g w hc0 hop hi hrd _ hvc
  obtain ⟨v1, v2, v3, v4⟩ := hvc
  have h1 := hop x (by simp [Op.operands, ho])
  have h2 := (hop y (by simp [Op.operands, ho])).toV0 hy
  rw [hx] at h1
  obtain ⟨b, z, hv, hu, hl⟩ := V1_ref h1
  obtain ⟨_, b', z', arr, T', hl', hb, hr, him⟩ := hrd n (.inr (by simp [keys])) _ hn
  rw [hl] at hl'; simp at hl'; obtain ⟨rfl, rfl⟩ := hl'
  obtain ⟨m1, m2⟩ := hr.at_ v1
  have hyl := h2.1.length
  obtain ⟨s1, s2⟩ := hr.setAt v1 h2.1 v4
  have hst := storeVar_row (P := P) (off := off) hb (by rw [v3, ← hyl]; simp) (by rw [← v2]; simp at hyl m2 ⊢; omega) (R.oneCells h2.1)
  have hblk : Blks g H (keys [(n, some (Res.obj (a.setAt path (evA env y))))]) b := ⟨n, _, by simp [keys], hn, by simp [blkOf, hl]⟩
  have hd := Delta.setRow (g := g) (new := (splice arr.toList off (ρ y).cells.toList).toArray) hb 0 (by omega) (fun j hj => by omega) (Blks g H (keys [(n, some (Res.obj (a.setAt path (evA env y))))])) (· ∈ keys [(n, some (Res.obj (a.setAt path (evA env y))))]) (· ∈ ([] : List Nat)) hblk
  refine ⟨_, _, Go.undef, .inr ⟨?_, rfl⟩, trivial, ⟨hd, fun k r hr' hk => ?_, fun k k' r r' b hk hk' _ _ _ _ => ?_⟩⟩
  · simp [execOp, ho, hv, Instr.storeAt, Instr.sureAddr, hst]
  · simp [keys] at hk; subst hk
    simp [Heap.get] at hr'; subst hr'
    refine ⟨⟨hu, b, z, _, T', hl, setRow_heap w b arr _ T' (0, 0) hb, ?_, by simp [G.immSet]⟩, fun b2 hb2 => .inl ?_⟩
    · have s1' := s1.ext hd.ext
      rw [v2] at s1'
      simpa using s1'
    · simp [blkOf, G.immSet, hl] at hb2; subst hb2; exact hblk
  · simp [keys] at hk hk'; omega

theorem op_fieldAddr_ref {T ft : TypeId} {x : Operand} {i n off fo s : Nat} {path : List Nat} (ho : o.op = .fieldAddr T x i) (hx : evA env x = .ref n off path) (hf : tfld P T i = some (fo, ft)) (hs : tsz P ft = some (s + 1)) :
    OpOK P o env H ⟨True, .ref n (off + fo) (path ++ [i]), [], [], []⟩ := by
  refine .pure fun ρ g w hop _ _ => ?_
  have h1 := hop x (by simp [Op.operands, ho])
  rw [hx] at h1
  obtain ⟨b, z, hv, hu, hl⟩ := V1_ref h1
  obtain ⟨fs, f, k1, k2, rfl, rfl⟩ := tfld_und hf
  refine ⟨.pointer (some ⟨b, off + f.offset, none⟩), ?_, V0.of_cell (.ref hu hl) rfl⟩
  simp [execOp, ho, hv, Instr.fieldAt, run_underlying k1, k2, Instr.sureAddr, fieldPlace, tsz_run hs, add_none]

theorem op_fieldAddr_cref {T ft : TypeId} {x : Operand} {i fo s : Nat} {a : AV} (ho : o.op = .fieldAddr T x i) (hx : evA env x = .cref a) (hf : tfld P T i = some (fo, ft)) (hs : tsz P ft = some (s + 1)) :
    OpOK P o env H ⟨i < a.parts.length ∧ a.partOff i = fo, .cref (a.parts.getD i .undef), [], [], []⟩ := by
  refine .pure fun ρ g w hop _ hvc => ?_
  have h1 := hop x (by simp [Op.operands, ho])
  rw [hx] at h1
  obtain ⟨b, q, cs, hv, hr, hrow, him⟩ := V1_cref h1
  obtain ⟨fs, f, k1, k2, rfl, rfl⟩ := tfld_und hf
  obtain ⟨m1, m2⟩ := hr.part hvc.1
  refine ⟨.pointer (some ⟨b, q + f.offset, none⟩), ?_, V0.of_cell (.cref m1 ?_ ?_) rfl⟩
  · simp [execOp, ho, hv, Instr.fieldAt, run_underlying k1, k2, Instr.sureAddr, fieldPlace, tsz_run hs, add_none]
  · rw [← hvc.2]; exact hrow.sub _ _
  · rw [← hvc.2]; simp only [List.length_take, List.length_drop]; omega

theorem op_indexAddr_sl {T e : TypeId} {x y : Operand} {sz tok : Nat} {L : List AV} {k : IntKind} {i : Int} (ho : o.op = .indexAddr T x y) (hx : evA env x = .sl sz L tok) (hy : evA env y = .val (.int k i)) (hT : tsl P T = some e) :
    OpOK P o env H ⟨(0 ≤ i ∧ i < L.length) ∧ tsz P e = some sz, .cref (L.getD i.toNat .undef), [], [], []⟩ := by
  refine .pure fun ρ g w hop _ hvc => ?_
  obtain ⟨⟨v1, v2⟩, v3⟩ := hvc
  have h1 := hop x (by simp [Op.operands, ho])
  have h2 := hop y (by simp [Op.operands, ho])
  rw [hx] at h1; rw [hy] at h2
  obtain ⟨hi, _⟩ := V1_val h2
  rcases V1_sl h1 with ⟨rfl, _⟩ | ⟨b, q, c, hv, hc, hm, _⟩
  · simp at v2; omega
  · obtain ⟨cs, r1, r2, r3, r4⟩ := hm.mem_get (i := i.toNat) (by omega)
    refine ⟨.pointer (some ⟨b, q + i.toNat * sz, none⟩), ?_, V0.of_cell (.cref r1 r3 (by omega)) rfl⟩
    simp [execOp, ho, hv, hi, Instr.indexAt, asIntOf, run_underlying (tsl_und hT), v1, v2, tsz_run v3, add_none]

theorem op_indexAddr_arr_ref {T e : TypeId} {x y : Operand} {n off len sz : Nat} {path : List Nat} {k : IntKind} {i : Int} (ho : o.op = .indexAddr T x y) (hx : evA env x = .ref n off path) (hy : evA env y = .val (.int k i)) (hT : tarr P T = some (len, e)) (hs : tsz P e = some sz) :
    OpOK P o env H ⟨0 ≤ i ∧ i < len, .ref n (off + i.toNat * sz) (path ++ [i.toNat]), [], [], []⟩ := by
  refine .pure fun ρ g w hop _ hvc => ?_
  obtain ⟨v1, v2⟩ := hvc
  have h1 := hop x (by simp [Op.operands, ho])
  have h2 := hop y (by simp [Op.operands, ho])
  rw [hx] at h1; rw [hy] at h2
  obtain ⟨hi, _⟩ := V1_val h2
  obtain ⟨b, z, hv, hu, hl⟩ := V1_ref h1
  refine ⟨.pointer (some ⟨b, off + i.toNat * sz, none⟩), ?_, V0.of_cell (.ref hu hl) rfl⟩
  simp [execOp, ho, hv, hi, Instr.indexAt, asIntOf, run_underlying (tarr_und hT), v1, v2, tsz_run hs, add_none, Instr.sureAddr]

theorem op_indexAddr_arr_cref {T e : TypeId} {x y : Operand} {len sz : Nat} {a : AV} {k : IntKind} {i : Int} (ho : o.op = .indexAddr T x y) (hx : evA env x = .cref a) (hy : evA env y = .val (.int k i)) (hT : tarr P T = some (len, e)) (hs : tsz P e = some sz) :
    OpOK P o env H ⟨(0 ≤ i ∧ i < len) ∧ i.toNat < a.parts.length ∧ a.partOff i.toNat = i.toNat * sz, .cref (a.parts.getD i.toNat .undef), [], [], []⟩ := by
  refine .pure fun ρ g w hop _ hvc => ?_
  obtain ⟨⟨v1, v2⟩, v3, v4⟩ := hvc
  have h1 := hop x (by simp [Op.operands, ho])
  have h2 := hop y (by simp [Op.operands, ho])
  rw [hx] at h1; rw [hy] at h2
  obtain ⟨hi, _⟩ := V1_val h2
  obtain ⟨b, q, cs, hv, hr, hrow, him⟩ := V1_cref h1
  obtain ⟨m1, m2⟩ := hr.part v3
  refine ⟨.pointer (some ⟨b, q + i.toNat * sz, none⟩), ?_, V0.of_cell (.cref m1 ?_ ?_) rfl⟩
  · simp [execOp, ho, hv, hi, Instr.indexAt, asIntOf, run_underlying (tarr_und hT), v1, v2, tsz_run hs, add_none, Instr.sureAddr]
  · rw [← v4]; exact hrow.sub _ _
  · rw [← v4]; simp only [List.length_take, List.length_drop]; omega

theorem op_indexAddr_aref {T e : TypeId} {x y : Operand} {n off sz lo len : Nat} {path : List Nat} {k : IntKind} {i : Int} (ho : o.op = .indexAddr T x y) (hx : evA env x = .aref n off path sz lo len) (hy : evA env y = .val (.int k i)) (hT : tsl P T = some e) :
    OpOK P o env H ⟨(0 ≤ i ∧ i < len) ∧ tsz P e = some sz, .ref n (off + (lo + i.toNat) * sz) (path ++ [lo + i.toNat]), [], [], []⟩ := by
  refine .pure fun ρ g w hop _ hvc => ?_
  obtain ⟨⟨v1, v2⟩, v3⟩ := hvc
  have h1 := hop x (by simp [Op.operands, ho])
  have h2 := hop y (by simp [Op.operands, ho])
  rw [hx] at h1; rw [hy] at h2
  obtain ⟨hi, _⟩ := V1_val h2
  obtain ⟨b, z, c, hv, hu, hl, hc⟩ := V1_aref h1
  refine ⟨.pointer (some ⟨b, off + lo * sz + i.toNat * sz, none⟩), ?_, V0.of_cell ?_ rfl⟩
  · simp [execOp, ho, hv, hi, Instr.indexAt, asIntOf, run_underlying (tsl_und hT), v1, v2, tsz_run v3, add_none]
  · have e : off + lo * sz + i.toNat * sz = off + (lo + i.toNat) * sz := by rw [Nat.add_mul]; omega
    rw [e]; exact .ref hu hl

theorem part_run {P : Program} {g : G} {w : World} {a : AV} {T : TypeId} {cs : Array Value} {off : Nat} (hr : R g w (.one a ((cs.toList.drop off).take a.csize))) (hs : tsz P T = some a.csize) (ha : tagg P T = some a.isAgg) :
    ∃ v, (part T cs off).run P w = .ok v w ∧ V0 g w a v := by
  cases hagg : a.isAgg with
  | true =>
    rw [hagg] at ha
    refine ⟨.agg (cs.extract off (off + a.csize)), by simp [part, tagg_run ha, tsz_run hs], V0.of_agg ?_ hagg⟩
    simpa [List.drop_take] using hr
  | false =>
    rw [hagg] at ha
    obtain ⟨v, h1, hv⟩ := hr.single hagg
    rw [h1] at hr
    refine ⟨v, ?_, V0.of_cell hr hagg⟩
    have hl := hr.length
    simp at hl
    have : cs[off]? = some v := by
      have e : ((cs.toList.drop off).take a.csize)[0]? = some v := by rw [h1]; rfl
      rw [List.getElem?_take_of_lt (by omega), List.getElem?_drop] at e
      simpa using e
    simp [part, tagg_run ha, this]

theorem op_field {T ft : TypeId} {x : Operand} {i fo : Nat} {a : AV} (ho : o.op = .field T x i) (hx : evA env x = a) (hagg : a.isAgg = true) (hf : tfld P T i = some (fo, ft)) :
    OpOK P o env H ⟨i < a.parts.length ∧ a.partOff i = fo ∧ tsz P ft = some (a.parts.getD i .undef).csize ∧ tagg P ft = some (a.parts.getD i .undef).isAgg, a.parts.getD i .undef, [], [], []⟩ := by
  refine .pure fun ρ g w hop _ hvc => ?_
  obtain ⟨v1, v2, v3, v4⟩ := hvc
  have h1 := hop x (by simp [Op.operands, ho])
  rw [hx] at h1
  obtain ⟨cs, hv, hr⟩ := V1_agg h1 hagg
  obtain ⟨fs, f, k1, k2, rfl, rfl⟩ := tfld_und hf
  obtain ⟨m1, m2⟩ := hr.part v1
  rw [v2] at m1
  obtain ⟨v, n1, n2⟩ := part_run m1 v3 v4
  exact ⟨v, by simp [execOp, ho, hv, Instr.field, run_underlying k1, k2, asAgg, n1], .of_V0 n2⟩

theorem op_index_arr {T e : TypeId} {x y : Operand} {len sz : Nat} {a : AV} {k : IntKind} {i : Int} (ho : o.op = .index T x y) (hx : evA env x = a) (hagg : a.isAgg = true) (hy : evA env y = .val (.int k i)) (hT : tarr P T = some (len, e)) (hs : tsz P e = some sz) :
    OpOK P o env H ⟨(0 ≤ i ∧ i < len) ∧ i.toNat < a.parts.length ∧ a.partOff i.toNat = i.toNat * sz ∧ sz = (a.parts.getD i.toNat .undef).csize ∧ tagg P e = some (a.parts.getD i.toNat .undef).isAgg, a.parts.getD i.toNat .undef, [], [], []⟩ := by
  refine .pure fun ρ g w hop _ hvc => ?_
  obtain ⟨⟨v1, v2⟩, v3, v4, v5, v6⟩ := hvc
  have h1 := hop x (by simp [Op.operands, ho])
  have h2 := hop y (by simp [Op.operands, ho])
  rw [hx] at h1; rw [hy] at h2
  obtain ⟨hi, _⟩ := V1_val h2
  obtain ⟨cs, hv, hr⟩ := V1_agg h1 hagg
  obtain ⟨m1, m2⟩ := hr.part v3
  rw [v4] at m1
  obtain ⟨v, n1, n2⟩ := part_run m1 (by rw [hs, v5]) v6
  exact ⟨v, by simp [execOp, ho, hv, hi, Instr.index, run_underlying (tarr_und hT), asIntOf, v1, v2, tsz_run hs, n1], .of_V0 n2⟩

theorem op_index_str {T : TypeId} {x y : Operand} {s : ByteArray} {k : IntKind} {i : Int} (ho : o.op = .index T x y) (hx : evA env x = .val (.string s)) (hy : evA env y = .val (.int k i)) (hT : tstr P T = some ()) :
    OpOK P o env H ⟨0 ≤ i ∧ i < s.size, .val (.int .u8 ((s.data.toList.getD i.toNat 0).toNat : Int)), [], [], []⟩ := by
  refine .pure fun ρ g w hop _ hvc => ?_
  obtain ⟨v1, v2⟩ := hvc
  have h1 := hop x (by simp [Op.operands, ho])
  have h2 := hop y (by simp [Op.operands, ho])
  rw [hx] at h1; rw [hy] at h2
  obtain ⟨hi, _⟩ := V1_val h2
  obtain ⟨hv, _⟩ := V1_val h1
  have hlt : i.toNat < s.size := by omega
  refine ⟨_, ?_, V1_mk rfl⟩
  simp only [execOp, ho, hv, hi, Instr.index, asIntOf, Sem.run_bind, Sem.run_pure, Result.andThen_ok, run_underlying (tstr_und hT), if_pos v1]
  have e : s[i.toNat]? = some (s.data.toList.getD i.toNat 0) := by
    have hlt' : i.toNat < s.data.toList.length := by simpa using hlt
    rw [getElem?_pos s i.toNat hlt, List.getD_eq_getElem?_getD, List.getElem?_eq_getElem hlt']
    rfl
  rw [e]; rfl

theorem op_extract {x : Operand} {i : Nat} {as : List AV} (ho : o.op = .extract x i) (hx : evA env x = .tup as) : OpOK P o env H ⟨i < as.length, as.getD i .undef, [], [], []⟩ := by
  refine .pure fun ρ g w hop _ hvc => ?_
  have h1 := hop x (by simp [Op.operands, ho])
  rw [hx] at h1
  obtain ⟨ws, hv, hl, hall⟩ := h1
  have hlt : i < ws.toList.length := by omega
  have ha : as[i]? = some (as.getD i .undef) := by rw [List.getD_eq_getElem?_getD, List.getElem?_eq_getElem hvc]; rfl
  have hw : ws.toList[i]? = some ws.toList[i] := List.getElem?_eq_getElem hlt
  refine ⟨ws.toList[i], ?_, ?_⟩
  · have : ws[i]? = some ws.toList[i] := by simp
    simp [execOp, ho, hv, Instr.extract, this]
  · rcases hall i _ _ ha hw with h | h
    · rw [h]; trivial
    · exact .of_V0 h

theorem op_len_sl {c : Call} {x : Operand} {T e : TypeId} {sz tok : Nat} {L : List AV} (ho : o.op = .call c) (hc : c = ⟨.builtin .len, #[x], #[T]⟩) (hx : evA env x = .sl sz L tok) (hT : tsl P T = some e) :
    OpOK P o env H ⟨True, .val (.int .i64 L.length), [], [], []⟩ := by
  subst hc
  refine .pure fun ρ g w hop _ hvc => ?_
  have h1 := hop x (by simp [Op.operands, ho, Call.operands])
  rw [hx] at h1
  rcases V1_sl h1 with ⟨rfl, _, hv⟩ | ⟨b, q, c, hv, _⟩ <;>
  exact ⟨_, by simp [execOp, ho, resolve, invoke, builtin, Builtin.len_, run_underlying (tsl_und hT), hv, goInt], V1_mk rfl⟩

theorem op_len_aref {c : Call} {x : Operand} {T e : TypeId} {n off sz lo len : Nat} {path : List Nat} (ho : o.op = .call c) (hc : c = ⟨.builtin .len, #[x], #[T]⟩) (hx : evA env x = .aref n off path sz lo len) (hT : tsl P T = some e) :
    OpOK P o env H ⟨True, .val (.int .i64 len), [], [], []⟩ := by
  subst hc
  refine .pure fun ρ g w hop _ hvc => ?_
  have h1 := hop x (by simp [Op.operands, ho, Call.operands])
  rw [hx] at h1
  obtain ⟨b, z, c, hv, _⟩ := V1_aref h1
  exact ⟨_, by simp [execOp, ho, resolve, invoke, builtin, Builtin.len_, run_underlying (tsl_und hT), hv, goInt], V1_mk rfl⟩

theorem op_len_str {c : Call} {x : Operand} {T : TypeId} {s : ByteArray} (ho : o.op = .call c) (hc : c = ⟨.builtin .len, #[x], #[T]⟩) (hx : evA env x = .val (.string s)) (hT : tstr P T = some ()) :
    OpOK P o env H ⟨True, .val (.int .i64 s.size), [], [], []⟩ := by
  subst hc
  refine .pure fun ρ g w hop _ hvc => ?_
  have h1 := hop x (by simp [Op.operands, ho, Call.operands])
  rw [hx] at h1
  obtain ⟨hv, _⟩ := V1_val h1
  exact ⟨_, by simp [execOp, ho, resolve, invoke, builtin, Builtin.len_, run_underlying (tstr_und hT), hv, goInt], V1_mk rfl⟩

theorem op_minmax {c : Call} {mx : Bool} {x y : Operand} {T U : TypeId} {k k' : IntKind} {a b : Int} (ho : o.op = .call c) (hc : c = ⟨.builtin (if mx then .max else .min), #[x, y], #[T, U]⟩) (hx : evA env x = .val (.int k a)) (hy : evA env y = .val (.int k' b)) :
    OpOK P o env H ⟨True, .val (.int k (if mx then max a b else min a b)), [], [], []⟩ := by
  subst hc
  refine .pure fun ρ g w hop _ hvc => ?_
  have h1 := hop x (by simp [Op.operands, ho, Call.operands])
  have h2 := hop y (by simp [Op.operands, ho, Call.operands])
  rw [hx] at h1; rw [hy] at h2
  obtain ⟨hv, _⟩ := V1_val h1
  obtain ⟨hv2, _⟩ := V1_val h2
  refine ⟨_, ?_, V1_mk rfl⟩
  cases mx
  · simp [execOp, ho, resolve, invoke, builtin, Builtin.min_, Builtin.min2, hv, hv2]
    omega
  · simp [execOp, ho, resolve, invoke, builtin, Builtin.max_, Builtin.max2, hv, hv2]
    omega

theorem op_makeFunc {f : FuncId} {caps : Array Operand} (ho : o.op = .makeFunc (.func f) #[] caps) (hg : ∀ x ∈ caps, (evA env x).good = true ∧ (evA env x).isAgg = false) :
    OpOK P o env H ⟨True, .clos f (caps.toList.map (evA env)), [], [], []⟩ := by
  refine .pure fun ρ g w hop _ _ => ?_
  refine ⟨.func (.func f) #[] (caps.map ρ), by simp [execOp, ho, Instr.makeFunc], ?_⟩
  have key : ∀ l : List Operand, (∀ x ∈ l, x ∈ caps) → R g w (.useq 1 (l.map (evA env)) (l.map ρ)) := by
    intro l
    induction l with
    | nil => intro _; exact .useqNil
    | cons x l ih =>
      intro hl
      have hx := hl x List.mem_cons_self
      have hv := (hop x (by simp [Op.operands, ho, hx])).toV0 (hg x hx).1
      exact .useqCons (cs := [ρ x]) (V0.cell hv (hg x hx).2).1 rfl (ih fun y hy => hl y (List.mem_cons_of_mem _ hy))
  have hk := key caps.toList (fun x hx => Array.mem_toList_iff.1 hx)
  have : caps.map ρ = (caps.toList.map ρ).toArray := by apply Array.ext'; rw [Array.toList_map]
  rw [this]
  exact V0.of_cell (.clos hk (fun a ha => by obtain ⟨x, hx, rfl⟩ := List.mem_map.1 ha; exact (hg x (Array.mem_toList_iff.1 hx)).2)) rfl
end
end Go.AL

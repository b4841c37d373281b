/-
  The layer AL, part 15: the rules by which 'simp' reckons what is asked.
-/
import Derived.Test.YtdkcobnhcpgpaaaGreatAL14
set_option linter.unusedSimpArgs false
set_option linter.unusedVariables false
namespace Go.AL
open Go

/-- What is asked behind a piece of code: the next piece. -/
def kCode (cx : Cx) (an : An) (b : Code) (Q : Post) : Post := kSeq (fun env H nx => codeWp cx an b env H nx Q) Q

/-- not by itself -/
theorem nrfl {α : Sort _} {a b : α} (h : a = b) : a = b := h
section
variable {cx : Cx} {an : An} {env : Env} {H : Heap} {nx : Nat} {Q : Post}
theorem cw_skip : codeWp cx an .skip env H nx Q = Q .normal env H nx := nrfl rfl
theorem cw_seq {a b : Code} : codeWp cx an (.seq a b) env H nx Q = codeWp cx an a env H nx (kCode cx an b Q) := nrfl rfl
theorem cw_region {id : Nat} {l : List Oper} {draw : Bool} : codeWp cx an (.region id l.toArray draw) env H nx Q =
    if an.rj.contains id = true then midK (fun Q => regWp cx an l draw nx l 0 env H (nx + 8 * l.length) [] [] (Q .normal)) nx Q () else regWp cx an l draw nx l 0 env H (nx + 8 * l.length) [] [] (Q .normal) := nrfl rfl
theorem cw_cond {c : Operand} {a b : Code} : codeWp cx an (.cond c a b) env H nx Q = if joins an c = true then midK (fun Q => condWp (evA env c) (codeWp cx an a env H nx Q) (codeWp cx an b env H nx Q) () ()) nx Q ()
    else condWp (evA env c) (codeWp cx an a env H nx Q) (codeWp cx an b env H nx Q) () () := nrfl rfl
theorem cw_block {id : Nat} {b : Code} : codeWp cx an (.block id b) env H nx Q = if an.cut.contains id = true then midK (fun Q => codeWp cx an b env H nx (kBlock id Q)) nx Q () else codeWp cx an b env H nx (kBlock id Q) := nrfl rfl
theorem midK_by {a : Post → Prop} {la : Lock a} (M : Mid) (h1 : ∀ s, nbE nx (M.E s) ∧ nbL nx (M.H s)) (h2 : a (kMid M Q)) (h3 : ∀ s, Q .normal (M.E s) (M.H s) nx) : midK a nx Q la := ⟨M, h1, h2, h3⟩
theorem km_normal {M : Mid} : kMid M Q .normal env H nx = ∃ s, subE (M.E s) env ∧ subL (M.H s) H := nrfl rfl
theorem km_ret {M : Mid} : kMid M Q .ret env H nx = Q .ret env H nx := nrfl rfl
theorem km_exit {M : Mid} {n : Nat} : kMid M Q (.exit n) env H nx = Q (.exit n) env H nx := nrfl rfl
theorem cw_exit {n : Nat} : codeWp cx an (.exit n) env H nx Q = Q (.exit n) env H nx := nrfl rfl
theorem cw_ret : codeWp cx an .ret env H nx Q = Q .ret env H nx := nrfl rfl
theorem kc_normal {b : Code} : kCode cx an b Q .normal env H nx = codeWp cx an b env H nx Q := nrfl rfl
theorem kc_ret {b : Code} : kCode cx an b Q .ret env H nx = Q .ret env H nx := nrfl rfl
theorem kc_exit {b : Code} {n : Nat} : kCode cx an b Q (.exit n) env H nx = Q (.exit n) env H nx := nrfl rfl
theorem kb_normal {id : Nat} : kBlock id Q .normal env H nx = Q .normal env H nx := nrfl rfl
theorem kb_ret {id : Nat} : kBlock id Q .ret env H nx = Q .ret env H nx := nrfl rfl
theorem kb_exit {id n : Nat} : kBlock id Q (.exit n) env H nx = if n = id then Q .normal env H nx else Q (.exit n) env H nx := nrfl rfl
theorem kl_normal {I : Inv_} {s : I.σ} : kLoop I s Q .normal env H nx = ∃ s', I.μ s' < I.μ s ∧ subE (I.E s') env ∧ subL (I.H s') H := nrfl rfl
theorem kl_ret {I : Inv_} {s : I.σ} : kLoop I s Q .ret env H nx = Q .ret env H nx := nrfl rfl
theorem kl_exit {I : Inv_} {s : I.σ} {n : Nat} : kLoop I s Q (.exit n) env H nx = Q (.exit n) env H nx := nrfl rfl
theorem ordOK_f {ops : List Oper} {j : Nat} {r w : List Nat} : ∀ {p : Past}, ordOK ops false j r w p = True
  | [] => rfl
  | x :: t => by show ((false = false ∨ _) ∧ ordOK ops false j r w t) = True; rw [ordOK_f]; simp
theorem ordOK_e {ops : List Oper} {d : Bool} {j : Nat} : ∀ {p : Past}, ordOK ops d j [] [] p = True
  | [] => rfl
  | x :: t => by
    show ((d = false ∨ noClash _ _ [] [] ∨ _) ∧ ordOK ops d j [] [] t) = True
    rw [ordOK_e]
    simp only [and_true, eq_iff_iff, iff_true]
    exact .inr (.inl ⟨fun m _ => ⟨fun x hx => (by simp at hx), fun x hx => (by simp at hx)⟩, fun m _ x hx => (by simp at hx)⟩)
theorem ordCalls_f {ops : List Oper} {j k : Nat} : ∀ {p : List Nat}, ordCalls ops false j k p = True
  | [] => rfl
  | x :: t => by show ((false = false ∨ _) ∧ ordCalls ops false j k t) = True; rw [ordCalls_f]; simp

/-- A loop, by an invariant. -/
theorem cw_loop {b : Code} (I : Inv_) (s0 : I.σ) (h1 : subE (I.E s0) env) (h2 : subL (I.H s0) H) (h3 : ∀ s, nbE nx (I.E s) ∧ nbL nx (I.H s)) (h4 : ∀ s, codeWp cx an b (I.E s) (I.H s) nx (kLoop I s Q)) :
    codeWp cx an (.loop b) env H nx Q := ⟨I, s0, h1, h2, h3, h4⟩

/-- The outcome that an operation hangs on. -/
def gdReg (d : Option Nat) (want : Bool) (env : Env) (X Y : Nat → Prop) (Z : Prop) (_ : Lock X) (_ : Lock Y) (_ : Lock Z) : Prop :=
  match d with
  | some t => gdWp (env.get t) want (X t) (Y t) Z () () ()
  | none => False
section
variable {ops r : List Oper} {draw : Bool} {i nc : Nat} {past : Past} {pc : List Nat} {K : Env → Heap → Nat → Prop} {next : NextT} {dst : Option Nat} {ty : TypeId} {pos : String} {after : Array Edge} {g : Option (Nat × Bool)} {op : Op}
theorem rw_nil : regWp cx an ops draw nx [] i env H nc past pc K = K env H nc := nrfl rfl
theorem rw_none : regWp cx an ops draw nx (⟨dst, op, ty, pos, after, none⟩ :: r) i env H nc past pc K = stepWp cx an ops draw nx ⟨dst, op, ty, pos, after, none⟩ i env H nc past pc (regWp cx an ops draw nx r (i + 1)) K := nrfl rfl
theorem rw_some {j : Nat} {want : Bool} : regWp cx an ops draw nx (⟨dst, op, ty, pos, after, some (j, want)⟩ :: r) i env H nc past pc K =
    gdReg (guardDst ops j) want env (fun t => stepWp cx an ops draw nx ⟨dst, op, ty, pos, after, some (j, want)⟩ i ((t, .val (.bool want)) :: env) H nc past pc (regWp cx an ops draw nx r (i + 1)) K)
      (fun t => regWp cx an ops draw nx r (i + 1) (putA dst (.tup []) ((t, .val (.bool (!want))) :: env)) H nc past pc K)
      (regWp cx an ops draw nx r (i + 1) (putA dst (.tup []) env) H nc past pc K) () () () := by
  show (match guardDst ops j with | some t => _ | none => False) = _
  unfold gdReg
  cases guardDst ops j <;> rfl
theorem gd_some {t : Nat} {want : Bool} {X Y : Nat → Prop} {Z : Prop} {lx : Lock X} {ly : Lock Y} {lz : Lock Z} : gdReg (some t) want env X Y Z lx ly lz = gdWp (env.get t) want (X t) (Y t) Z () () () := nrfl rfl
theorem gd_bool {b want : Bool} {X Y Z : Prop} {lx : Lock X} {ly : Lock Y} {lz : Lock Z} : gdWp (.val (.bool b)) want X Y Z lx ly lz = brB b want X Y () () := nrfl rfl
theorem gd_skip {want : Bool} {X Y Z : Prop} {lx : Lock X} {ly : Lock Y} {lz : Lock Z} : gdWp (.tup []) want X Y Z lx ly lz = Z := nrfl rfl
theorem guardDst_zero {o : Oper} : guardDst (o :: r) 0 = o.dst := nrfl rfl
theorem pw_some {out : Out} : primWp ops draw i dst (some out) env H nc past pc next K = (out.vc ∧ ordOK ops draw i out.rd (keys out.wr) past ∧ next (putA dst out.av env) (out.wr ++ H) nc (pushP i out.rd (keys out.wr) past) pc K) := nrfl rfl
theorem cW_clos {xs : List Operand} {f : Nat} {caps : List AV} : callWp cx ops draw i dst nc xs (.clos f caps) env H past pc next K = callK cx.P f nc (xs.map (evA env) ++ caps) (fun Hc av wr k => SubH Hc H ∧ wrK Hc nc k wr ∧
      ordOK ops draw i (keys Hc ++ keys wr) (keys wr) past ∧ ordCalls ops draw i k pc ∧ next (putA dst av env) (wr ++ H) (nc + k) (pushP i (keys Hc ++ keys wr) (keys wr) past) (i :: pc) K) () := nrfl rfl
theorem sw_call {x : Operand} {xs : Array Operand} {ts : Array TypeId} : stepWp cx an ops draw nx ⟨dst, .call ⟨.value x, xs, ts⟩, ty, pos, after, g⟩ i env H nc past pc next K = callWp cx ops draw i dst nc xs.toList (evA env x) env H past pc next K := nrfl rfl
theorem sw_builtin {b : Builtin} {xs : Array Operand} {ts : Array TypeId} : stepWp cx an ops draw nx ⟨dst, .call ⟨.builtin b, xs, ts⟩, ty, pos, after, g⟩ i env H nc past pc next K = primWp ops draw i dst (opSem cx an (nx + 8 * i) ⟨dst, .call ⟨.builtin b, xs, ts⟩, ty, pos, after, g⟩ env H) env H nc past pc next K := nrfl rfl
theorem sw_move {x : Operand} : stepWp cx an ops draw nx ⟨dst, .move x, ty, pos, after, g⟩ i env H nc past pc next K = primWp ops draw i dst (opSem cx an (nx + 8 * i) ⟨dst, .move x, ty, pos, after, g⟩ env H) env H nc past pc next K := nrfl rfl
theorem sw_assign {x : Operand} : stepWp cx an ops draw nx ⟨dst, .assign x, ty, pos, after, g⟩ i env H nc past pc next K = primWp ops draw i dst (opSem cx an (nx + 8 * i) ⟨dst, .assign x, ty, pos, after, g⟩ env H) env H nc past pc next K := nrfl rfl
theorem sw_pick {c x y : Operand} : stepWp cx an ops draw nx ⟨dst, .pick c x y, ty, pos, after, g⟩ i env H nc past pc next K = primWp ops draw i dst (opSem cx an (nx + 8 * i) ⟨dst, .pick c x y, ty, pos, after, g⟩ env H) env H nc past pc next K := nrfl rfl
theorem sw_alloc {T : TypeId} : stepWp cx an ops draw nx ⟨dst, .alloc T, ty, pos, after, g⟩ i env H nc past pc next K = primWp ops draw i dst (opSem cx an (nx + 8 * i) ⟨dst, .alloc T, ty, pos, after, g⟩ env H) env H nc past pc next K := nrfl rfl
theorem sw_box {T : TypeId} {x : Operand} : stepWp cx an ops draw nx ⟨dst, .box T x, ty, pos, after, g⟩ i env H nc past pc next K = primWp ops draw i dst (opSem cx an (nx + 8 * i) ⟨dst, .box T x, ty, pos, after, g⟩ env H) env H nc past pc next K := nrfl rfl
theorem sw_build {T : TypeId} {ps : Array (Nat × Operand)} : stepWp cx an ops draw nx ⟨dst, .build T ps, ty, pos, after, g⟩ i env H nc past pc next K = primWp ops draw i dst (opSem cx an (nx + 8 * i) ⟨dst, .build T ps, ty, pos, after, g⟩ env H) env H nc past pc next K := nrfl rfl
theorem sw_buildSlice {T : TypeId} {n : Nat} {ps : Array (Nat × Operand)} : stepWp cx an ops draw nx ⟨dst, .buildSlice T n ps, ty, pos, after, g⟩ i env H nc past pc next K = primWp ops draw i dst (opSem cx an (nx + 8 * i) ⟨dst, .buildSlice T n ps, ty, pos, after, g⟩ env H) env H nc past pc next K := nrfl rfl
theorem sw_load {T : TypeId} {x : Operand} : stepWp cx an ops draw nx ⟨dst, .load T x, ty, pos, after, g⟩ i env H nc past pc next K = primWp ops draw i dst (opSem cx an (nx + 8 * i) ⟨dst, .load T x, ty, pos, after, g⟩ env H) env H nc past pc next K := nrfl rfl
theorem sw_store {T : TypeId} {x y : Operand} : stepWp cx an ops draw nx ⟨dst, .store T x y, ty, pos, after, g⟩ i env H nc past pc next K = primWp ops draw i dst (opSem cx an (nx + 8 * i) ⟨dst, .store T x y, ty, pos, after, g⟩ env H) env H nc past pc next K := nrfl rfl
theorem sw_nilCheck {x : Operand} : stepWp cx an ops draw nx ⟨dst, .nilCheck x, ty, pos, after, g⟩ i env H nc past pc next K = primWp ops draw i dst (opSem cx an (nx + 8 * i) ⟨dst, .nilCheck x, ty, pos, after, g⟩ env H) env H nc past pc next K := nrfl rfl
theorem sw_binOp {op : BinOp} {T : TypeId} {x y : Operand} {U : TypeId} : stepWp cx an ops draw nx ⟨dst, .binOp op T x y U, ty, pos, after, g⟩ i env H nc past pc next K = primWp ops draw i dst (opSem cx an (nx + 8 * i) ⟨dst, .binOp op T x y U, ty, pos, after, g⟩ env H) env H nc past pc next K := nrfl rfl
theorem sw_unOp {op : UnOp} {T : TypeId} {x : Operand} : stepWp cx an ops draw nx ⟨dst, .unOp op T x, ty, pos, after, g⟩ i env H nc past pc next K = primWp ops draw i dst (opSem cx an (nx + 8 * i) ⟨dst, .unOp op T x, ty, pos, after, g⟩ env H) env H nc past pc next K := nrfl rfl
theorem sw_convert {S T : TypeId} {x : Operand} : stepWp cx an ops draw nx ⟨dst, .convert S T x, ty, pos, after, g⟩ i env H nc past pc next K = primWp ops draw i dst (opSem cx an (nx + 8 * i) ⟨dst, .convert S T x, ty, pos, after, g⟩ env H) env H nc past pc next K := nrfl rfl
theorem sw_makeFunc {f : Fn} {a b : Array Operand} : stepWp cx an ops draw nx ⟨dst, .makeFunc f a b, ty, pos, after, g⟩ i env H nc past pc next K = primWp ops draw i dst (opSem cx an (nx + 8 * i) ⟨dst, .makeFunc f a b, ty, pos, after, g⟩ env H) env H nc past pc next K := nrfl rfl
theorem sw_makeSlice {T : TypeId} {x y : Operand} : stepWp cx an ops draw nx ⟨dst, .makeSlice T x y, ty, pos, after, g⟩ i env H nc past pc next K = primWp ops draw i dst (opSem cx an (nx + 8 * i) ⟨dst, .makeSlice T x y, ty, pos, after, g⟩ env H) env H nc past pc next K := nrfl rfl
theorem sw_slice {T : TypeId} {x : Operand} {lo hi mx : Option Operand} : stepWp cx an ops draw nx ⟨dst, .slice T x lo hi mx, ty, pos, after, g⟩ i env H nc past pc next K = primWp ops draw i dst (opSem cx an (nx + 8 * i) ⟨dst, .slice T x lo hi mx, ty, pos, after, g⟩ env H) env H nc past pc next K := nrfl rfl
theorem sw_fieldAddr {T : TypeId} {x : Operand} {n : Nat} : stepWp cx an ops draw nx ⟨dst, .fieldAddr T x n, ty, pos, after, g⟩ i env H nc past pc next K = primWp ops draw i dst (opSem cx an (nx + 8 * i) ⟨dst, .fieldAddr T x n, ty, pos, after, g⟩ env H) env H nc past pc next K := nrfl rfl
theorem sw_field {T : TypeId} {x : Operand} {n : Nat} : stepWp cx an ops draw nx ⟨dst, .field T x n, ty, pos, after, g⟩ i env H nc past pc next K = primWp ops draw i dst (opSem cx an (nx + 8 * i) ⟨dst, .field T x n, ty, pos, after, g⟩ env H) env H nc past pc next K := nrfl rfl
theorem sw_indexAddr {T : TypeId} {x y : Operand} : stepWp cx an ops draw nx ⟨dst, .indexAddr T x y, ty, pos, after, g⟩ i env H nc past pc next K = primWp ops draw i dst (opSem cx an (nx + 8 * i) ⟨dst, .indexAddr T x y, ty, pos, after, g⟩ env H) env H nc past pc next K := nrfl rfl
theorem sw_index {T : TypeId} {x y : Operand} : stepWp cx an ops draw nx ⟨dst, .index T x y, ty, pos, after, g⟩ i env H nc past pc next K = primWp ops draw i dst (opSem cx an (nx + 8 * i) ⟨dst, .index T x y, ty, pos, after, g⟩ env H) env H nc past pc next K := nrfl rfl
theorem sw_extract {x : Operand} {n : Nat} : stepWp cx an ops draw nx ⟨dst, .extract x n, ty, pos, after, g⟩ i env H nc past pc next K = primWp ops draw i dst (opSem cx an (nx + 8 * i) ⟨dst, .extract x n, ty, pos, after, g⟩ env H) env H nc past pc next K := nrfl rfl
theorem sw_makeMap {T : TypeId} {r : Option Operand} : stepWp cx an ops draw nx ⟨dst, .makeMap T r, ty, pos, after, g⟩ i env H nc past pc next K = primWp ops draw i dst (opSem cx an (nx + 8 * i) ⟨dst, .makeMap T r, ty, pos, after, g⟩ env H) env H nc past pc next K := nrfl rfl
end

end
end Go.AL

/-
  The layer AL, part 14: zero values; how a seat's tables are told.
-/
import Derived.Test.YtaghcjbpjnpkbaaGreatAL13
import Derived.KernelRfl
set_option linter.unusedSimpArgs false
set_option linter.unusedVariables false
namespace Go.AL
open Go

mutual
def AV.flat : AV → List Value
  | .val v => [v]
  | .sl _ _ _ => [.slice none 0 0]
  | .agg _ ps | .vec _ ps => AV.flats ps
  | _ => []
def AV.flats : List AV → List Value
  | [] => []
  | a :: as => AV.flat a ++ AV.flats as
end
mutual
def AV.wfz : AV → Bool
  | .val v => v.oneCell'
  | .sl _ L _ => L.isEmpty
  | .agg n ps => AV.wfzs ps && n == (AV.flats ps).length
  | .vec sz ps => AV.wfzu sz ps
  | _ => false
def AV.wfzs : List AV → Bool
  | [] => true
  | a :: as => AV.wfz a && AV.wfzs as
def AV.wfzu (sz : Nat) : List AV → Bool
  | [] => true
  | a :: as => AV.wfz a && ((AV.flat a).length == sz && AV.wfzu sz as)
end

mutual
theorem AV.wfz_R {g : G} {w : World} : ∀ (a : AV), a.wfz = true → R g w (.one a a.flat)
  | .val v, h => by rw [AV.wfz] at h; rw [AV.flat]; exact .val h
  | .sl sz L tok, h => by
    rw [AV.wfz] at h
    rw [AV.flat]
    have : L = [] := by simpa using h
    subst this; exact .slNil
  | .agg n ps, h => by
    rw [AV.wfz, Bool.and_eq_true] at h
    rw [AV.flat]
    exact .agg (AV.wfzs_R ps h.1) (by simpa using h.2)
  | .vec sz ps, h => by rw [AV.wfz] at h; rw [AV.flat]; exact .vec (AV.wfzu_R sz ps h)
  | .undef, h => by simp [AV.wfz] at h
  | .ref .., h => by simp [AV.wfz] at h
  | .cref .., h => by simp [AV.wfz] at h
  | .aref .., h => by simp [AV.wfz] at h
  | .map .., h => by simp [AV.wfz] at h
  | .clos .., h => by simp [AV.wfz] at h
  | .tup .., h => by simp [AV.wfz] at h
theorem AV.wfzs_R {g : G} {w : World} : ∀ (as : List AV), AV.wfzs as = true → R g w (.seq as (AV.flats as))
  | [], _ => by rw [AV.flats]; exact .seqNil
  | a :: as, h => by
    rw [AV.wfzs, Bool.and_eq_true] at h
    rw [AV.flats]
    exact .seqCons (AV.wfz_R a h.1) (AV.wfzs_R as h.2)
theorem AV.wfzu_R {g : G} {w : World} (sz : Nat) : ∀ (as : List AV), AV.wfzu sz as = true → R g w (.useq sz as (AV.flats as))
  | [], _ => by rw [AV.flats]; exact .useqNil
  | a :: as, h => by
    rw [AV.wfzu, Bool.and_eq_true, Bool.and_eq_true] at h
    rw [AV.flats]
    exact .useqCons (AV.wfz_R a h.1) (by simpa using h.2.1) (AV.wfzu_R sz as h.2.2)
end

theorem ZeroOK.mk {P : Program} {T : TypeId} {z : AV} (v : Value) (h1 : (P.info? T).bind (·.zero) = some v) (h2 : z.wfz = true) (h3 : v.cells.toList = z.flat) (h4 : isAggV v = z.isAgg) : ZeroOK P T z :=
  ⟨v, h1, fun g w => ⟨by rw [h3]; exact AV.wfz_R z h2, h4⟩⟩

def zLook (l : List (Nat × AV)) (T : Nat) : Option AV :=
  match l with
  | [] => none
  | (k, z) :: r => if k = T then some z else zLook r T
def zAll (P : Program) : List (Nat × AV) → Prop
  | [] => True
  | (k, z) :: r => ZeroOK P k z ∧ zAll P r
theorem zLook_ok {P : Program} : ∀ {l : List (Nat × AV)}, zAll P l → ∀ T z, zLook l T = some z → ZeroOK P T z
  | [], _, T, z, h => by cases h
  | (k, x) :: r, ha, T, z, h => by
    obtain ⟨h1, h2⟩ := ha
    simp only [zLook] at h
    split at h
    · rename_i e; injection h with h; subst e h; exact h1
    · exact zLook_ok h2 T z h

end Go.AL

set_option linter.unusedSimpArgs false
set_option linter.unusedVariables false
namespace Go.AL
open Go

def kCode (cx : Cx) (an : An) (b : Code) (Q : Post) : Post := kSeq (fun env H nx => codeWp cx an b env H nx Q) Q

theorem nrfl {α : Sort _} {a b : α} (h : a = b) : a = b := h
section
variable {cx : Cx} {an : An} {env : Env} {H : Heap} {nx : Nat} {Q : Post}
theorem cw_skip : codeWp cx an .skip env H nx Q = Q .normal env H nx := nrfl rfl
theorem cw_seq {a b : Code} : codeWp cx an (.seq a b) env H nx Q = codeWp cx an a env H nx (kCode cx an b Q) := nrfl rfl
theorem cw_region {id : Nat} {l : List Oper} {draw : Bool} : codeWp cx an (.region id l.toArray draw) env H nx Q =
    if an.nxt.contains id = true then nextK cx l draw env H nx (Q .normal) else if an.vw.contains id = true then viewK (fun H => regWp cx an l draw nx l 0 env H (nx + 8 * l.length) [] [] (Q .normal)) H () else
    if an.rj.contains id = true then midK (fun Q => regWp cx an l draw nx l 0 env H (nx + 8 * l.length) [] [] (Q .normal)) nx Q () else regWp cx an l draw nx l 0 env H (nx + 8 * l.length) [] [] (Q .normal) := nrfl rfl
theorem nk_clone {t0 t1 t2 t3 t4 x t1' t3' t4' fc : Nat} {args : Array Operand} {ts : Array TypeId} {T T' xT y0 y1 y2 y3 y4 : TypeId} {p0 p1 p2 p3 p4 : String} {f0 f1 f2 f3 f4 : Array Edge} {K : Env → Heap → Nat → Prop} :
    nextK cx [⟨some t0, .move (.tmp x), y0, p0, f0, none⟩, ⟨some t1, .makeInterface T (.tmp t1'), y1, p1, f1, none⟩, ⟨some t2, .call ⟨.value (.func fc), args, ts⟩, y2, p2, f2, none⟩, ⟨some t3, .typeAssert (.tmp t3') xT T' false, y3, p3, f3, none⟩, ⟨some t4, .assign (.tmp t4'), y4, p4, f4, none⟩] false env H nx K =
    (match env.get x with
      | .map m => match Res.mp? (H.get m) with
        | some es => t1' = t0 ∧ args.toList = [.tmp t1] ∧ t3' = t2 ∧ T' = T ∧ t4' = t3 ∧ (tmap cx.P T).isSome = true ∧ cloneFn cx.P fc ∧ AV.nbs nx (es.map (·.1)) ∧ AV.nbs nx (es.map (·.2)) ∧
            K ((t4, .map nx) :: (t3, .undef) :: (t2, .undef) :: (t1, .undef) :: (t0, .undef) :: env) ((nx, some (.mp es)) :: H) (nx + 1)
        | none => False
      | _ => False) := nrfl rfl
theorem nk_eq {d d' d2 t : Nat} {T1 T2 : TypeId} {p1 p2 : String} {a1 a2 : Array Edge} {K : Env → Heap → Nat → Prop} : nextK cx [⟨some d, .next (.tmp t) false, T1, p1, a1, none⟩, ⟨some d2, .extract (.tmp d') 0, T2, p2, a2, none⟩] false env H nx K =
    (match env.get t with
    | .ref n 0 [] => match H.get n with
      | some (.itr m bs clk se) => match H.get m with
        | some (.xmp es bs' clk') => d' = d ∧ bs' = bs ∧ clk' = clk ∧
           stepsK es.length se (K ((d2, .val (.bool false)) :: (d, .undef) :: env) H nx) (fun i => K ((d2, .val (.bool true)) :: (d, .undef) :: env) ((n, some (.itr m bs clk (i :: se))) :: H) nx) () ()
        | _ => False
      | _ => False
    | _ => False) := nrfl rfl
theorem steps_by {n : Nat} {se : List Nat} {X : Prop} {Y : Nat → Prop} {lx : Lock X} {ly : Lock Y} (h1 : ∀ j ∈ se, j < n) (h2 : (∀ i, i < n → i ∈ se) → X) (h3 : ∀ i, i < n → i ∉ se → Y i) : stepsK n se X Y lx ly := ⟨h1, h2, h3⟩
theorem view_pin {X : Heap → Prop} {lx : Lock X} (m : Nat) {α : Type} (f : α → AV × AV) (l : List α) (h : H.get m = some (.rmp (l.map f))) (hX : ∀ (l' : List α) (bs : List Nat) (clk : Nat), l'.Perm l → ((l.map f).map (·.1)).Nodup → bs.length = l.length → X ((m, some (.xmp (l'.map f) bs clk)) :: H)) : viewK X H lx := by
  refine .inl ⟨m, _, h, fun es' bs clk hp hn hb => ?_⟩
  have key : ∀ {es es' : List (AV × AV)}, es'.Perm es → ∀ l : List α, es = l.map f → ∃ l' : List α, l'.Perm l ∧ es' = l'.map f := by
    intro es es' hp
    induction hp with
    | nil => intro l hl; exact ⟨l, .refl _, hl⟩
    | cons x _ ih =>
      intro l hl
      cases l with
      | nil => cases hl
      | cons a l =>
        simp only [List.map_cons, List.cons.injEq] at hl
        obtain ⟨l', h1, h2⟩ := ih l hl.2
        exact ⟨a :: l', .cons _ h1, by simp [hl.1, h2]⟩
    | swap x y L =>
      intro l hl
      match l, hl with
      | [], hl => cases hl
      | [a], hl => simp at hl
      | a :: b :: l, hl =>
        simp only [List.map_cons, List.cons.injEq] at hl
        exact ⟨b :: a :: l, .swap _ _ _, by simp [hl.1, hl.2.1, hl.2.2]⟩
    | trans _ _ ih1 ih2 =>
      intro l hl
      obtain ⟨l1, h1, h2⟩ := ih2 l hl
      obtain ⟨l2, h3, h4⟩ := ih1 l1 h2
      exact ⟨l2, h3.trans h1, h4⟩
  obtain ⟨l', h1, rfl⟩ := key hp l rfl
  exact hX l' bs clk h1 hn (by simpa using hb)
theorem cw_cond {c : Operand} {a b : Code} : codeWp cx an (.cond c a b) env H nx Q = if joins an c = true then midK (fun Q => condWp (evA env c) (codeWp cx an a env H nx Q) (codeWp cx an b env H nx Q) () ()) nx Q ()
    else condWp (evA env c) (codeWp cx an a env H nx Q) (codeWp cx an b env H nx Q) () () := nrfl rfl
theorem cw_block {id : Nat} {b : Code} : codeWp cx an (.block id b) env H nx Q = if an.cut.contains id = true then midK (fun Q => codeWp cx an b env H nx (kBlock id Q)) nx Q () else codeWp cx an b env H nx (kBlock id Q) := nrfl rfl
theorem km_normal {M : Mid} : kMid M Q .normal env H nx = ∃ s, subE (M.E s) env ∧ subL (M.H s) H := nrfl rfl
theorem km_ret {M : Mid} : kMid M Q .ret env H nx = Q .ret env H nx := nrfl rfl
theorem km_exit {M : Mid} {n : Nat} : kMid M Q (.exit n) env H nx = Q (.exit n) env H nx := nrfl rfl
theorem cw_exit {n : Nat} : codeWp cx an (.exit n) env H nx Q = Q (.exit n) env H nx := nrfl rfl
theorem cw_label {n : Nat} : codeWp cx an (.label n) env H nx Q = Q .normal env H nx := nrfl rfl
theorem cw_scope {b : Code} : codeWp cx an (.scope b) env H nx Q = codeWp cx an b env H nx Q := nrfl rfl
theorem cw_ret : codeWp cx an .ret env H nx Q = Q .ret env H nx := nrfl rfl
theorem kc_normal {b : Code} : kCode cx an b Q .normal env H nx = codeWp cx an b env H nx Q := nrfl rfl
theorem kc_ret {b : Code} : kCode cx an b Q .ret env H nx = Q .ret env H nx := nrfl rfl
theorem kc_exit {b : Code} {n : Nat} : kCode cx an b Q (.exit n) env H nx = Q (.exit n) env H nx := nrfl rfl
theorem kb_normal {id : Nat} : kBlock id Q .normal env H nx = Q .normal env H nx := nrfl rfl
theorem kb_ret {id : Nat} : kBlock id Q .ret env H nx = Q .ret env H nx := nrfl rfl
theorem kb_exit {id n : Nat} : kBlock id Q (.exit n) env H nx = if n = id then Q .normal env H nx else Q (.exit n) env H nx := nrfl rfl
theorem kl_normal {I : Inv_} {s : I.σ} : kLoop I s Q .normal env H nx = ∃ s', I.μ s' < I.μ s ∧ subE (I.E s') env ∧ subL (I.H s') H := nrfl rfl
theorem kl_ret {I : Inv_} {s : I.σ} : kLoop I s Q .ret env H nx = Q .ret env H nx := nrfl rfl
theorem kl_exit {I : Inv_} {s : I.σ} {n : Nat} : kLoop I s Q (.exit n) env H nx = Q (.exit n) env H nx := nrfl rfl
theorem ordOK_f {ops : List Oper} {j : Nat} {r w : List Nat} : ∀ {p : Past}, ordOK ops false j r w p = True
  | [] => rfl
  | x :: t => by show ((false = false ∨ _) ∧ ordOK ops false j r w t) = True; rw [ordOK_f]; simp
theorem ordOK_e {ops : List Oper} {d : Bool} {j : Nat} : ∀ {p : Past}, ordOK ops d j [] [] p = True
  | [] => rfl
  | x :: t => by
    show ((d = false ∨ noClash _ _ [] [] ∨ _) ∧ ordOK ops d j [] [] t) = True
    rw [ordOK_e]
    simp only [and_true, eq_iff_iff, iff_true]
    exact .inr (.inl ⟨fun m _ => ⟨fun x hx => (by simp at hx), fun x hx => (by simp at hx)⟩, fun m _ x hx => (by simp at hx)⟩)
theorem ordCalls_f {ops : List Oper} {j k : Nat} : ∀ {p : List Nat}, ordCalls ops false j k p = True
  | [] => rfl
  | x :: t => by show ((false = false ∨ _) ∧ ordCalls ops false j k t) = True; rw [ordCalls_f]; simp

def gdReg (d : Option Nat) (want : Bool) (env : Env) (X Y : Nat → Prop) (Z : Prop) (_ : Lock X) (_ : Lock Y) (_ : Lock Z) : Prop :=
  match d with
  | some t => gdWp (env.get t) want (X t) (Y t) Z () () ()
  | none => False
section
variable {ops r : List Oper} {draw : Bool} {i nc : Nat} {past : Past} {pc : List Nat} {K : Env → Heap → Nat → Prop} {next : NextT} {dst : Option Nat} {ty : TypeId} {pos : String} {after : Array Edge} {g : Option (Nat × Bool)} {op : Op}
theorem rw_nil : regWp cx an ops draw nx [] i env H nc past pc K = K env H nc := nrfl rfl
theorem rw_none : regWp cx an ops draw nx (⟨dst, op, ty, pos, after, none⟩ :: r) i env H nc past pc K = stepWp cx an ops draw nx ⟨dst, op, ty, pos, after, none⟩ i env H nc past pc (regWp cx an ops draw nx r (i + 1)) K := nrfl rfl
theorem rw_some {j : Nat} {want : Bool} : regWp cx an ops draw nx (⟨dst, op, ty, pos, after, some (j, want)⟩ :: r) i env H nc past pc K =
    gdReg (guardDst ops j) want env (fun t => stepWp cx an ops draw nx ⟨dst, op, ty, pos, after, some (j, want)⟩ i ((t, .val (.bool want)) :: env) H nc past pc (regWp cx an ops draw nx r (i + 1)) K)
      (fun t => regWp cx an ops draw nx r (i + 1) (putA dst (.tup []) ((t, .val (.bool (!want))) :: env)) H nc past pc K)
      (regWp cx an ops draw nx r (i + 1) (putA dst (.tup []) env) H nc past pc K) () () () := by
  show (match guardDst ops j with | some t => _ | none => False) = _
  unfold gdReg
  cases guardDst ops j <;> rfl
theorem gd_some {t : Nat} {want : Bool} {X Y : Nat → Prop} {Z : Prop} {lx : Lock X} {ly : Lock Y} {lz : Lock Z} : gdReg (some t) want env X Y Z lx ly lz = gdWp (env.get t) want (X t) (Y t) Z () () () := nrfl rfl
theorem gd_bool {b want : Bool} {X Y Z : Prop} {lx : Lock X} {ly : Lock Y} {lz : Lock Z} : gdWp (.val (.bool b)) want X Y Z lx ly lz = brB b want X Y () () := nrfl rfl
theorem gd_skip {want : Bool} {X Y Z : Prop} {lx : Lock X} {ly : Lock Y} {lz : Lock Z} : gdWp (.tup []) want X Y Z lx ly lz = Z := nrfl rfl
theorem pw_some {out : Out} : primWp ops draw i dst (some out) env H nc past pc next K = (out.vc ∧ ordOK ops draw i out.rd (keys out.wr) past ∧ next (putA dst out.av env) (out.wr ++ H) nc (pushP i out.rd (keys out.wr) past) pc K) := nrfl rfl
theorem cW_clos {xs : List Operand} {f : Nat} {caps : List AV} : callWp cx ops draw i dst nc xs (.clos f caps) env H past pc next K = callK cx.P f nc (xs.map (evA env) ++ caps) (fun Hc av wr k => SubH Hc H ∧ wrK Hc nc k wr ∧
      ordOK ops draw i (keys Hc ++ keys wr) (keys wr) past ∧ ordCalls ops draw i k pc ∧ next (putA dst av env) (wr ++ H) (nc + k) (pushP i (keys Hc ++ keys wr) (keys wr) past) (i :: pc) K) () := nrfl rfl
theorem sw_call {x : Operand} {xs : Array Operand} {ts : Array TypeId} : stepWp cx an ops draw nx ⟨dst, .call ⟨.value x, xs, ts⟩, ty, pos, after, g⟩ i env H nc past pc next K = callWp cx ops draw i dst nc xs.toList (evA env x) env H past pc next K := nrfl rfl
theorem sw_builtin {b : Builtin} {xs : Array Operand} {ts : Array TypeId} : stepWp cx an ops draw nx ⟨dst, .call ⟨.builtin b, xs, ts⟩, ty, pos, after, g⟩ i env H nc past pc next K = primWp ops draw i dst (opSem cx an (nx + 8 * i) ⟨dst, .call ⟨.builtin b, xs, ts⟩, ty, pos, after, g⟩ env H) env H nc past pc next K := nrfl rfl
theorem sw_move {x : Operand} : stepWp cx an ops draw nx ⟨dst, .move x, ty, pos, after, g⟩ i env H nc past pc next K = primWp ops draw i dst (opSem cx an (nx + 8 * i) ⟨dst, .move x, ty, pos, after, g⟩ env H) env H nc past pc next K := nrfl rfl
theorem sw_assign {x : Operand} : stepWp cx an ops draw nx ⟨dst, .assign x, ty, pos, after, g⟩ i env H nc past pc next K = primWp ops draw i dst (opSem cx an (nx + 8 * i) ⟨dst, .assign x, ty, pos, after, g⟩ env H) env H nc past pc next K := nrfl rfl
theorem sw_pick {c x y : Operand} : stepWp cx an ops draw nx ⟨dst, .pick c x y, ty, pos, after, g⟩ i env H nc past pc next K = primWp ops draw i dst (opSem cx an (nx + 8 * i) ⟨dst, .pick c x y, ty, pos, after, g⟩ env H) env H nc past pc next K := nrfl rfl
theorem sw_alloc {T : TypeId} : stepWp cx an ops draw nx ⟨dst, .alloc T, ty, pos, after, g⟩ i env H nc past pc next K = primWp ops draw i dst (opSem cx an (nx + 8 * i) ⟨dst, .alloc T, ty, pos, after, g⟩ env H) env H nc past pc next K := nrfl rfl
theorem sw_box {T : TypeId} {x : Operand} : stepWp cx an ops draw nx ⟨dst, .box T x, ty, pos, after, g⟩ i env H nc past pc next K = primWp ops draw i dst (opSem cx an (nx + 8 * i) ⟨dst, .box T x, ty, pos, after, g⟩ env H) env H nc past pc next K := nrfl rfl
theorem sw_build {T : TypeId} {ps : Array (Nat × Operand)} : stepWp cx an ops draw nx ⟨dst, .build T ps, ty, pos, after, g⟩ i env H nc past pc next K = primWp ops draw i dst (opSem cx an (nx + 8 * i) ⟨dst, .build T ps, ty, pos, after, g⟩ env H) env H nc past pc next K := nrfl rfl
theorem sw_buildSlice {T : TypeId} {n : Nat} {ps : Array (Nat × Operand)} : stepWp cx an ops draw nx ⟨dst, .buildSlice T n ps, ty, pos, after, g⟩ i env H nc past pc next K = primWp ops draw i dst (opSem cx an (nx + 8 * i) ⟨dst, .buildSlice T n ps, ty, pos, after, g⟩ env H) env H nc past pc next K := nrfl rfl
theorem sw_load {T : TypeId} {x : Operand} : stepWp cx an ops draw nx ⟨dst, .load T x, ty, pos, after, g⟩ i env H nc past pc next K = primWp ops draw i dst (opSem cx an (nx + 8 * i) ⟨dst, .load T x, ty, pos, after, g⟩ env H) env H nc past pc next K := nrfl rfl
theorem sw_store {T : TypeId} {x y : Operand} : stepWp cx an ops draw nx ⟨dst, .store T x y, ty, pos, after, g⟩ i env H nc past pc next K = primWp ops draw i dst (opSem cx an (nx + 8 * i) ⟨dst, .store T x y, ty, pos, after, g⟩ env H) env H nc past pc next K := nrfl rfl
theorem sw_nilCheck {x : Operand} : stepWp cx an ops draw nx ⟨dst, .nilCheck x, ty, pos, after, g⟩ i env H nc past pc next K = primWp ops draw i dst (opSem cx an (nx + 8 * i) ⟨dst, .nilCheck x, ty, pos, after, g⟩ env H) env H nc past pc next K := nrfl rfl
theorem sw_binOp {op : BinOp} {T : TypeId} {x y : Operand} {U : TypeId} : stepWp cx an ops draw nx ⟨dst, .binOp op T x y U, ty, pos, after, g⟩ i env H nc past pc next K = primWp ops draw i dst (opSem cx an (nx + 8 * i) ⟨dst, .binOp op T x y U, ty, pos, after, g⟩ env H) env H nc past pc next K := nrfl rfl
theorem sw_unOp {op : UnOp} {T : TypeId} {x : Operand} : stepWp cx an ops draw nx ⟨dst, .unOp op T x, ty, pos, after, g⟩ i env H nc past pc next K = primWp ops draw i dst (opSem cx an (nx + 8 * i) ⟨dst, .unOp op T x, ty, pos, after, g⟩ env H) env H nc past pc next K := nrfl rfl
theorem sw_convert {S T : TypeId} {x : Operand} : stepWp cx an ops draw nx ⟨dst, .convert S T x, ty, pos, after, g⟩ i env H nc past pc next K = primWp ops draw i dst (opSem cx an (nx + 8 * i) ⟨dst, .convert S T x, ty, pos, after, g⟩ env H) env H nc past pc next K := nrfl rfl
theorem sw_makeFunc {f : Fn} {a b : Array Operand} : stepWp cx an ops draw nx ⟨dst, .makeFunc f a b, ty, pos, after, g⟩ i env H nc past pc next K = primWp ops draw i dst (opSem cx an (nx + 8 * i) ⟨dst, .makeFunc f a b, ty, pos, after, g⟩ env H) env H nc past pc next K := nrfl rfl
theorem sw_makeSlice {T : TypeId} {x y : Operand} : stepWp cx an ops draw nx ⟨dst, .makeSlice T x y, ty, pos, after, g⟩ i env H nc past pc next K = primWp ops draw i dst (opSem cx an (nx + 8 * i) ⟨dst, .makeSlice T x y, ty, pos, after, g⟩ env H) env H nc past pc next K := nrfl rfl
theorem sw_slice {T : TypeId} {x : Operand} {lo hi mx : Option Operand} : stepWp cx an ops draw nx ⟨dst, .slice T x lo hi mx, ty, pos, after, g⟩ i env H nc past pc next K = primWp ops draw i dst (opSem cx an (nx + 8 * i) ⟨dst, .slice T x lo hi mx, ty, pos, after, g⟩ env H) env H nc past pc next K := nrfl rfl
theorem sw_fieldAddr {T : TypeId} {x : Operand} {n : Nat} : stepWp cx an ops draw nx ⟨dst, .fieldAddr T x n, ty, pos, after, g⟩ i env H nc past pc next K = primWp ops draw i dst (opSem cx an (nx + 8 * i) ⟨dst, .fieldAddr T x n, ty, pos, after, g⟩ env H) env H nc past pc next K := nrfl rfl
theorem sw_field {T : TypeId} {x : Operand} {n : Nat} : stepWp cx an ops draw nx ⟨dst, .field T x n, ty, pos, after, g⟩ i env H nc past pc next K = primWp ops draw i dst (opSem cx an (nx + 8 * i) ⟨dst, .field T x n, ty, pos, after, g⟩ env H) env H nc past pc next K := nrfl rfl
theorem sw_indexAddr {T : TypeId} {x y : Operand} : stepWp cx an ops draw nx ⟨dst, .indexAddr T x y, ty, pos, after, g⟩ i env H nc past pc next K = primWp ops draw i dst (opSem cx an (nx + 8 * i) ⟨dst, .indexAddr T x y, ty, pos, after, g⟩ env H) env H nc past pc next K := nrfl rfl
theorem sw_index {T : TypeId} {x y : Operand} : stepWp cx an ops draw nx ⟨dst, .index T x y, ty, pos, after, g⟩ i env H nc past pc next K = primWp ops draw i dst (opSem cx an (nx + 8 * i) ⟨dst, .index T x y, ty, pos, after, g⟩ env H) env H nc past pc next K := nrfl rfl
theorem sw_extract {x : Operand} {n : Nat} : stepWp cx an ops draw nx ⟨dst, .extract x n, ty, pos, after, g⟩ i env H nc past pc next K = primWp ops draw i dst (opSem cx an (nx + 8 * i) ⟨dst, .extract x n, ty, pos, after, g⟩ env H) env H nc past pc next K := nrfl rfl
theorem sw_makeMap {T : TypeId} {r : Option Operand} : stepWp cx an ops draw nx ⟨dst, .makeMap T r, ty, pos, after, g⟩ i env H nc past pc next K = primWp ops draw i dst (opSem cx an (nx + 8 * i) ⟨dst, .makeMap T r, ty, pos, after, g⟩ env H) env H nc past pc next K := nrfl rfl
theorem sw_lookup {T : TypeId} {x y : Operand} {c : Bool} : stepWp cx an ops draw nx ⟨dst, .lookup T x y c, ty, pos, after, g⟩ i env H nc past pc next K = primWp ops draw i dst (opSem cx an (nx + 8 * i) ⟨dst, .lookup T x y c, ty, pos, after, g⟩ env H) env H nc past pc next K := nrfl rfl
theorem sw_range {T : TypeId} {x : Operand} : stepWp cx an ops draw nx ⟨dst, .range T x, ty, pos, after, g⟩ i env H nc past pc next K = primWp ops draw i dst (opSem cx an (nx + 8 * i) ⟨dst, .range T x, ty, pos, after, g⟩ env H) env H nc past pc next K := nrfl rfl
theorem sw_entry {x : Operand} : stepWp cx an ops draw nx ⟨dst, .entry x, ty, pos, after, g⟩ i env H nc past pc next K = primWp ops draw i dst (opSem cx an (nx + 8 * i) ⟨dst, .entry x, ty, pos, after, g⟩ env H) env H nc past pc next K := nrfl rfl
theorem sw_mapUpdate {T : TypeId} {x y v : Operand} : stepWp cx an ops draw nx ⟨dst, .mapUpdate T x y v, ty, pos, after, g⟩ i env H nc past pc next K = primWp ops draw i dst (opSem cx an (nx + 8 * i) ⟨dst, .mapUpdate T x y v, ty, pos, after, g⟩ env H) env H nc past pc next K := nrfl rfl
theorem sw_insert {T : TypeId} {x y v : Operand} : stepWp cx an ops draw nx ⟨dst, .insert T x y v, ty, pos, after, g⟩ i env H nc past pc next K = primWp ops draw i dst (opSem cx an (nx + 8 * i) ⟨dst, .insert T x y v, ty, pos, after, g⟩ env H) env H nc past pc next K := nrfl rfl
end

end
end Go.AL

set_option linter.unusedSimpArgs false
set_option linter.unusedVariables false
namespace Go.AL
open Go

theorem nbs_map {α : Type} {m : Nat} {f : α → AV} (h : ∀ x, (f x).nb m) (l : List α) : AV.nbs m (l.map f) := by
  induction l with
  | nil => rw [List.map_nil, AV.nbs]; trivial
  | cons x l ih => rw [List.map_cons, AV.nbs]; exact ⟨h x, ih⟩
theorem nb_u8s {m : Nat} (bs : List UInt8) : AV.nbs m (u8s bs) = True := by
  simp only [eq_iff_iff, iff_true]
  exact nbs_map (fun x => by rw [u8, AV.nb]; trivial) bs

section
variable {X Y : Prop} {lx : Lock X} {ly : Lock Y}
theorem brT {p : Prop} [Decidable p] (h1 : p → X) (h2 : ¬ p → Y) : brB (decide p) true X Y lx ly := by rw [brB_dt]; exact ⟨h1, h2⟩
theorem brF {p : Prop} [Decidable p] (h1 : ¬ p → X) (h2 : p → Y) : brB (decide p) false X Y lx ly := by rw [brB_df]; exact ⟨h1, h2⟩
theorem brVT {b : Bool} (h1 : b = true → X) (h2 : b = false → Y) : brB b true X Y lx ly := by rw [brB_bt]; exact ⟨h1, h2⟩
theorem brVF {b : Bool} (h1 : b = false → X) (h2 : b = true → Y) : brB b false X Y lx ly := by rw [brB_bf]; exact ⟨h1, h2⟩
end

theorem nx_l {n k : Nat} : (n + (k + 1) = n) = False := by simp
theorem nx_r {n k : Nat} : (n = n + (k + 1)) = False := by simp
theorem lt_nx {p n : Nat} (h : p < n) (k : Nat) : (p = n + k) = False := by simp; omega
theorem nx_gt {p n : Nat} (h : p < n) (k : Nat) : (n + k = p) = False := by simp; omega
theorem lt_nx0 {p n : Nat} (h : p < n) : (p = n) = False := by simp; omega
theorem nx_gt0 {p n : Nat} (h : p < n) : (n = p) = False := by simp; omega

def subA : AV → AV → Prop
  | .sl sz L tok, .sl sz' L' tok' => L = L' ∧ ((sz = sz' ∧ tok' = tok) ∨ ((sz = sz' ∨ L = []) ∧ (tok' = 0 ∨ tok = 1)))
  | _, .undef => True
  | a, b => a = b
def subAs : List AV → List AV → Prop
  | [], [] => True
  | a :: as, b :: bs => subA a b ∧ subAs as bs
  | _, _ => False

theorem TokOK.of1 {g : G} {tok blk len c e d : Nat} (h : c = len) : TokOK g tok blk len c e d := by
  match tok with
  | 0 => trivial
  | 1 => exact h
  | n + 2 => exact .inl h

theorem subA_V1 {g : G} {w : World} {a b : AV} {v : Value} (h : subA a b) (hv : V1 g w a v) : V1 g w b v := by
  unfold subA at h
  split at h
  · rename_i sz L tok sz' L' tok'
    obtain ⟨rfl, h3⟩ := h
    rcases V1_sl hv with ⟨rfl, _, rfl⟩ | ⟨bb, q, c, rfl, k1, k2, k3⟩
    · exact V0.of_cell .slNil rfl
    · have hl : ∀ s t, (sz = s ∨ L = []) → TokOK g t bb L.length c (q + L.length * s) (q + c * s) → V1 g w (.sl s L t) (.slice (some ⟨bb, q, none⟩) L.length c) := by
        intro s t e ht
        refine V0.of_cell (.sl k1 ?_ ht) rfl
        rcases e with rfl | rfl
        · exact k2
        · exact .memNil
      rcases h3 with ⟨rfl, rfl⟩ | ⟨h2, rfl | rfl⟩
      · exact hl sz _ (.inl rfl) k3
      · exact hl sz' 0 h2 trivial
      · exact hl sz' tok' h2 (.of1 k3)
  · trivial
  · subst h; exact hv

theorem subAs_get {as bs : List AV} (h : subAs as bs) : as.length = bs.length ∧ ∀ (i : Nat) (a b : AV), as[i]? = some a → bs[i]? = some b → subA a b := by
  induction as generalizing bs with
  | nil => cases bs with
    | nil => exact ⟨rfl, fun i a b ha => by simp at ha⟩
    | cons => exact h.elim
  | cons x as ih => cases bs with
    | nil => exact h.elim
    | cons y bs =>
      obtain ⟨h1, h2⟩ := h
      obtain ⟨i1, i2⟩ := ih h2
      refine ⟨by simp [i1], fun i a b ha hb => ?_⟩
      cases i with
      | zero => simp at ha hb; subst ha hb; exact h1
      | succ i => exact i2 i a b (by simpa using ha) (by simpa using hb)

theorem FnSpec.sub {P : Program} {f nx k : Nat} {args args' : List AV} {Hc wr : Heap} {av av' : AV} (h : FnSpec P f nx args Hc av wr k) (ha : subAs args' args) (hr : subA av av') : FnSpec P f nx args' Hc av' wr k := by
  refine ⟨h.1, fun vs g w hv hi hH hf => (h.2 vs g w ?_ hi hH hf).mono ?_⟩
  · obtain ⟨l1, l2⟩ := subAs_get ha
    obtain ⟨v1, v2⟩ := hv
    refine ⟨by omega, fun i x y hx hy => ?_⟩
    have hlt : i < args'.length := by
      rcases Nat.lt_or_ge i args'.length with h' | h'
      · exact h'
      · rw [List.getElem?_eq_none (by omega)] at hx; cases hx
    have hx' := List.getElem?_eq_getElem hlt
    exact subA_V1 (l2 i _ _ hx' hx) (v2 i _ y hx' hy)
  · rintro e w' ⟨v, g', rfl, h1, h2⟩
    exact ⟨v, g', rfl, subA_V1 hr h1, h2⟩

end Go.AL

set_option linter.unusedSimpArgs false
set_option linter.unusedVariables false
namespace Go.AL
open Go
section
variable {cx : Cx} {an : An} {env : Env} {H : Heap} {nx : Nat} {Q : Post}

def keepE : List Nat → Env → Env
  | [], _ => []
  | t :: ts, env => (t, env.get t) :: keepE ts env
theorem keepE_sub : ∀ (ts : List Nat) (env : Env), subE (keepE ts env) env
  | [], _ => trivial
  | t :: ts, env => ⟨rfl, keepE_sub ts env⟩
theorem subE_app : ∀ {A B env : Env}, subE A env → subE B env → subE (A ++ B) env
  | [], _, _, _, h => h
  | (t, a) :: A, B, env, h, k => ⟨h.1, subE_app h.2 k⟩
theorem loop_keep {b : Code} {σ : Type} (ts : List Nat) (E : σ → Env) (L : σ → Heap) (μ : σ → Nat) (s0 : σ) {K : Env}
    (hK : keepE ts env = K) (h1 : subE (E s0) env) (h2 : subL (L s0) H) (h3 : ∀ s, nbE nx (E s ++ K) ∧ nbL nx (L s))
    (h4 : ∀ s, codeWp cx an b (E s ++ K) (L s) nx (kLoop ⟨σ, fun s => E s ++ K, L, μ, fun _ => nx⟩ s Q)) : codeWp cx an (.loop b) env H nx Q :=
  ⟨⟨σ, fun s => E s ++ K, L, μ, fun _ => nx⟩, s0, subE_app h1 (hK ▸ keepE_sub ts env), h2, fun s => ⟨Nat.le_refl _, h3 s⟩, h4⟩
theorem loop_grow {b : Code} {σ : Type} (ts : List Nat) (E : σ → Env) (L : σ → Heap) (μ : σ → Nat) (N : σ → Nat) (s0 : σ) {K : Env}
    (hK : keepE ts env = K) (h1 : subE (E s0) env) (h2 : subL (L s0) H) (h3 : ∀ s, nx ≤ N s ∧ nbE (N s) (E s ++ K) ∧ nbL (N s) (L s))
    (h4 : ∀ s, codeWp cx an b (E s ++ K) (L s) (N s) (kLoop ⟨σ, fun s => E s ++ K, L, μ, N⟩ s Q)) : codeWp cx an (.loop b) env H nx Q :=
  ⟨⟨σ, fun s => E s ++ K, L, μ, N⟩, s0, subE_app h1 (hK ▸ keepE_sub ts env), h2, h3, h4⟩

def kJoin (E : Env) (L : Heap) (Q : Post) : Post
  | .normal, env, H, _ => subE E env ∧ subL L H
  | ex, env, H, nx => Q ex env H nx
theorem kj_normal {E : Env} {L : Heap} : kJoin E L Q .normal env H nx = (subE E env ∧ subL L H) := rfl
theorem kj_ret {E : Env} {L : Heap} : kJoin E L Q .ret env H nx = Q .ret env H nx := rfl
theorem kj_exit {E : Env} {L : Heap} {n : Nat} : kJoin E L Q (.exit n) env H nx = Q (.exit n) env H nx := rfl
end
end Go.AL

set_option linter.unusedVariables false
namespace Go.AL
open Go
theorem B0 : type_of% (@Go.AL.cw_skip) ∧ type_of% (@Go.AL.cw_seq) ∧ type_of% (@Go.AL.cw_region) ∧ type_of% (@Go.AL.cw_cond) ∧ type_of% (@Go.AL.cw_block) ∧ type_of% (@Go.AL.cw_exit) ∧ type_of% (@Go.AL.cw_ret) ∧ type_of% (@Go.AL.kc_normal) ∧ type_of% (@Go.AL.kc_ret) ∧ type_of% (@Go.AL.kc_exit) ∧ type_of% (@Go.AL.kb_normal) ∧ type_of% (@Go.AL.kb_ret) ∧ type_of% (@Go.AL.kb_exit) ∧ type_of% (@Go.AL.kl_ret) ∧ type_of% (@Go.AL.kl_exit) ∧ type_of% (@Go.AL.kl_normal) ∧ type_of% (@Go.AL.km_normal) ∧ type_of% (@Go.AL.km_ret) ∧ type_of% (@Go.AL.km_exit) ∧ type_of% (@Go.AL.kj_normal) ∧ type_of% (@Go.AL.kj_ret) ∧ type_of% (@Go.AL.kj_exit) ∧ type_of% (@Go.AL.keepE.eq_1) ∧ type_of% (@Go.AL.keepE.eq_2) ∧ type_of% (@Go.AL.rw_nil) ∧ type_of% (@Go.AL.rw_none) ∧ type_of% (@Go.AL.rw_some) ∧ type_of% (@Go.AL.gd_some) ∧ type_of% (@Go.AL.gd_bool) ∧ type_of% (@Go.AL.gd_skip) ∧ type_of% (@Go.AL.guardDst.eq_1) ∧ type_of% (@Go.AL.guardDst.eq_2) ∧ type_of% (@Go.AL.guardDst.eq_3) ∧ type_of% (@Go.AL.pw_some) ∧ type_of% (@Go.AL.cW_clos) ∧ type_of% (@Go.AL.sw_call) ∧ type_of% (@Go.AL.sw_builtin) ∧ type_of% (@Go.AL.sw_move) ∧ type_of% (@Go.AL.sw_assign) ∧ type_of% (@Go.AL.sw_pick) :=
  ⟨@Go.AL.cw_skip, @Go.AL.cw_seq, @Go.AL.cw_region, @Go.AL.cw_cond, @Go.AL.cw_block, @Go.AL.cw_exit, @Go.AL.cw_ret, @Go.AL.kc_normal, @Go.AL.kc_ret, @Go.AL.kc_exit, @Go.AL.kb_normal, @Go.AL.kb_ret, @Go.AL.kb_exit, @Go.AL.kl_ret, @Go.AL.kl_exit, @Go.AL.kl_normal, @Go.AL.km_normal, @Go.AL.km_ret, @Go.AL.km_exit, @Go.AL.kj_normal, @Go.AL.kj_ret, @Go.AL.kj_exit, @Go.AL.keepE.eq_1, @Go.AL.keepE.eq_2, @Go.AL.rw_nil, @Go.AL.rw_none, @Go.AL.rw_some, @Go.AL.gd_some, @Go.AL.gd_bool, @Go.AL.gd_skip, @Go.AL.guardDst.eq_1, @Go.AL.guardDst.eq_2, @Go.AL.guardDst.eq_3, @Go.AL.pw_some, @Go.AL.cW_clos, @Go.AL.sw_call, @Go.AL.sw_builtin, @Go.AL.sw_move, @Go.AL.sw_assign, @Go.AL.sw_pick⟩
theorem B1 : type_of% (@Go.AL.sw_alloc) ∧ type_of% (@Go.AL.sw_box) ∧ type_of% (@Go.AL.sw_build) ∧ type_of% (@Go.AL.sw_buildSlice) ∧ type_of% (@Go.AL.sw_load) ∧ type_of% (@Go.AL.sw_store) ∧ type_of% (@Go.AL.sw_nilCheck) ∧ type_of% (@Go.AL.sw_binOp) ∧ type_of% (@Go.AL.sw_unOp) ∧ type_of% (@Go.AL.sw_convert) ∧ type_of% (@Go.AL.sw_makeFunc) ∧ type_of% (@Go.AL.sw_makeSlice) ∧ type_of% (@Go.AL.sw_slice) ∧ type_of% (@Go.AL.sw_fieldAddr) ∧ type_of% (@Go.AL.sw_field) ∧ type_of% (@Go.AL.sw_indexAddr) ∧ type_of% (@Go.AL.sw_index) ∧ type_of% (@Go.AL.sw_extract) ∧ type_of% (@Go.AL.sw_makeMap) ∧ type_of% (@Go.AL.joins.eq_1) ∧ type_of% (@Go.AL.joins.eq_2) ∧ type_of% (@Go.AL.An.toks.eq_1) ∧ type_of% (@Go.AL.An.toks.eq_2) ∧ type_of% (@Go.AL.lookTk.eq_1) ∧ type_of% (@Go.AL.lookTk.eq_2) ∧ type_of% (@Go.AL.Out.toks.eq_1) ∧ type_of% (@Go.AL.Out.toks.eq_2) ∧ type_of% (@Option.bind_some.{0, 0}) ∧ type_of% (@Go.AL.evA.eq_1) ∧ type_of% (@Go.AL.evA.eq_2) ∧ type_of% (@Go.AL.evA.eq_3) ∧ type_of% (@Go.AL.evA.eq_4) ∧ type_of% (@Go.AL.Env.get.eq_1) ∧ type_of% (@Go.AL.Env.get.eq_2) ∧ type_of% (@Go.AL.Heap.get.eq_1) ∧ type_of% (@Go.AL.Heap.get.eq_2) ∧ type_of% (@Go.AL.putA.eq_1) ∧ type_of% (@Go.AL.putA.eq_2) ∧ type_of% (@List.toList_toArray.{0}) ∧ type_of% (@Go.AL.ordOK.eq_1) :=
  ⟨@Go.AL.sw_alloc, @Go.AL.sw_box, @Go.AL.sw_build, @Go.AL.sw_buildSlice, @Go.AL.sw_load, @Go.AL.sw_store, @Go.AL.sw_nilCheck, @Go.AL.sw_binOp, @Go.AL.sw_unOp, @Go.AL.sw_convert, @Go.AL.sw_makeFunc, @Go.AL.sw_makeSlice, @Go.AL.sw_slice, @Go.AL.sw_fieldAddr, @Go.AL.sw_field, @Go.AL.sw_indexAddr, @Go.AL.sw_index, @Go.AL.sw_extract, @Go.AL.sw_makeMap, @Go.AL.joins.eq_1, @Go.AL.joins.eq_2, @Go.AL.An.toks.eq_1, @Go.AL.An.toks.eq_2, @Go.AL.lookTk.eq_1, @Go.AL.lookTk.eq_2, @Go.AL.Out.toks.eq_1, @Go.AL.Out.toks.eq_2, @Option.bind_some.{0, 0}, @Go.AL.evA.eq_1, @Go.AL.evA.eq_2, @Go.AL.evA.eq_3, @Go.AL.evA.eq_4, @Go.AL.Env.get.eq_1, @Go.AL.Env.get.eq_2, @Go.AL.Heap.get.eq_1, @Go.AL.Heap.get.eq_2, @Go.AL.putA.eq_1, @Go.AL.putA.eq_2, @List.toList_toArray.{0}, @Go.AL.ordOK.eq_1⟩
theorem B2 : type_of% (@Go.AL.ordOK.eq_2) ∧ type_of% (@Go.AL.noClash.eq_1) ∧ type_of% (@Go.AL.ordCalls.eq_1) ∧ type_of% (@Go.AL.ordCalls.eq_2) ∧ type_of% (@Go.AL.pushP.eq_1) ∧ type_of% (@Go.AL.pushP.eq_2) ∧ type_of% (@Go.AL.argEnv.eq_1) ∧ type_of% (@Go.AL.argEnv.eq_2) ∧ type_of% (@List.length_cons.{0}) ∧ type_of% (@List.length_nil.{0}) ∧ type_of% (@List.map_cons.{0, 0}) ∧ type_of% (@List.map_nil.{0, 0}) ∧ type_of% (@Go.AL.isMut.eq_1) ∧ type_of% (@Go.AL.isMut.eq_2) ∧ type_of% (@Go.AL.pickA.eq_1) ∧ type_of% (@Go.AL.pickA.eq_2) ∧ type_of% (@List.contains_cons.{0}) ∧ type_of% (@List.contains_nil.{0}) ∧ type_of% (@Go.AL.isRange.eq_1) ∧ type_of% (@Go.AL.isRange.eq_2) ∧ type_of% (@Go.AL.buildVC.eq_1) ∧ type_of% (@Go.AL.buildVC.eq_2) ∧ type_of% (@Go.AL.buildA.eq_1) ∧ type_of% (@Go.AL.buildA.eq_2) ∧ type_of% (@Option.map_some.{0, 0}) ∧ type_of% (@Go.AL.brB_tt) ∧ type_of% (@Go.AL.brB_ff) ∧ type_of% (@Go.AL.brB_tf) ∧ type_of% (@Go.AL.brB_ft) ∧ type_of% (@Go.AL.brB_not) ∧ type_of% (@true_and) ∧ type_of% (@and_true) ∧ type_of% (@Option.isSome_some.{0}) ∧ type_of% (@Option.isSome_none.{0}) ∧ type_of% (@false_implies) ∧ type_of% (@true_implies) ∧ type_of% (@List.nil_append.{0}) ∧ type_of% (@List.cons_append.{0}) ∧ type_of% (@Nat.add_zero) ∧ type_of% (@Nat.zero_add) :=
  ⟨@Go.AL.ordOK.eq_2, @Go.AL.noClash.eq_1, @Go.AL.ordCalls.eq_1, @Go.AL.ordCalls.eq_2, @Go.AL.pushP.eq_1, @Go.AL.pushP.eq_2, @Go.AL.argEnv.eq_1, @Go.AL.argEnv.eq_2, @List.length_cons.{0}, @List.length_nil.{0}, @List.map_cons.{0, 0}, @List.map_nil.{0, 0}, @Go.AL.isMut.eq_1, @Go.AL.isMut.eq_2, @Go.AL.pickA.eq_1, @Go.AL.pickA.eq_2, @List.contains_cons.{0}, @List.contains_nil.{0}, @Go.AL.isRange.eq_1, @Go.AL.isRange.eq_2, @Go.AL.buildVC.eq_1, @Go.AL.buildVC.eq_2, @Go.AL.buildA.eq_1, @Go.AL.buildA.eq_2, @Option.map_some.{0, 0}, @Go.AL.brB_tt, @Go.AL.brB_ff, @Go.AL.brB_tf, @Go.AL.brB_ft, @Go.AL.brB_not, @true_and, @and_true, @Option.isSome_some.{0}, @Option.isSome_none.{0}, @false_implies, @true_implies, @List.nil_append.{0}, @List.cons_append.{0}, @Nat.add_zero, @Nat.zero_add⟩
theorem B3 : type_of% (@Nat.mul_zero) ∧ type_of% (@Nat.mul_one) ∧ type_of% (@Nat.add_assoc) ∧ type_of% (@Go.AL.AV.okPath.eq_1) ∧ type_of% (@Go.AL.AV.okPath.eq_2) ∧ type_of% (@Go.AL.AV.offAt.eq_1) ∧ type_of% (@Go.AL.AV.offAt.eq_2) ∧ type_of% (@Go.AL.AV.at_.eq_1) ∧ type_of% (@Go.AL.AV.at_.eq_2) ∧ type_of% (@Go.AL.AV.partOff.eq_1) ∧ type_of% (@Go.AL.AV.partOff.eq_2) ∧ type_of% (@Go.AL.AV.partOff.eq_3) ∧ type_of% (@Go.AL.AV.parts.eq_1) ∧ type_of% (@Go.AL.AV.parts.eq_2) ∧ type_of% (@Go.AL.AV.parts.eq_3) ∧ type_of% (@Go.AL.AV.setAt.eq_1) ∧ type_of% (@Go.AL.AV.setAt.eq_2) ∧ type_of% (@Go.AL.AV.setPart.eq_1) ∧ type_of% (@Go.AL.AV.setPart.eq_2) ∧ type_of% (@Go.AL.AV.setPart.eq_3) ∧ type_of% (@Go.AL.AV.csize.eq_1) ∧ type_of% (@Go.AL.AV.csize.eq_2) ∧ type_of% (@Go.AL.AV.csize.eq_3) ∧ type_of% (@Go.AL.AV.isAgg.eq_1) ∧ type_of% (@Go.AL.AV.isAgg.eq_2) ∧ type_of% (@Go.AL.AV.isAgg.eq_3) ∧ type_of% (@Go.AL.AV.good.eq_1) ∧ type_of% (@Go.AL.AV.good.eq_2) ∧ type_of% (@Go.AL.AV.good.eq_3) ∧ type_of% (@List.getD_cons_zero.{0}) ∧ type_of% (@List.getD_cons_succ.{0}) ∧ type_of% (@List.set_cons_zero.{0}) ∧ type_of% (@List.set_cons_succ.{0}) ∧ type_of% (@List.take_zero.{0}) ∧ type_of% (@List.take_succ_cons.{0}) ∧ type_of% (@List.drop_zero.{0}) ∧ type_of% (@List.sum_nil.{0}) ∧ type_of% (@List.sum_cons.{0}) ∧ type_of% (@and_self) ∧ type_of% (@false_and) :=
  ⟨@Nat.mul_zero, @Nat.mul_one, @Nat.add_assoc, @Go.AL.AV.okPath.eq_1, @Go.AL.AV.okPath.eq_2, @Go.AL.AV.offAt.eq_1, @Go.AL.AV.offAt.eq_2, @Go.AL.AV.at_.eq_1, @Go.AL.AV.at_.eq_2, @Go.AL.AV.partOff.eq_1, @Go.AL.AV.partOff.eq_2, @Go.AL.AV.partOff.eq_3, @Go.AL.AV.parts.eq_1, @Go.AL.AV.parts.eq_2, @Go.AL.AV.parts.eq_3, @Go.AL.AV.setAt.eq_1, @Go.AL.AV.setAt.eq_2, @Go.AL.AV.setPart.eq_1, @Go.AL.AV.setPart.eq_2, @Go.AL.AV.setPart.eq_3, @Go.AL.AV.csize.eq_1, @Go.AL.AV.csize.eq_2, @Go.AL.AV.csize.eq_3, @Go.AL.AV.isAgg.eq_1, @Go.AL.AV.isAgg.eq_2, @Go.AL.AV.isAgg.eq_3, @Go.AL.AV.good.eq_1, @Go.AL.AV.good.eq_2, @Go.AL.AV.good.eq_3, @List.getD_cons_zero.{0}, @List.getD_cons_succ.{0}, @List.set_cons_zero.{0}, @List.set_cons_succ.{0}, @List.take_zero.{0}, @List.take_succ_cons.{0}, @List.drop_zero.{0}, @List.sum_nil.{0}, @List.sum_cons.{0}, @and_self, @false_and⟩
theorem B4 : type_of% (@and_false) ∧ type_of% (@true_or) ∧ type_of% (@or_true) ∧ type_of% (@false_or) ∧ type_of% (@or_false) ∧ type_of% (@not_true_eq_false) ∧ type_of% (@not_false_eq_true) ∧ type_of% (@Bool.not_true) ∧ type_of% (@Bool.not_false) ∧ type_of% (@Bool.true_or) ∧ type_of% (@Bool.or_true) ∧ type_of% (@Bool.false_or) ∧ type_of% (@Bool.or_false) ∧ type_of% (@beq_self_eq_true.{0}) ∧ type_of% (@Bool.and_true) ∧ type_of% (@Bool.true_and) ∧ type_of% (@Bool.and_false) ∧ type_of% (@Bool.false_and) ∧ type_of% (@decide_eq_true_eq) ∧ type_of% (@decide_eq_false_iff_not) ∧ type_of% (@decide_true) ∧ type_of% (@decide_false) ∧ type_of% (@Bool.false_eq_true) ∧ type_of% (@Bool.true_eq_false) ∧ type_of% (@Bool.not_eq_true') ∧ type_of% (@Bool.not_eq_false') ∧ type_of% (@Bool.not_eq_eq_eq_not) ∧ type_of% (@List.mem_cons.{0}) ∧ type_of% (@List.not_mem_nil.{0}) ∧ type_of% (@Nat.lt_add_one) ∧ type_of% (@Nat.zero_lt_succ) ∧ type_of% (@Go.AL.keys.eq_1) ∧ type_of% (@Go.AL.subE.eq_1) ∧ type_of% (@Go.AL.subE.eq_2) ∧ type_of% (@Go.AL.subL.eq_1) ∧ type_of% (@Go.AL.subL.eq_2) ∧ type_of% (@Go.AL.subL.eq_3) ∧ type_of% (@Go.AL.kRet.eq_1) ∧ type_of% (@Go.AL.kRet.eq_2) ∧ type_of% (@Go.AL.resAll.eq_1) :=
  ⟨@and_false, @true_or, @or_true, @false_or, @or_false, @not_true_eq_false, @not_false_eq_true, @Bool.not_true, @Bool.not_false, @Bool.true_or, @Bool.or_true, @Bool.false_or, @Bool.or_false, @beq_self_eq_true.{0}, @Bool.and_true, @Bool.true_and, @Bool.and_false, @Bool.false_and, @decide_eq_true_eq, @decide_eq_false_iff_not, @decide_true, @decide_false, @Bool.false_eq_true, @Bool.true_eq_false, @Bool.not_eq_true', @Bool.not_eq_false', @Bool.not_eq_eq_eq_not, @List.mem_cons.{0}, @List.not_mem_nil.{0}, @Nat.lt_add_one, @Nat.zero_lt_succ, @Go.AL.keys.eq_1, @Go.AL.subE.eq_1, @Go.AL.subE.eq_2, @Go.AL.subL.eq_1, @Go.AL.subL.eq_2, @Go.AL.subL.eq_3, @Go.AL.kRet.eq_1, @Go.AL.kRet.eq_2, @Go.AL.resAll.eq_1⟩
theorem B5 : type_of% (@Go.AL.resAll.eq_2) ∧ type_of% (@Go.AL.subW.eq_1) ∧ type_of% (@Go.AL.subW.eq_2) ∧ type_of% (@Go.AL.subW.eq_3) ∧ type_of% (@Go.AL.wrL.eq_1) ∧ type_of% (@Go.AL.wrL.eq_2) ∧ type_of% (@Go.AL.wrL.eq_3) ∧ type_of% (@Go.AL.Res.wr.eq_1) ∧ type_of% (@Go.AL.Res.wr.eq_2) ∧ type_of% (@Go.AL.AV.nb.eq_1) ∧ type_of% (@Go.AL.AV.nb.eq_2) ∧ type_of% (@Go.AL.AV.nb.eq_3) ∧ type_of% (@Go.AL.AV.nb.eq_4) ∧ type_of% (@Go.AL.AV.nb.eq_5) ∧ type_of% (@Go.AL.AV.nb.eq_6) ∧ type_of% (@Go.AL.AV.nb.eq_7) ∧ type_of% (@Go.AL.AV.nb.eq_8) ∧ type_of% (@Go.AL.AV.nb.eq_9) ∧ type_of% (@Go.AL.AV.nb.eq_10) ∧ type_of% (@Go.AL.AV.nb.eq_11) ∧ type_of% (@Go.AL.AV.nbs.eq_1) ∧ type_of% (@Go.AL.AV.nbs.eq_2) ∧ type_of% (@Go.AL.nbL.eq_1) ∧ type_of% (@Go.AL.nbL.eq_2) ∧ type_of% (@Go.AL.nbL.eq_3) ∧ type_of% (@Go.AL.nbE.eq_1) ∧ type_of% (@Go.AL.nbE.eq_2) ∧ type_of% (@Go.AL.Res.nb.eq_1) ∧ type_of% (@Go.AL.Res.nb.eq_2) ∧ type_of% (@Go.AL.Res.nb.eq_3) ∧ type_of% (@List.length_append.{0}) ∧ type_of% (@Go.IntKind.bits.eq_1) ∧ type_of% (@Go.IntKind.bits.eq_2) ∧ type_of% (@Go.IntKind.bits.eq_3) ∧ type_of% (@Go.IntKind.bits.eq_4) ∧ type_of% (@Go.IntKind.bits.eq_5) ∧ type_of% (@Go.IntKind.bits.eq_6) ∧ type_of% (@Go.IntKind.bits.eq_7) ∧ type_of% (@Go.IntKind.bits.eq_8) ∧ type_of% (@Go.IntKind.signed.eq_1) :=
  ⟨@Go.AL.resAll.eq_2, @Go.AL.subW.eq_1, @Go.AL.subW.eq_2, @Go.AL.subW.eq_3, @Go.AL.wrL.eq_1, @Go.AL.wrL.eq_2, @Go.AL.wrL.eq_3, @Go.AL.Res.wr.eq_1, @Go.AL.Res.wr.eq_2, @Go.AL.AV.nb.eq_1, @Go.AL.AV.nb.eq_2, @Go.AL.AV.nb.eq_3, @Go.AL.AV.nb.eq_4, @Go.AL.AV.nb.eq_5, @Go.AL.AV.nb.eq_6, @Go.AL.AV.nb.eq_7, @Go.AL.AV.nb.eq_8, @Go.AL.AV.nb.eq_9, @Go.AL.AV.nb.eq_10, @Go.AL.AV.nb.eq_11, @Go.AL.AV.nbs.eq_1, @Go.AL.AV.nbs.eq_2, @Go.AL.nbL.eq_1, @Go.AL.nbL.eq_2, @Go.AL.nbL.eq_3, @Go.AL.nbE.eq_1, @Go.AL.nbE.eq_2, @Go.AL.Res.nb.eq_1, @Go.AL.Res.nb.eq_2, @Go.AL.Res.nb.eq_3, @List.length_append.{0}, @Go.IntKind.bits.eq_1, @Go.IntKind.bits.eq_2, @Go.IntKind.bits.eq_3, @Go.IntKind.bits.eq_4, @Go.IntKind.bits.eq_5, @Go.IntKind.bits.eq_6, @Go.IntKind.bits.eq_7, @Go.IntKind.bits.eq_8, @Go.IntKind.signed.eq_1⟩
theorem B6 : type_of% (@Go.IntKind.signed.eq_2) ∧ type_of% (@Go.IntKind.signed.eq_3) ∧ type_of% (@Go.IntKind.signed.eq_4) ∧ type_of% (@Go.IntKind.signed.eq_5) ∧ type_of% (@Go.AL.SubH.eq_1) ∧ type_of% (@Go.AL.SubH.eq_2) ∧ type_of% (@Go.AL.SubH.eq_3) ∧ type_of% (@Go.AL.SubH.eq_4) ∧ type_of% (@Go.AL.wrK.eq_1) ∧ type_of% (@Go.AL.wrK.eq_2) ∧ type_of% (@Int.toNat_natCast) ∧ type_of% (@Int.ofNat_lt) ∧ type_of% (@Int.ofNat_le) ∧ type_of% (@Int.natCast_inj) ∧ type_of% (@Int.natCast_nonneg) ∧ type_of% (@Int.toNat_zero) ∧ type_of% (@Go.AL.nx_l) ∧ type_of% (@Go.AL.nx_r) ∧ type_of% (@Int.cast_ofNat_Int) :=
  ⟨@Go.IntKind.signed.eq_2, @Go.IntKind.signed.eq_3, @Go.IntKind.signed.eq_4, @Go.IntKind.signed.eq_5, @Go.AL.SubH.eq_1, @Go.AL.SubH.eq_2, @Go.AL.SubH.eq_3, @Go.AL.SubH.eq_4, @Go.AL.wrK.eq_1, @Go.AL.wrK.eq_2, @Int.toNat_natCast, @Int.ofNat_lt, @Int.ofNat_le, @Int.natCast_inj, @Int.natCast_nonneg, @Int.toNat_zero, @Go.AL.nx_l, @Go.AL.nx_r, @Int.cast_ofNat_Int⟩
end Go.AL

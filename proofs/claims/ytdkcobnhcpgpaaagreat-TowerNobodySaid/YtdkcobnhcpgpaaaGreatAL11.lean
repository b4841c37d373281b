/-
  The layer AL, part 11: a region, computed.
-/
import Derived.Test.YtdkcobnhcpgpaaaGreatAL10
set_option linter.unusedSimpArgs false
set_option linter.unusedVariables false
namespace Go.AL
open Go

def putA : Option Nat → AV → Env → Env
  | some t, v, e => (t, v) :: e
  | none, _, e => e

/-- What came ahead in a region: its number, what it looked at, what it wrote. -/
abbrev Past := List (Nat × List Nat × List Nat)

def noClash (r1 w1 r2 w2 : List Nat) : Prop := (∀ m ∈ w1, (∀ x ∈ r2, m ≠ x) ∧ ∀ x ∈ w2, m ≠ x) ∧ ∀ m ∈ r1, ∀ x ∈ w2, m ≠ x

def pushP (i : Nat) (rd ws : List Nat) (past : Past) : Past :=
  match rd, ws with
  | [], [] => past
  | rd, ws => (i, rd, ws) :: past
theorem pushP_or (i : Nat) (rd : List Nat) (wr : Heap) (past : Past) : (wr = [] ∧ rd = [] ∧ pushP i rd (keys wr) past = past) ∨ pushP i rd (keys wr) past = (i, rd, keys wr) :: past := by
  cases rd with
  | cons => exact .inr rfl
  | nil => cases wr with
    | nil => exact .inl ⟨rfl, rfl, rfl⟩
    | cons => exact .inr rfl

/-- In a region that draws its order: whatever touches the same name stands in an order. -/
def ordOK (ops : List Oper) (draw : Bool) (j : Nat) (r w : List Nat) : Past → Prop
  | [] => True
  | (i, r1, w1) :: t => (draw = false ∨ noClash r1 w1 r w ∨ ahead ops j i = true) ∧ ordOK ops draw j r w t

def ordCalls (ops : List Oper) (draw : Bool) (j k : Nat) : List Nat → Prop
  | [] => True
  | i :: t => (draw = false ∨ k = 0 ∨ ahead ops j i = true) ∧ ordCalls ops draw j k t

/-- Names that a contract's function writes are lent to it to be written, or new. -/
def wrK (Hc : Heap) (nx k : Nat) : Heap → Prop
  | [] => True
  | (n, _) :: t => (match Hc.get n with
      | some r => r.wr = true
      | none => nx ≤ n ∧ n < nx + k) ∧ wrK Hc nx k t

/-- What is not looked into before its time. -/
@[reducible] def Lock {α : Type} (_ : α) : Type := Unit

/-- Two ways, by a truth. -/
def brB (b want : Bool) (X Y : Prop) (_ : Lock X) (_ : Lock Y) : Prop := (b = want → X) ∧ (b = (!want) → Y)
section
variable {X Y : Prop} {lx : Lock X} {ly : Lock Y}
theorem brB_tt : brB true true X Y lx ly = X := by simp [brB]
theorem brB_ff : brB false false X Y lx ly = X := by simp [brB]
theorem brB_tf : brB true false X Y lx ly = Y := by simp [brB]
theorem brB_ft : brB false true X Y lx ly = Y := by simp [brB]
theorem brB_not {b w : Bool} : brB (!b) w X Y lx ly = brB b (!w) X Y lx ly := by cases b <;> cases w <;> simp [brB]
theorem brB_dt {p : Prop} [Decidable p] : brB (decide p) true X Y lx ly = ((p → X) ∧ (¬ p → Y)) := by simp [brB]
theorem brB_df {p : Prop} [Decidable p] : brB (decide p) false X Y lx ly = ((¬ p → X) ∧ (p → Y)) := by simp [brB]
theorem brB_bt {b : Bool} : brB b true X Y lx ly = ((b = true → X) ∧ (b = false → Y)) := by simp [brB]
theorem brB_bf {b : Bool} : brB b false X Y lx ly = ((b = false → X) ∧ (b = true → Y)) := by simp [brB]
end

/-- A call by some contract, and what is asked behind it. -/
def callK (P : Program) (f nc : Nat) (args : List AV) (K : Heap → AV → Heap → Nat → Prop) (_ : Lock K) : Prop := ∃ Hc av wr k, FnSpec P f nc args Hc av wr k ∧ K Hc av wr k
theorem callK_by {P : Program} {f nc k : Nat} {args : List AV} {Hc wr : Heap} {av : AV} {K : Heap → AV → Heap → Nat → Prop} {lk : Lock K} (h : FnSpec P f nc args Hc av wr k) (hk : K Hc av wr k) : callK P f nc args K lk := ⟨Hc, av, wr, k, h, hk⟩

/-- where the outcome of a region's operation lies -/
def guardDst : List Oper → Nat → Option Nat
  | [], _ => none
  | o :: _, 0 => o.dst
  | _ :: l, n + 1 => guardDst l n
theorem guardDst_eq : ∀ (l : List Oper) (j : Nat), guardDst l j = (l[j]?).bind (·.dst)
  | [], j => by simp [guardDst]
  | o :: l, 0 => by simp [guardDst]
  | o :: l, n + 1 => by simp [guardDst, guardDst_eq l n]

abbrev NextT := Env → Heap → Nat → Past → List Nat → (Env → Heap → Nat → Prop) → Prop

def primWp (ops : List Oper) (draw : Bool) (i : Nat) (dst : Option Nat) (out : Option Out) (env : Env) (H : Heap) (nc : Nat) (past : Past) (pc : List Nat) (next : NextT) (K : Env → Heap → Nat → Prop) : Prop :=
  match out with
  | some out => out.vc ∧ ordOK ops draw i out.rd (keys out.wr) past ∧ next (putA dst out.av env) (out.wr ++ H) nc (pushP i out.rd (keys out.wr) past) pc K
  | none => False

def callWp (cx : Cx) (ops : List Oper) (draw : Bool) (i : Nat) (dst : Option Nat) (nc : Nat) (xs : List Operand) (fv : AV) (env : Env) (H : Heap) (past : Past) (pc : List Nat) (next : NextT) (K : Env → Heap → Nat → Prop) : Prop :=
  match fv with
  | .clos f caps => callK cx.P f nc (xs.map (evA env) ++ caps) (fun Hc av wr k => SubH Hc H ∧ wrK Hc nc k wr ∧
      ordOK ops draw i (keys Hc ++ keys wr) (keys wr) past ∧ ordCalls ops draw i k pc ∧ next (putA dst av env) (wr ++ H) (nc + k) (pushP i (keys Hc ++ keys wr) (keys wr) past) (i :: pc) K) ()
  | _ => False

def stepWp (cx : Cx) (an : An) (ops : List Oper) (draw : Bool) (nx : Nat) (o : Oper) (i : Nat) (env : Env) (H : Heap) (nc : Nat) (past : Past) (pc : List Nat) (next : NextT) (K : Env → Heap → Nat → Prop) : Prop :=
  match o.op with
  | .call ⟨.value x, xs, _⟩ => callWp cx ops draw i o.dst nc xs.toList (evA env x) env H past pc next K
  | _ => primWp ops draw i o.dst (opSem cx an (nx + 8 * i) o env H) env H nc past pc next K

def gdWp (v : AV) (want : Bool) (X Y Z : Prop) (_ : Lock X) (_ : Lock Y) (_ : Lock Z) : Prop :=
  match v with
  | .val (.bool b) => brB b want X Y () ()
  | .tup [] => Z
  | _ => False

/-- A region's operations from number i on. -/
def regWp (cx : Cx) (an : An) (ops : List Oper) (draw : Bool) (nx : Nat) : List Oper → Nat → Env → Heap → Nat → Past → List Nat → (Env → Heap → Nat → Prop) → Prop
  | [], _, env, H, nc, _, _, K => K env H nc
  | o :: r, i, env, H, nc, past, pc, K =>
    match o.guard with
    | none => stepWp cx an ops draw nx o i env H nc past pc (regWp cx an ops draw nx r (i + 1)) K
    | some (j, want) =>
      match guardDst ops j with
      | some t => gdWp (env.get t) want (stepWp cx an ops draw nx o i ((t, .val (.bool want)) :: env) H nc past pc (regWp cx an ops draw nx r (i + 1)) K)
          (regWp cx an ops draw nx r (i + 1) (putA o.dst (.tup []) ((t, .val (.bool (!want))) :: env)) H nc past pc K)
          (regWp cx an ops draw nx r (i + 1) (putA o.dst (.tup []) env) H nc past pc K) () () ()
      | none => False

/-- One operation's record. -/
structure Rec where
  env : Env
  H : Heap
  av : AV
  rd : List Nat
  wr : Heap
  nw : List Nat
  FR : Nat → Prop
  call : Bool

/-- What is recorded of operation o, number i: its env is that ahead of it, with the outcome of its guard's test laid over it. -/
structure RecOK (cx : Cx) (ops : List Oper) (draw : Bool) (nx : Nat) (o : Oper) (i : Nat) (env : Env) (H : Heap) (nc : Nat) (past : Past) (pc : List Nat) (r : Rec) (nc' : Nat) : Prop where
  env : ∀ x, r.env.get x = env.get x
  heap : r.H = H
  sem : ∀ opsA : Array Oper, opsA.toList = ops → ops[i]? = some o → StepSem cx.P opsA i o r.env r.H r.av r.rd r.wr r.nw r.FR
  ord : ordOK ops draw i r.rd (keys r.wr) past
  wrOK : WrOK H r.wr r.nw
  cl : r.call = true → ordCalls ops draw i r.nw.length pc ∧ (∀ m, r.FR m ↔ nc ≤ m) ∧ (∀ m ∈ r.nw, nc ≤ m ∧ m < nc') ∧ nc ≤ nc'
  pr : r.call = false → nc' = nc ∧ (∀ m, r.FR m ↔ nx + 8 * i ≤ m ∧ m < nx + 8 * i + 8) ∧ ∀ m ∈ r.nw, nx + 8 * i ≤ m ∧ m < nx + 8 * i + 8

inductive Run (cx : Cx) (ops : List Oper) (draw : Bool) (nx : Nat) : List Oper → Nat → Env → Heap → Nat → Past → List Nat → List Rec → Env → Heap → Nat → Prop where
  | nil {i : Nat} {env : Env} {H : Heap} {nc : Nat} {past : Past} {pc : List Nat} : Run cx ops draw nx [] i env H nc past pc [] env H nc
  | cons {o : Oper} {l : List Oper} {i : Nat} {env env' : Env} {H : Heap} {nc nc' ncF : Nat} {past past' : Past} {pc : List Nat} {r : Rec} {rs : List Rec} {eF : Env} {HF : Heap} :
      RecOK cx ops draw nx o i env H nc past pc r nc' → (∀ x, env'.get x = (putA o.dst r.av r.env).get x) →
      ((r.wr = [] ∧ r.rd = [] ∧ past' = past) ∨ past' = (i, r.rd, keys r.wr) :: past) →
      Run cx ops draw nx l (i + 1) env' (r.wr ++ H) nc' past' (if r.call then i :: pc else pc) rs eF HF ncF → Run cx ops draw nx (o :: l) i env H nc past pc (r :: rs) eF HF ncF

theorem lit_get {env : Env} {t : Nat} {v : AV} (h : env.get t = v) (x : Nat) : Env.get ((t, v) :: env) x = env.get x := by
  show (if t = x then v else env.get x) = env.get x
  by_cases e : t = x
  · rw [if_pos e, ← e, h]
  · rw [if_neg e]

theorem opSem0_nw {cx : Cx} {mt : List Nat} {nm : Nat} {o : Oper} {env : Env} {H : Heap} {out : Out} (h : opSem0 cx mt nm o env H = some out) : (∀ m ∈ out.nw, m = nm) ∧ WrOK H out.wr out.nw := by
  have triv : ∀ (vc : Prop) (av : AV) (rd : List Nat), (∀ m ∈ (⟨vc, av, rd, [], []⟩ : Out).nw, m = nm) ∧ WrOK H (⟨vc, av, rd, [], []⟩ : Out).wr (⟨vc, av, rd, [], []⟩ : Out).nw :=
    fun vc av rd => ⟨fun m hm => by simp at hm, fun m hm => by simp at hm⟩
  have new : ∀ (vc : Prop) (av : AV) (rd : List Nat) (r : Option Res), (∀ m ∈ (⟨vc, av, rd, [(nm, r)], [nm]⟩ : Out).nw, m = nm) ∧ WrOK H (⟨vc, av, rd, [(nm, r)], [nm]⟩ : Out).wr (⟨vc, av, rd, [(nm, r)], [nm]⟩ : Out).nw :=
    fun vc av rd r => ⟨fun m hm => by simpa using hm, fun m hm => by simp [keys] at hm; exact .inr (by simp [hm])⟩
  have old : ∀ (vc : Prop) (av : AV) (rd : List Nat) (n : Nat) (r : Option Res) (s : Res), H.get n = some s → s.wr = true → (∀ m ∈ (⟨vc, av, rd, [(n, r)], []⟩ : Out).nw, m = nm) ∧ WrOK H (⟨vc, av, rd, [(n, r)], []⟩ : Out).wr (⟨vc, av, rd, [(n, r)], []⟩ : Out).nw :=
    fun vc av rd n r s h1 h2 => ⟨fun m hm => by simp at hm, fun m hm => by simp [keys] at hm; subst hm; exact .inl ⟨s, h1, h2⟩⟩
  unfold opSem0 at h
  repeat' split at h
  all_goals first
    | cases h; done
    | (injection h with h; subst h; exact triv _ _ _)
    | (injection h with h; subst h; exact new _ _ _ _)
    | (unfold unSem at h; repeat' split at h) <;> first | cases h; done | (injection h with h; subst h; exact triv _ _ _)
    | (unfold orSem nilSem binSem at h; repeat' split at h) <;> first | cases h; done | (injection h with h; subst h; exact triv _ _ _) | (rename_i hz; repeat' split at hz) <;> first | cases hz; done | (injection hz with hz; subst hz; injection h with h; subst h; exact triv _ _ _) | (cases h; done) | (injection h with h; subst h; exact triv _ _ _)
    | (unfold loadSem at h; repeat' split at h) <;> first | cases h; done | (injection h with h; subst h; exact triv _ _ _)
    | (unfold storeSem at h; repeat' split at h) <;> first | cases h; done | (injection h with h; subst h; exact old _ _ _ _ _ _ (by assumption) rfl)
    | (unfold fieldAddrSem at h; repeat' split at h) <;> first | cases h; done | (injection h with h; subst h; exact triv _ _ _)
    | (unfold indexAddrSem at h; repeat' split at h) <;> first | cases h; done | (injection h with h; subst h; exact triv _ _ _)
    | (unfold fieldSem at h; repeat' split at h) <;> first | cases h; done | (injection h with h; subst h; exact triv _ _ _)
    | (unfold indexSem at h; repeat' split at h) <;> first | cases h; done | (injection h with h; subst h; exact triv _ _ _)
    | (unfold lenSem at h; repeat' split at h) <;> first | cases h; done | (injection h with h; subst h; exact triv _ _ _)
    | (unfold sliceSem at h; repeat' split at h) <;> first | cases h; done | (injection h with h; subst h; exact triv _ _ _)
    | (unfold convSem at h; repeat' split at h) <;> first | cases h; done | (injection h with h; subst h; exact triv _ _ _)
    | (unfold makeSliceSem at h; repeat' split at h) <;> first | cases h; done | (injection h with h; subst h; exact new _ _ _ _) | (injection h with h; subst h; exact triv _ _ _)
    | (unfold copySem at h; repeat' split at h) <;> first | cases h; done | (injection h with h; subst h; exact old _ _ _ _ _ _ (by assumption) rfl)
    | (unfold buildSem at h; repeat' split at h) <;> first | cases h; done | (injection h with h; subst h; exact triv _ _ _)
    | (unfold buildSliceSem at h; repeat' split at h) <;> first | cases h; done | (injection h with h; subst h; exact triv _ _ _)
    | (unfold appendSem at h; repeat' split at h) <;> first | cases h; done | (injection h with h; subst h; exact new _ _ _ _) | (injection h with h; subst h; exact old _ _ _ _ _ _ (by assumption) rfl)

theorem opSem_nw {cx : Cx} {an : An} {nm : Nat} {o : Oper} {env : Env} {H : Heap} {out : Out} (h : opSem cx an nm o env H = some out) : (∀ m ∈ out.nw, nm ≤ m ∧ m < nm + 8) ∧ WrOK H out.wr out.nw := by
  unfold opSem at h
  split at h
  · rename_i x hx
    obtain ⟨a1, a2⟩ := opSem0_nw hx
    split at h
    case isFalse =>
      injection h with h; subst h
      obtain ⟨e1, e2⟩ := Out.fg_nw (isMut an.fg o.dst) x
      rw [e1, e2]
      exact ⟨fun m hm => by have := a1 m hm; omega, a2⟩
    obtain ⟨b1, b2, b3⟩ := Out.toks_nw h
    refine ⟨fun m hm => ?_, fun m hm => ?_⟩
    · rcases b1 m hm with h | h
      · have := a1 m h; omega
      · exact h
    · rcases b3 m hm with h | h
      · exact .inr h
      · rcases a2 m h with h | h
        · exact .inl h
        · exact .inr (b2 m h)
  · cases h

end Go.AL

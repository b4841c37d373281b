/-
  The layer AL, part 11: a region, computed.
-/
import Derived.Test.YtaghcjbpjnpkbaaGreatAL10
set_option linter.unusedSimpArgs false
set_option linter.unusedVariables false
namespace Go.AL
open Go

def putA : Option Nat → AV → Env → Env
  | some t, v, e => (t, v) :: e
  | none, _, e => e

abbrev Past := List (Nat × List Nat × List Nat)

def noClash (r1 w1 r2 w2 : List Nat) : Prop := (∀ m ∈ w1, (∀ x ∈ r2, m ≠ x) ∧ ∀ x ∈ w2, m ≠ x) ∧ ∀ m ∈ r1, ∀ x ∈ w2, m ≠ x

def pushP (i : Nat) (rd ws : List Nat) (past : Past) : Past :=
  match rd, ws with
  | [], [] => past
  | rd, ws => (i, rd, ws) :: past
theorem pushP_or (i : Nat) (rd : List Nat) (wr : Heap) (past : Past) : (wr = [] ∧ rd = [] ∧ pushP i rd (keys wr) past = past) ∨ pushP i rd (keys wr) past = (i, rd, keys wr) :: past := by
  cases rd with
  | cons => exact .inr rfl
  | nil => cases wr with
    | nil => exact .inl ⟨rfl, rfl, rfl⟩
    | cons => exact .inr rfl

def ordOK (ops : List Oper) (draw : Bool) (j : Nat) (r w : List Nat) : Past → Prop
  | [] => True
  | (i, r1, w1) :: t => (draw = false ∨ noClash r1 w1 r w ∨ ahead ops j i = true) ∧ ordOK ops draw j r w t

def ordCalls (ops : List Oper) (draw : Bool) (j k : Nat) : List Nat → Prop
  | [] => True
  | i :: t => (draw = false ∨ k = 0 ∨ ahead ops j i = true) ∧ ordCalls ops draw j k t

def wrK (Hc : Heap) (nx k : Nat) : Heap → Prop
  | [] => True
  | (n, _) :: t => (match Hc.get n with
      | some r => r.wr = true
      | none => nx ≤ n ∧ n < nx + k) ∧ wrK Hc nx k t

@[reducible] def Lock {α : Type} (_ : α) : Type := Unit

def brB (b want : Bool) (X Y : Prop) (_ : Lock X) (_ : Lock Y) : Prop := (b = want → X) ∧ (b = (!want) → Y)
section
variable {X Y : Prop} {lx : Lock X} {ly : Lock Y}
theorem brB_tt : brB true true X Y lx ly = X := by simp [brB]
theorem brB_ff : brB false false X Y lx ly = X := by simp [brB]
theorem brB_tf : brB true false X Y lx ly = Y := by simp [brB]
theorem brB_ft : brB false true X Y lx ly = Y := by simp [brB]
theorem brB_not {b w : Bool} : brB (!b) w X Y lx ly = brB b (!w) X Y lx ly := by cases b <;> cases w <;> simp [brB]
theorem brB_dt {p : Prop} [Decidable p] : brB (decide p) true X Y lx ly = ((p → X) ∧ (¬ p → Y)) := by simp [brB]
theorem brB_df {p : Prop} [Decidable p] : brB (decide p) false X Y lx ly = ((¬ p → X) ∧ (p → Y)) := by simp [brB]
theorem brB_bt {b : Bool} : brB b true X Y lx ly = ((b = true → X) ∧ (b = false → Y)) := by simp [brB]
theorem brB_bf {b : Bool} : brB b false X Y lx ly = ((b = false → X) ∧ (b = true → Y)) := by simp [brB]
end

def callK (P : Program) (f nc : Nat) (args : List AV) (K : Heap → AV → Heap → Nat → Prop) (_ : Lock K) : Prop := ∃ Hc av wr k, FnSpec P f nc args Hc av wr k ∧ K Hc av wr k
theorem callK_by {P : Program} {f nc k : Nat} {args : List AV} {Hc wr : Heap} {av : AV} {K : Heap → AV → Heap → Nat → Prop} {lk : Lock K} (h : FnSpec P f nc args Hc av wr k) (hk : K Hc av wr k) : callK P f nc args K lk := ⟨Hc, av, wr, k, h, hk⟩

def guardDst : List Oper → Nat → Option Nat
  | [], _ => none
  | o :: _, 0 => o.dst
  | _ :: l, n + 1 => guardDst l n
theorem guardDst_eq : ∀ (l : List Oper) (j : Nat), guardDst l j = (l[j]?).bind (·.dst)
  | [], j => by simp [guardDst]
  | o :: l, 0 => by simp [guardDst]
  | o :: l, n + 1 => by simp [guardDst, guardDst_eq l n]

abbrev NextT := Env → Heap → Nat → Past → List Nat → (Env → Heap → Nat → Prop) → Prop

def primWp (ops : List Oper) (draw : Bool) (i : Nat) (dst : Option Nat) (out : Option Out) (env : Env) (H : Heap) (nc : Nat) (past : Past) (pc : List Nat) (next : NextT) (K : Env → Heap → Nat → Prop) : Prop :=
  match out with
  | some out => out.vc ∧ ordOK ops draw i out.rd (keys out.wr) past ∧ next (putA dst out.av env) (out.wr ++ H) nc (pushP i out.rd (keys out.wr) past) pc K
  | none => False

def callWp (cx : Cx) (ops : List Oper) (draw : Bool) (i : Nat) (dst : Option Nat) (nc : Nat) (xs : List Operand) (fv : AV) (env : Env) (H : Heap) (past : Past) (pc : List Nat) (next : NextT) (K : Env → Heap → Nat → Prop) : Prop :=
  match fv with
  | .clos f caps => callK cx.P f nc (xs.map (evA env) ++ caps) (fun Hc av wr k => SubH Hc H ∧ wrK Hc nc k wr ∧
      ordOK ops draw i (keys Hc ++ keys wr) (keys wr) past ∧ ordCalls ops draw i k pc ∧ next (putA dst av env) (wr ++ H) (nc + k) (pushP i (keys Hc ++ keys wr) (keys wr) past) (i :: pc) K) ()
  | _ => False

def stepWp (cx : Cx) (an : An) (ops : List Oper) (draw : Bool) (nx : Nat) (o : Oper) (i : Nat) (env : Env) (H : Heap) (nc : Nat) (past : Past) (pc : List Nat) (next : NextT) (K : Env → Heap → Nat → Prop) : Prop :=
  match o.op with
  | .call ⟨.value x, xs, _⟩ => callWp cx ops draw i o.dst nc xs.toList (evA env x) env H past pc next K
  | _ => primWp ops draw i o.dst (opSem cx an (nx + 8 * i) o env H) env H nc past pc next K

def gdWp (v : AV) (want : Bool) (X Y Z : Prop) (_ : Lock X) (_ : Lock Y) (_ : Lock Z) : Prop :=
  match v with
  | .val (.bool b) => brB b want X Y () ()
  | .tup [] => Z
  | _ => False

def regWp (cx : Cx) (an : An) (ops : List Oper) (draw : Bool) (nx : Nat) : List Oper → Nat → Env → Heap → Nat → Past → List Nat → (Env → Heap → Nat → Prop) → Prop
  | [], _, env, H, nc, _, _, K => K env H nc
  | o :: r, i, env, H, nc, past, pc, K =>
    match o.guard with
    | none => stepWp cx an ops draw nx o i env H nc past pc (regWp cx an ops draw nx r (i + 1)) K
    | some (j, want) =>
      match guardDst ops j with
      | some t => gdWp (env.get t) want (stepWp cx an ops draw nx o i ((t, .val (.bool want)) :: env) H nc past pc (regWp cx an ops draw nx r (i + 1)) K)
          (regWp cx an ops draw nx r (i + 1) (putA o.dst (.tup []) ((t, .val (.bool (!want))) :: env)) H nc past pc K)
          (regWp cx an ops draw nx r (i + 1) (putA o.dst (.tup []) env) H nc past pc K) () () ()
      | none => False

structure Rec where
  env : Env
  H : Heap
  av : AV
  rd : List Nat
  wr : Heap
  nw : List Nat
  FR : Nat → Prop
  call : Bool

structure RecOK (cx : Cx) (ops : List Oper) (draw : Bool) (nx : Nat) (o : Oper) (i : Nat) (env : Env) (H : Heap) (nc : Nat) (past : Past) (pc : List Nat) (r : Rec) (nc' : Nat) : Prop where
  env : ∀ x, r.env.get x = env.get x
  heap : r.H = H
  sem : ∀ opsA : Array Oper, opsA.toList = ops → ops[i]? = some o → StepSem cx.P opsA i o r.env r.H r.av r.rd r.wr r.nw r.FR
  ord : ordOK ops draw i r.rd (keys r.wr) past
  wrOK : WrOK H r.wr r.nw
  cl : r.call = true → ordCalls ops draw i r.nw.length pc ∧ (∀ m, r.FR m ↔ nc ≤ m) ∧ (∀ m ∈ r.nw, nc ≤ m ∧ m < nc') ∧ nc ≤ nc'
  pr : r.call = false → nc' = nc ∧ (∀ m, r.FR m ↔ nx + 8 * i ≤ m ∧ m < nx + 8 * i + 8) ∧ ∀ m ∈ r.nw, nx + 8 * i ≤ m ∧ m < nx + 8 * i + 8

inductive Run (cx : Cx) (ops : List Oper) (draw : Bool) (nx : Nat) : List Oper → Nat → Env → Heap → Nat → Past → List Nat → List Rec → Env → Heap → Nat → Prop where
  | nil {i : Nat} {env : Env} {H : Heap} {nc : Nat} {past : Past} {pc : List Nat} : Run cx ops draw nx [] i env H nc past pc [] env H nc
  | cons {o : Oper} {l : List Oper} {i : Nat} {env env' : Env} {H : Heap} {nc nc' ncF : Nat} {past past' : Past} {pc : List Nat} {r : Rec} {rs : List Rec} {eF : Env} {HF : Heap} :
      RecOK cx ops draw nx o i env H nc past pc r nc' → (∀ x, env'.get x = (putA o.dst r.av r.env).get x) →
      ((r.wr = [] ∧ r.rd = [] ∧ past' = past) ∨ past' = (i, r.rd, keys r.wr) :: past) →
      Run cx ops draw nx l (i + 1) env' (r.wr ++ H) nc' past' (if r.call then i :: pc else pc) rs eF HF ncF → Run cx ops draw nx (o :: l) i env H nc past pc (r :: rs) eF HF ncF

theorem lit_get {env : Env} {t : Nat} {v : AV} (h : env.get t = v) (x : Nat) : Env.get ((t, v) :: env) x = env.get x := by
  show (if t = x then v else env.get x) = env.get x
  by_cases e : t = x
  · rw [if_pos e, ← e, h]
  · rw [if_neg e]

theorem opSem0_nw {cx : Cx} {mt : List Nat} {nm : Nat} {o : Oper} {env : Env} {H : Heap} {out : Out} (h : opSem0 cx mt nm o env H = some out) : (∀ m ∈ out.nw, m = nm) ∧ WrOK H out.wr out.nw := by
  have triv : ∀ (vc : Prop) (av : AV) (rd : List Nat), (∀ m ∈ (⟨vc, av, rd, [], []⟩ : Out).nw, m = nm) ∧ WrOK H (⟨vc, av, rd, [], []⟩ : Out).wr (⟨vc, av, rd, [], []⟩ : Out).nw :=
    fun vc av rd => ⟨fun m hm => by simp at hm, fun m hm => by simp at hm⟩
  have new : ∀ (vc : Prop) (av : AV) (rd : List Nat) (r : Option Res), (∀ m ∈ (⟨vc, av, rd, [(nm, r)], [nm]⟩ : Out).nw, m = nm) ∧ WrOK H (⟨vc, av, rd, [(nm, r)], [nm]⟩ : Out).wr (⟨vc, av, rd, [(nm, r)], [nm]⟩ : Out).nw :=
    fun vc av rd r => ⟨fun m hm => by simpa using hm, fun m hm => by simp [keys] at hm; exact .inr (by simp [hm])⟩
  have old : ∀ (vc : Prop) (av : AV) (rd : List Nat) (n : Nat) (r : Option Res) (s : Res), H.get n = some s → s.wr = true → (∀ m ∈ (⟨vc, av, rd, [(n, r)], []⟩ : Out).nw, m = nm) ∧ WrOK H (⟨vc, av, rd, [(n, r)], []⟩ : Out).wr (⟨vc, av, rd, [(n, r)], []⟩ : Out).nw :=
    fun vc av rd n r s h1 h2 => ⟨fun m hm => by simp at hm, fun m hm => by simp [keys] at hm; subst hm; exact .inl ⟨s, h1, h2⟩⟩
  unfold opSem0 at h
  repeat' split at h
  all_goals first
    | cases h; done
    | (injection h with h; subst h; exact triv _ _ _)
    | (injection h with h; subst h; exact new _ _ _ _)
    | (unfold lookSem at h; repeat' split at h) <;> first | cases h; done | (injection h with h; subst h; exact triv _ _ _)
    | (unfold delSem at h; repeat' split at h) <;> first | cases h; done | (injection h with h; subst h; exact old _ _ _ _ _ _ (by assumption) rfl)
    | (unfold rangeSem at h; repeat' split at h) <;> first | cases h; done | (injection h with h; subst h; exact new _ _ _ _)
    | (unfold entrySem at h; repeat' split at h) <;> first | cases h; done | (injection h with h; subst h; exact triv _ _ _)
    | (unfold updSem at h; repeat' split at h) <;> first | cases h; done | (injection h with h; subst h; exact old _ _ _ _ _ _ (by assumption) rfl)
    | (unfold unSem at h; repeat' split at h) <;> first | cases h; done | (injection h with h; subst h; exact triv _ _ _)
    | (unfold orSem nilSem binSem at h; repeat' split at h) <;> first | cases h; done | (injection h with h; subst h; exact triv _ _ _) | (rename_i hz; repeat' split at hz) <;> first | cases hz; done | (injection hz with hz; subst hz; injection h with h; subst h; exact triv _ _ _) | (cases h; done) | (injection h with h; subst h; exact triv _ _ _)
    | (unfold loadSem at h; repeat' split at h) <;> first | cases h; done | (injection h with h; subst h; exact triv _ _ _)
    | (unfold storeSem at h; repeat' split at h) <;> first | cases h; done | (injection h with h; subst h; exact old _ _ _ _ _ _ (by assumption) rfl)
    | (unfold fieldAddrSem at h; repeat' split at h) <;> first | cases h; done | (injection h with h; subst h; exact triv _ _ _)
    | (unfold indexAddrSem at h; repeat' split at h) <;> first | cases h; done | (injection h with h; subst h; exact triv _ _ _)
    | (unfold fieldSem at h; repeat' split at h) <;> first | cases h; done | (injection h with h; subst h; exact triv _ _ _)
    | (unfold indexSem at h; repeat' split at h) <;> first | cases h; done | (injection h with h; subst h; exact triv _ _ _)
    | (unfold lenSem at h; repeat' split at h) <;> first | cases h; done | (injection h with h; subst h; exact triv _ _ _)
    | (unfold sliceSem at h; repeat' split at h) <;> first | cases h; done | (injection h with h; subst h; exact triv _ _ _)
    | (unfold convSem at h; repeat' split at h) <;> first | cases h; done | (injection h with h; subst h; exact triv _ _ _)
    | (unfold makeSliceSem at h; repeat' split at h) <;> first | cases h; done | (injection h with h; subst h; exact new _ _ _ _) | (injection h with h; subst h; exact triv _ _ _)
    | (unfold copySel at h; split at h; (cases hc : copyShort cx.P H _ (evA env _) (evA env _) with
        | some o1 => (rw [hc] at h; injection h with h; subst h; (unfold copyShort at hc; repeat' split at hc) <;> first | cases hc; done | (injection hc with hc; subst hc; exact old _ _ _ _ _ _ (by assumption) rfl))
        | none => (rw [hc] at h; have h : copyPart _ _ _ _ _ = some _ := h; (unfold copyPart at h; repeat' split at h) <;> first | cases h; done | (injection h with h; subst h; exact old _ _ _ _ _ _ (by assumption) rfl))); ((unfold copySem at h; repeat' split at h) <;> first | cases h; done | (injection h with h; subst h; exact old _ _ _ _ _ _ (by assumption) rfl)))
    | (unfold copySem at h; repeat' split at h) <;> first | cases h; done | (injection h with h; subst h; exact old _ _ _ _ _ _ (by assumption) rfl)
    | (unfold buildSem at h; repeat' split at h) <;> first | cases h; done | (injection h with h; subst h; exact triv _ _ _)
    | (unfold buildSliceSem at h; repeat' split at h) <;> first | cases h; done | (injection h with h; subst h; exact triv _ _ _)
    | (unfold appendSem at h; repeat' split at h) <;> first | cases h; done | (injection h with h; subst h; exact new _ _ _ _) | (injection h with h; subst h; exact old _ _ _ _ _ _ (by assumption) rfl)

theorem opSem_nw {cx : Cx} {an : An} {nm : Nat} {o : Oper} {env : Env} {H : Heap} {out : Out} (h : opSem cx an nm o env H = some out) : (∀ m ∈ out.nw, nm ≤ m ∧ m < nm + 8) ∧ WrOK H out.wr out.nw := by
  unfold opSem at h
  split at h
  · rename_i x hx
    obtain ⟨a1, a2⟩ := opSem0_nw hx
    split at h
    case isFalse =>
      injection h with h; subst h
      obtain ⟨e1, e2⟩ := Out.fg_nw (isMut an.fg o.dst) x
      rw [e1, e2]
      exact ⟨fun m hm => by have := a1 m hm; omega, a2⟩
    obtain ⟨b1, b2, b3⟩ := Out.toks_nw h
    refine ⟨fun m hm => ?_, fun m hm => ?_⟩
    · rcases b1 m hm with h | h
      · have := a1 m h; omega
      · exact h
    · rcases b3 m hm with h | h
      · exact .inr h
      · rcases a2 m h with h | h
        · exact .inl h
        · exact .inr (b2 m h)
  · cases h

end Go.AL

set_option linter.unusedSimpArgs false
set_option linter.unusedVariables false
namespace Go.AL
open Go

theorem wrK_ok {Hc H : Heap} {nx k : Nat} (hs : SubH Hc H) : ∀ {wr : Heap}, wrK Hc nx k wr → WrOK H wr ((List.range k).map (nx + ·))
  | [], _ => fun n hn => by simp at hn
  | (m, r) :: t, h => by
    obtain ⟨h1, h2⟩ := h
    intro n hn
    rcases List.mem_cons.1 hn with hn | hn
    · simp only at hn
      rw [hn]
      cases hr : Hc.get m with
      | some s =>
        rw [hr] at h1
        rcases hs.get hr with h3 | ⟨a, rfl, _⟩ | ⟨a, rfl, _⟩
        · exact .inl ⟨s, h3, h1⟩
        · cases h1
        · cases h1
      | none =>
        rw [hr] at h1
        obtain ⟨h3, h4⟩ := h1
        exact .inr (List.mem_map.2 ⟨m - nx, List.mem_range.2 (by omega), by show nx + (m - nx) = m; omega⟩)
    · exact wrK_ok hs h2 n hn

theorem run_of_regWp {cx : Cx} {an : An} {ops : List Oper} {draw : Bool} {nx : Nat} {K : Env → Heap → Nat → Prop} : ∀ (l : List Oper) (i : Nat) (env : Env) (H : Heap) (nc : Nat) (past : Past) (pc : List Nat),
    regWp cx an ops draw nx l i env H nc past pc K → ∃ rs eF HF ncF, Run cx ops draw nx l i env H nc past pc rs eF HF ncF ∧ K eF HF ncF
  | [], i, env, H, nc, past, pc, h => ⟨[], env, H, nc, .nil, h⟩
  | o :: l, i, env, H, nc, past, pc, h => by
    -- what comes of an operation that is carried out
    have hgo : ∀ env1 : Env, (∀ x, env1.get x = env.get x) → Wants ops.toArray env1 o →
        stepWp cx an ops draw nx o i env1 H nc past pc (regWp cx an ops draw nx l (i + 1)) K → ∃ rs eF HF ncF, Run cx ops draw nx (o :: l) i env H nc past pc rs eF HF ncF ∧ K eF HF ncF := by
      intro env1 he hw hg
      have hw' : ∀ opsA : Array Oper, opsA.toList = ops → Wants opsA env1 o := fun opsA hA => by
        have : opsA = ops.toArray := by rw [← hA]
        rw [this]; exact hw
      have prim : primWp ops draw i o.dst (opSem cx an (nx + 8 * i) o env1 H) env1 H nc past pc (regWp cx an ops draw nx l (i + 1)) K → ∃ rs eF HF ncF, Run cx ops draw nx (o :: l) i env H nc past pc rs eF HF ncF ∧ K eF HF ncF := by
        intro hp
        unfold primWp at hp
        cases hout : opSem cx an (nx + 8 * i) o env1 H with
        | none => rw [hout] at hp; exact hp.elim
        | some out =>
          rw [hout] at hp
          obtain ⟨p1, p2, p3⟩ := hp
          obtain ⟨rs, eF, HF, ncF, q1, q2⟩ := run_of_regWp l (i + 1) _ _ _ _ _ p3
          obtain ⟨n1, n2⟩ := opSem_nw hout
          let r : Rec := ⟨env1, H, out.av, out.rd, out.wr, out.nw, fun m => nx + 8 * i ≤ m ∧ m < nx + 8 * i + 8, false⟩
          refine ⟨r :: rs, eF, HF, ncF, .cons (r := r) (nc' := nc) (env' := putA o.dst out.av env1) ⟨he, rfl, fun opsA hA hi => ?_, p2, n2, (fun h => (by cases h)), fun _ => ⟨rfl, fun m => Iff.rfl, n1⟩⟩ (fun x => rfl) (pushP_or _ _ _ _) q1, q2⟩
          exact StepSem.prim (by rw [← Array.getElem?_toList, hA]; exact hi) (hw' opsA hA) (opSem_ok hout) p1 n1
      unfold stepWp at hg
      split at hg
      · rename_i x xs ts ho
        unfold callWp at hg
        split at hg
        · rename_i f caps hx
          obtain ⟨Hc, av, wr, k, c1, c2, c3, c4, c5, c6⟩ := hg
          obtain ⟨rs, eF, HF, ncF, q1, q2⟩ := run_of_regWp l (i + 1) _ _ _ _ _ c6
          let r : Rec := ⟨env1, H, av, keys Hc ++ keys wr, wr, (List.range k).map (nc + ·), fun m => nc ≤ m, true⟩
          refine ⟨r :: rs, eF, HF, ncF, .cons (r := r) (nc' := nc + k) (env' := putA o.dst av env1) ⟨he, rfl, fun opsA hA hi => ?_, c4, wrK_ok c2 c3, fun _ => ⟨by simpa [r] using c5, fun m => Iff.rfl, fun m hm => ?_, by omega⟩, (fun h => (by cases h))⟩ (fun x => rfl) (pushP_or _ _ _ _) q1, q2⟩
          · exact StepSem.call (by rw [← Array.getElem?_toList, hA]; exact hi) (hw' opsA hA) ho hx c1 c2 (fun n hn => List.mem_append_left _ hn) (fun n hn => .inl (List.mem_append_right _ hn))
          · obtain ⟨y, hy, rfl⟩ := List.mem_map.1 hm
            have := List.mem_range.1 hy
            omega
        · exact hg.elim
      · exact prim hg
    have hskip : ∀ (env1 : Env), (∀ x, env1.get x = env.get x) → AL.Not ops.toArray env1 o → regWp cx an ops draw nx l (i + 1) (putA o.dst (.tup []) env1) H nc past pc K →
        ∃ rs eF HF ncF, Run cx ops draw nx (o :: l) i env H nc past pc rs eF HF ncF ∧ K eF HF ncF := by
      intro env1 he hw hg
      obtain ⟨rs, eF, HF, ncF, q1, q2⟩ := run_of_regWp l (i + 1) _ _ _ _ _ hg
      let r : Rec := ⟨env1, H, .tup [], [], [], [], fun m => nx + 8 * i ≤ m ∧ m < nx + 8 * i + 8, false⟩
      have hord : ∀ p : Past, ordOK ops draw i [] [] p := by
        intro p
        induction p with
        | nil => trivial
        | cons x t ih => exact ⟨.inr (.inl ⟨fun m _ => ⟨fun x hx => by simp at hx, fun x hx => by simp at hx⟩, fun m _ x hx => by simp at hx⟩), ih⟩
      refine ⟨r :: rs, eF, HF, ncF, .cons (r := r) (nc' := nc) (env' := putA o.dst (.tup []) env1) ⟨he, rfl, fun opsA hA hi => ?_, hord past, fun n hn => by simp [r] at hn, (fun h => (by cases h)), fun _ => ⟨rfl, fun m => Iff.rfl, fun m hm => by simp [r] at hm⟩⟩ (fun x => rfl) (.inl ⟨rfl, rfl, rfl⟩) q1, q2⟩
      have : opsA = ops.toArray := by rw [← hA]
      exact StepSem.skip (by rw [← Array.getElem?_toList, hA]; exact hi) (by rw [this]; exact hw)
    unfold regWp at h
    skip
    split at h
    · rename_i hg
      exact hgo env (fun _ => rfl) (fun j want hj => by rw [hg] at hj; cases hj) h
    · rename_i j want hg
      split at h
      · rename_i t ht
        have ht' : (ops.toArray[j]?).bind (·.dst) = some t := by rw [guardDst_eq] at ht; simpa using ht
        unfold gdWp at h
        split at h
        · rename_i b hb
          obtain ⟨h1, h2⟩ := h
          by_cases hbw : b = want
          · subst hbw
            refine hgo ((t, .val (.bool b)) :: env) (fun x => lit_get hb x) (fun j' want' hj' => ?_) (h1 rfl)
            rw [hg] at hj'
            injection hj' with hj'
            injection hj' with e1 e2
            subst e1 e2
            exact ⟨t, ht', by rw [lit_get hb, hb]⟩
          · have hbn : b = !want := by cases b <;> cases want <;> simp_all
            refine hskip ((t, .val (.bool (!want))) :: env) (fun x => lit_get (by rw [hb, hbn]) x) ⟨j, want, t, hg, ht', .inl ?_⟩ (h2 hbn)
            rw [lit_get (by rw [hb, hbn]), hb, hbn]
        · rename_i hb
          exact hskip env (fun _ => rfl) ⟨j, want, t, hg, ht', .inr hb⟩ h
        · exact h.elim
      · exact h.elim

theorem Run.length {cx : Cx} {ops : List Oper} {draw : Bool} {nx : Nat} {l : List Oper} {i : Nat} {env : Env} {H : Heap} {nc : Nat} {past : Past} {pc : List Nat} {rs : List Rec} {eF : Env} {HF : Heap} {ncF : Nat}
    (h : Run cx ops draw nx l i env H nc past pc rs eF HF ncF) : rs.length = l.length := by
  induction h with
  | nil => rfl
  | cons _ _ _ _ ih => simp [ih]

def envAt (rs : List Rec) (eF : Env) (k : Nat) : Env := match rs[k]? with | some r => r.env | none => eF
def heapAt (rs : List Rec) (HF : Heap) (k : Nat) : Heap := match rs[k]? with | some r => r.H | none => HF

theorem Run.first {cx : Cx} {ops : List Oper} {draw : Bool} {nx : Nat} {l : List Oper} {i : Nat} {env : Env} {H : Heap} {nc : Nat} {past : Past} {pc : List Nat} {rs : List Rec} {eF : Env} {HF : Heap} {ncF : Nat}
    (h : Run cx ops draw nx l i env H nc past pc rs eF HF ncF) : (∀ x, (envAt rs eF 0).get x = env.get x) ∧ heapAt rs HF 0 = H := by
  cases h with
  | nil => exact ⟨fun _ => rfl, rfl⟩
  | cons h1 _ _ _ => exact ⟨h1.env, h1.heap⟩

theorem Run.get {cx : Cx} {ops : List Oper} {draw : Bool} {nx : Nat} {l : List Oper} {i : Nat} {env : Env} {H : Heap} {nc : Nat} {past : Past} {pc : List Nat} {rs : List Rec} {eF : Env} {HF : Heap} {ncF : Nat}
    (h : Run cx ops draw nx l i env H nc past pc rs eF HF ncF) : ∀ (k : Nat) (r : Rec), rs[k]? = some r → ∃ o envk Hk nck pk pck nck', l[k]? = some o ∧ RecOK cx ops draw nx o (i + k) envk Hk nck pk pck r nck' ∧
      (∀ x, (envAt rs eF (k + 1)).get x = (putA o.dst r.av r.env).get x) ∧ heapAt rs HF (k + 1) = r.wr ++ r.H ∧
      (∀ p ∈ past, p ∈ pk) ∧ (∀ q ∈ pc, q ∈ pck) ∧ nc ≤ nck ∧
      ∀ j rj, j < k → rs[j]? = some rj → ((rj.wr = [] ∧ rj.rd = []) ∨ (i + j, rj.rd, keys rj.wr) ∈ pk) ∧ (rj.call = true → i + j ∈ pck ∧ ∀ m ∈ rj.nw, m < nck) := by
  induction h with
  | nil => intro k r hr; simp at hr
  | @cons o l i env env' H nc nc' ncF past past' pc r0 rs eF HF h1 h2 h3 h4 ih =>
    intro k r hr
    have hnc : nc ≤ nc' := by
      cases hc : r0.call with
      | true => exact (h1.cl hc).2.2.2
      | false => rw [(h1.pr hc).1]; exact Nat.le_refl _
    cases k with
    | zero =>
      simp at hr; subst hr
      obtain ⟨f1, f2⟩ := h4.first
      refine ⟨o, env, H, nc, past, pc, nc', rfl, h1, fun x => ?_, ?_, fun p hp => hp, fun q hq => hq, Nat.le_refl _, fun j rj hj => by omega⟩
      · have : envAt (r0 :: rs) eF (0 + 1) = envAt rs eF 0 := rfl
        rw [this, f1 x, h2 x]
      · have : heapAt (r0 :: rs) HF (0 + 1) = heapAt rs HF 0 := rfl
        rw [this, f2, h1.heap]
    | succ k =>
      have hr' : rs[k]? = some r := by simpa using hr
      obtain ⟨o', envk, Hk, nck, pk, pck, nck', a1, a2, a3, a4, a5, a6, a7, a8⟩ := ih k r hr'
      have e : i + (k + 1) = i + 1 + k := by omega
      refine ⟨o', envk, Hk, nck, pk, pck, nck', by simpa using a1, by rw [e]; exact a2, a3, a4, fun p hp => a5 p ?_, fun q hq => a6 q ?_, by omega, fun j rj hj hrj => ?_⟩
      · rcases h3 with ⟨_, _, h3⟩ | h3
        · rw [h3]; exact hp
        · rw [h3]; exact List.mem_cons_of_mem _ hp
      · split
        · exact List.mem_cons_of_mem _ hq
        · exact hq
      · cases j with
        | zero =>
          simp at hrj; subst hrj
          refine ⟨?_, fun hc => ⟨a6 _ (by rw [if_pos hc]; exact List.mem_cons_self), fun m hm => Nat.lt_of_lt_of_le ((h1.cl hc).2.2.1 m hm).2 a7⟩⟩
          rcases h3 with ⟨b1, b2, _⟩ | h3
          · exact .inl ⟨b1, b2⟩
          · exact .inr (a5 _ (by rw [h3]; exact List.mem_cons_self))
        | succ j =>
          have := a8 j rj (by omega) (by simpa using hrj)
          rw [show i + (j + 1) = i + 1 + j by omega]
          exact this

theorem ordOK_mem {ops : List Oper} {draw : Bool} {j : Nat} {r w : List Nat} : ∀ {p : Past} {i : Nat} {r1 w1 : List Nat}, ordOK ops draw j r w p → (i, r1, w1) ∈ p → draw = false ∨ noClash r1 w1 r w ∨ ahead ops j i = true
  | (i', r', w') :: t, i, r1, w1, h, hm => by
    rcases List.mem_cons.1 hm with hm | hm
    · injection hm with e1 e2; injection e2 with e2 e3; subst e1 e2 e3; exact h.1
    · exact ordOK_mem h.2 hm

theorem ordCalls_mem {ops : List Oper} {draw : Bool} {j k : Nat} : ∀ {p : List Nat} {i : Nat}, ordCalls ops draw j k p → i ∈ p → draw = false ∨ k = 0 ∨ ahead ops j i = true
  | i' :: t, i, h, hm => by
    rcases List.mem_cons.1 hm with rfl | hm
    · exact h.1
    · exact ordCalls_mem h.2 hm

def dstsOK (N : Nat) (ops : List Oper) : Bool := ops.all fun o => match o.dst with | some d => decide (d < N) | none => true

theorem wp_of_regWp {cx : Cx} {an : An} {ops : List Oper} {draw : Bool} {N nx : Nat} {env : Env} {H : Heap} {K : Env → Heap → Nat → Prop} (h : regWp cx an ops draw nx ops 0 env H (nx + 8 * ops.length) [] [] K)
    (hN : dstsOK N ops = true) (hd : draw = true → cx.P.follows .mixedOrders = true ∧ tmpsOK ops = true ∧ backOK ops = true)
    {g0 : G} {w0 : World} {h0 : Nat → Option Res} {nx0 : Nat} {ds : List Deferred} (hx : nx0 ≤ nx) {Q : Exit → Act → World → Prop} {rid : Nat} {a : Act} {g : G} {w : World}
    (hsz : a.tmps.size = N) (hdf : a.defers = ds) (he : ∀ x, EnvAt g w env a.tmps x) (hi : Inv g w) (hH : HeapOK g w H) (hA : Acc g0 w0 h0 nx0 g w H.get) (hu : ∀ m, nx ≤ m → ¬ g.use m)
    (hK : ∀ env' H' nx' a' g' w', K env' H' nx' → a'.tmps.size = N → a'.defers = ds → (∀ x, EnvAt g' w' env' a'.tmps x) → Inv g' w' → HeapOK g' w' H' → Acc g0 w0 h0 nx0 g' w' H'.get → nx ≤ nx' → (∀ m, nx' ≤ m → ¬ g'.use m) → Q .normal a' w') :
    (Code.region rid ops.toArray draw).wp cx.P Q a w := by
  obtain ⟨rs, eF, HF, ncF, hrun, hKF⟩ := run_of_regWp ops 0 env H _ _ _ h
  have hlen := hrun.length
  let dR : Rec := ⟨[], [], .undef, [], [], [], fun _ => False, false⟩
  let rec_ (i : Nat) : Rec := rs.getD i dR
  have hrec : ∀ i, i < rs.length → rs[i]? = some (rec_ i) := fun i hi => by
    simp only [rec_]; rw [List.getD_eq_getElem?_getD, List.getElem?_eq_getElem hi]; rfl
  let t : Tr := ⟨ops.length, envAt rs eF, heapAt rs HF, fun i => (rec_ i).av, fun i => (rec_ i).rd, fun i => (rec_ i).wr, fun i => (rec_ i).nw, fun i => (rec_ i).FR⟩
  have hat : ∀ i, i < ops.length → envAt rs eF i = (rec_ i).env ∧ heapAt rs HF i = (rec_ i).H := fun i hi => by
    simp only [envAt, heapAt, hrec i (by omega), and_self]
  have htr : TrOK cx.P ops N nx t := by
    refine ⟨rfl, fun i o ho => ?_, fun i o ho x hx' => ?_, fun i o ho x hx' => ?_, fun i hi m hm => ?_, fun i hi m hm => ?_, fun i hi => ?_, fun i hi m hm => ?_, fun i hi m hm => ?_⟩
    all_goals
      have hi' : i < ops.length := by
        first
          | exact hi
          | (rcases Nat.lt_or_ge i ops.length with h | h
             · exact h
             · rw [List.getElem?_eq_none h] at ho; cases ho)
      obtain ⟨o', envk, Hk, nck, pk, pck, nck', a1, a2, a3, a4, a5, a6, a7, a8⟩ := hrun.get i _ (hrec i (by omega))
    · rw [ho] at a1; injection a1 with a1; subst a1
      simp only [t, (hat i hi').1, (hat i hi').2]
      rw [Nat.zero_add] at a2
      exact a2.sem ops.toArray rfl ho
    · rw [ho] at a1; injection a1 with a1; subst a1
      simp only [t, (hat i hi').1]
      rw [a3 x]
      cases hd' : o.dst with
      | none => rfl
      | some d => 
        show (if d = x then _ else _) = _
        rw [if_neg (fun e => hx' (by rw [hd', e]))]
    · rw [ho] at a1; injection a1 with a1; subst a1
      simp only [t]
      rw [a3 x, hx']
      refine ⟨?_, ?_⟩
      · show (if x = x then _ else _) = _
        rw [if_pos rfl]
      · have := List.all_eq_true.1 hN o (List.mem_of_getElem? ho)
        rw [hx'] at this
        simpa using this
    · simp only [t]
      rw [a4, (hat i hi').2, Heap.get_append, if_neg hm]
    · simp only [t]
      rw [a4, Heap.get_append, if_pos hm]
    · simp only [t, (hat i hi').2]
      rw [a2.heap]
      exact a2.wrOK
    · simp only [t] at hm ⊢
      cases hc : (rec_ i).call with
      | true =>
        obtain ⟨c1, c2, c3, _⟩ := a2.cl hc
        have := c3 m hm
        exact ⟨by omega, (c2 m).2 this.1⟩
      | false =>
        obtain ⟨c1, c2, c3⟩ := a2.pr hc
        have := c3 m hm
        exact ⟨by omega, (c2 m).2 this⟩
    · simp only [t] at hm
      cases hc : (rec_ i).call with
      | true =>
        obtain ⟨c1, c2, c3, _⟩ := a2.cl hc
        have := (c2 m).1 hm
        omega
      | false =>
        obtain ⟨c1, c2, c3⟩ := a2.pr hc
        have := (c2 m).1 hm
        omega
  -- names that are made lie apart
  have names : ∀ i j m, i < ops.length → j < ops.length → i ≠ j → (rec_ i).FR m → m ∈ (rec_ j).nw → i < j ∧ (draw = false ∨ ahead ops j i = true) := by
    intro i j m hi hj hne hF hm
    obtain ⟨o1, _, _, nci, pi, pci, nci', _, b2, _, _, _, _, b7, b8⟩ := hrun.get i _ (hrec i (by omega))
    obtain ⟨o2, _, _, ncj, pj, pcj, ncj', _, c2, _, _, _, _, c7, c8⟩ := hrun.get j _ (hrec j (by omega))
    cases hci : (rec_ i).call with
    | false =>
      have e1 := ((b2.pr hci).2.1 m).1 hF
      cases hcj : (rec_ j).call with
      | false => have := (c2.pr hcj).2.2 m hm; omega
      | true => have := ((c2.cl hcj).2.2.1 m hm).1; omega
    | true =>
      have e1 := ((b2.cl hci).2.1 m).1 hF
      cases hcj : (rec_ j).call with
      | false => have := (c2.pr hcj).2.2 m hm; omega
      | true =>
        rcases Nat.lt_or_gt_of_ne hne with hlt | hgt
        · refine ⟨hlt, ?_⟩
          have h1 := ((c8 i _ hlt (hrec i (by omega))).2 hci).1
          have h2 := ordCalls_mem (c2.cl hcj).1 h1
          rw [Nat.zero_add, Nat.zero_add] at h2
          rcases h2 with h2 | h2 | h2
          · exact .inl h2
          · have := List.eq_nil_of_length_eq_zero h2
            rw [this] at hm; cases hm
          · exact .inr h2
        · have := ((b8 j _ hgt (hrec j (by omega))).2 hcj).2 m hm
          omega
  have hEnd : Ends cx.P ops N nx t g0 w0 h0 nx0 ds (Q .normal) := by
    intro a' g' w' k1 k2 k3 k4 k5 k6 k7
    have e1 : t.env t.n = eF := by simp only [t, envAt]; rw [List.getElem?_eq_none (by omega)]
    have e2 : t.H t.n = HF := by simp only [t, heapAt]; rw [List.getElem?_eq_none (by omega)]
    rw [e1] at k3
    rw [e2] at k5 k6
    have hmax : ∀ {l : List Oper} {i : Nat} {env : Env} {H : Heap} {nc : Nat} {past : Past} {pc : List Nat} {rs : List Rec} {eF : Env} {HF : Heap} {ncF : Nat}, Run cx ops draw nx l i env H nc past pc rs eF HF ncF →
        nc ≤ ncF ∧ ∀ r ∈ rs, r.call = true → ∀ m ∈ r.nw, m < ncF := by
      intro l i env H nc past pc rs eF HF ncF hr
      induction hr with
      | nil => exact ⟨Nat.le_refl _, fun r hr => by simp at hr⟩
      | @cons o l i env env' H nc nc' ncF past past' pc r0 rs eF HF h1 h2 h3 h4 ih =>
        obtain ⟨i1, i2⟩ := ih
        have hnc : nc ≤ nc' := by
          cases hc : r0.call with
          | true => exact (h1.cl hc).2.2.2
          | false => rw [(h1.pr hc).1]; exact Nat.le_refl _
        refine ⟨by omega, fun r hr hc m hm => ?_⟩
        rcases List.mem_cons.1 hr with rfl | hr
        · exact Nat.lt_of_lt_of_le ((h1.cl hc).2.2.1 m hm).2 i1
        · exact i2 r hr hc m hm
    obtain ⟨m1, m2⟩ := hmax hrun
    refine hK eF HF ncF a' g' w' hKF k1 k2 k3 k4 k5 k6 (by omega) (fun m hm hus => ?_)
    obtain ⟨j, hj, hjm⟩ := k7 m (by omega) hus
    simp only [t] at hj hjm
    have hrj := hrec j (by omega)
    cases hc : (rec_ j).call with
    | true => have := m2 _ (List.mem_of_getElem? hrj) hc m hjm; omega
    | false =>
      obtain ⟨_, _, _, _, _, _, _, _, a2, _⟩ := hrun.get j _ hrj
      have := (a2.pr hc).2.2 m hjm
      omega
  -- the state at the start
  have hst : ∀ w1 : World, w1.heap = w.heap → w1.os = w.os → w1.tape = w.tape → w1.output = w.output → ST cx.P ops N nx t g0 w0 h0 nx0 ds (fun _ => False) a g w1 := by
    intro w1 e1 e2 e3 e4
    obtain ⟨f1, f2⟩ := hrun.first
    have hd1 : Delta g w g w1 (fun _ => False) (fun _ => False) (fun _ => False) := by
      refine ⟨⟨fun _ h => h, fun _ _ => Nat.le_refl _, fun _ _ _ _ => rfl, fun _ => Nat.le_refl _, fun b o' _ => by simp [World.cell?, e1]⟩, e2, e3, e4, by rw [e1]; exact Nat.le_refl _, fun b _ _ => ⟨by rw [e1], rfl⟩, fun _ h => .inl h, fun _ _ _ => rfl, fun hi b hb => hi b (by rw [← e1]; exact hb)⟩
    have hheap : HeapF g w1 H.get := ⟨fun n r hr => ((hH.ok n r hr).frame hd1 (fun h => h) (fun _ _ h => h)).1, hH.disj⟩
    refine ⟨hsz, hdf, fun x => ?_, hd1.inv hi, ?_, ?_, fun m hm hus => absurd hus (hu m hm)⟩
    · rw [cur_start (fun j _ h => h)]
      simp only [t]
      rw [f1 x]
      exact (he x).imp id fun ⟨v, v1, v2⟩ => ⟨v, v1, v2.ext hd1.ext⟩
    · have : cur (fun i m => (t.H i).get m) (fun _ => False) (fun i m => m ∈ keys (t.wr i)) t.n = H.get := by
        funext m; rw [cur_start (fun j _ h => h)]; simp only [t]; rw [f2]
      rw [this]; exact hheap
    · have : cur (fun i m => (t.H i).get m) (fun _ => False) (fun i m => m ∈ keys (t.wr i)) t.n = H.get := by
        funext m; rw [cur_start (fun j _ h => h)]; simp only [t]; rw [f2]
      rw [this]
      refine ⟨(hA.delta.trans hd1).mono (fun b _ h => h.elim id (fun h => h.elim)) (fun n _ h => h.elim id (fun h => h.elim)) (fun n h => h.elim id (fun h => h.elim)), hA.own, hA.nam, hA.fresh0⟩
  cases draw with
  | false =>
    exact wp_region_seq htr hx (fun i hi m hm j hj hmj => by
      have := (names i j m hi (Nat.lt_trans hj hi) (by omega) hm hmj).1
      omega) hEnd (hst w rfl rfl rfl rfl)
  | true =>
    obtain ⟨d1, d2, d3⟩ := hd rfl
    refine wp_region_any' htr hx d1 d2 d3 (fun i j m hij hj hm => ?_) (fun i j m hi hj hne hF hm => ?_) hEnd (hst { w with drawn := w.drawn + 1 } rfl rfl rfl rfl)
    · have hj' : j < ops.length := hj
      obtain ⟨o2, _, _, ncj, pj, pcj, ncj', _, c2, _, _, _, _, c7, c8⟩ := hrun.get j _ (hrec j (by omega))
      obtain ⟨e1, _⟩ := c8 i _ hij (hrec i (by omega))
      simp only [t] at hm
      rcases e1 with ⟨e1, e2⟩ | e1
      · rw [e1, e2] at hm; simp at hm
      · have := ordOK_mem c2.ord e1
        rw [Nat.zero_add, Nat.zero_add] at this
        rcases this with h | ⟨n1, n2⟩ | h
        · cases h
        · rcases hm with ⟨q1, q2⟩ | ⟨q1, q2⟩
          · rcases q2 with q2 | q2
            · exact absurd rfl ((n1 m q1).1 m q2)
            · exact absurd rfl ((n1 m q1).2 m q2)
          · exact absurd rfl (n2 m q1 m q2)
        · exact h
    · obtain ⟨n1, n2⟩ := names i j m hi hj hne hF hm
      exact ⟨n1, n2.resolve_left (by simp)⟩

end Go.AL

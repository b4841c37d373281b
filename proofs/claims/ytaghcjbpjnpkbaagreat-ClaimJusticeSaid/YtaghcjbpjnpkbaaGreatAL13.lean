/-
  The layer AL, part 13: code and functions.
-/
import Derived.Test.YtaghcjbpjnpkbaaGreatAL12
import Derived.Scope
import Derived.Laws.Externs
import Derived.Deep.LoopGhost
set_option linter.unusedSimpArgs false
set_option linter.unusedVariables false
namespace Go.AL
open Go

/-! ### names below a bound -/
mutual
def AV.nb (m : Nat) : AV → Prop
  | .undef | .val _ => True
  | .sl _ L tok => AV.nbs m L ∧ (tok < 2 ∨ tok - 2 < m)
  | .ref n _ _ => n < m
  | .cref v => AV.nb m v
  | .aref n _ _ _ _ _ => n < m
  | .map n => n < m
  | .clos _ caps => AV.nbs m caps
  | .agg _ ps | .vec _ ps => AV.nbs m ps
  | .tup vs => AV.nbs m vs
def AV.nbs (m : Nat) : List AV → Prop
  | [] => True
  | a :: as => AV.nb m a ∧ AV.nbs m as
end

theorem AV.nbs_mem {m : Nat} : ∀ {l : List AV} {a : AV}, AV.nbs m l → a ∈ l → AV.nb m a
  | x :: l, a, h, ha => by
    rw [AV.nbs] at h
    rcases List.mem_cons.1 ha with rfl | ha
    · exact h.1
    · exact AV.nbs_mem h.2 ha
theorem AV.nbs_of {m : Nat} : ∀ {l : List AV}, (∀ a ∈ l, AV.nb m a) → AV.nbs m l
  | [], _ => by rw [AV.nbs]; trivial
  | x :: l, h => by rw [AV.nbs]; exact ⟨h x List.mem_cons_self, AV.nbs_of fun a ha => h a (List.mem_cons_of_mem _ ha)⟩

def Sh.nb (m : Nat) : Sh → Prop
  | .one a _ => a.nb m
  | .seq as _ | .useq _ as _ | .mem _ as _ _ => AV.nbs m as

def G.cut (g : G) (m : Nat) : G := { g with use := fun n => g.use n ∧ n < m }

theorem TokOK.cut {g : G} {m tok blk len c endc capc : Nat} (h : TokOK g tok blk len c endc capc) (hm : tok < 2 ∨ tok - 2 < m) : TokOK (g.cut m) tok blk len c endc capc := by
  match tok, h with
  | 0, _ => trivial
  | 1, h => exact h
  | n + 2, h =>
    rcases h with h | ⟨h1, h2, h3⟩
    · exact .inl h
    · exact .inr ⟨⟨h1, by omega⟩, h2, h3⟩

theorem R.cut {g : G} {w : World} {m : Nat} {s : Sh} (h : R g w s) (hm : s.nb m) : R (g.cut m) w s := by
  induction h with
  | val h => exact .val h
  | slNil => exact .slNil
  | sl hc _ ht ih => simp only [Sh.nb, AV.nb] at hm ih; exact .sl hc (ih hm.1) (ht.cut hm.2)
  | ref h1 h2 => simp only [Sh.nb, AV.nb] at hm; exact .ref ⟨h1, hm⟩ h2
  | cref _ h2 h3 ih => simp only [Sh.nb, AV.nb] at hm ih; exact .cref (ih hm) h2 h3
  | aref h1 h2 h3 => simp only [Sh.nb, AV.nb] at hm; exact .aref ⟨h1, hm⟩ h2 h3
  | map h1 h2 => simp only [Sh.nb, AV.nb] at hm; exact .map ⟨h1, hm⟩ h2
  | clos _ h2 ih => simp only [Sh.nb, AV.nb] at hm ih; exact .clos (ih hm) h2
  | agg _ h2 ih => simp only [Sh.nb, AV.nb] at hm ih; exact .agg (ih hm) h2
  | vec _ ih => simp only [Sh.nb, AV.nb] at hm ih; exact .vec (ih hm)
  | seqNil => exact .seqNil
  | seqCons _ _ ih1 ih2 => simp only [Sh.nb, AV.nbs] at hm ih1 ih2; exact .seqCons (ih1 hm.1) (ih2 hm.2)
  | useqNil => exact .useqNil
  | useqCons _ h2 _ ih1 ih2 => simp only [Sh.nb, AV.nbs] at hm ih1 ih2; exact .useqCons (ih1 hm.1) h2 (ih2 hm.2)
  | memNil => exact .memNil
  | memCons _ h2 h3 h4 _ ih1 ih2 => simp only [Sh.nb, AV.nbs] at hm ih1 ih2; exact .memCons (ih1 hm.1) h2 h3 h4 (ih2 hm.2)

theorem V0.cut {g : G} {w : World} {m : Nat} {a : AV} {v : Value} (h : V0 g w a v) (hm : a.nb m) : V0 (g.cut m) w a v := ⟨h.1.cut hm, h.2⟩
theorem V1.cut {g : G} {w : World} {m : Nat} {a : AV} {v : Value} (h : V1 g w a v) (hm : a.nb m) : V1 (g.cut m) w a v := by
  cases a with
  | undef => trivial
  | tup as =>
    obtain ⟨ws, h1, h2, h3⟩ := h
    rw [AV.nb] at hm
    exact ⟨ws, h1, h2, fun i x y hx hy => (h3 i x y hx hy).imp id (fun h => h.cut (AV.nbs_mem hm (List.mem_of_getElem? hx)))⟩
  | _ => exact V0.cut h hm

def Res.nb (m : Nat) : Res → Prop
  | .obj a | .robj a => a.nb m
  | .tail _ => True
  | .mp es | .rmp es | .xmp es _ _ => AV.nbs m (es.map (·.1)) ∧ AV.nbs m (es.map (·.2))
  | .itr k _ _ _ => k < m
theorem nbs_perm {m : Nat} {l l' : List AV} (hp : l.Perm l') (h : AV.nbs m l) : AV.nbs m l' := AV.nbs_of fun a ha => AV.nbs_mem h (hp.mem_iff.2 ha)
theorem MapR.cut {g : G} {w : World} {m : Nat} {es : List (AV × AV)} {L : List MapEntry} (h : MapR g w es L) (h1 : AV.nbs m (es.map (·.1))) (h2 : AV.nbs m (es.map (·.2))) : MapR (g.cut m) w es L := by
  induction h with
  | nil => exact .nil
  | cons k1 k2 _ ih =>
    simp only [List.map_cons, AV.nbs] at h1 h2
    exact .cons (k1.cut h1.1) (k2.cut h2.1) (ih h1.2 h2.2)

theorem resOK.cut {g : G} {w : World} {m n : Nat} {r : Res} (h : resOK g w n r) (hn : n < m) (hm : r.nb m) : resOK (g.cut m) w n r := by
  cases r with
  | obj a | robj a =>
    obtain ⟨h0, b, x, arr, T, h1, h2, h3, h4⟩ := h
    exact ⟨⟨h0, hn⟩, b, x, arr, T, h1, h2, h3.cut hm, h4⟩
  | mp a | rmp a =>
    obtain ⟨h0, b, x, arr, T, h1, h2, h3, h4⟩ := h
    obtain ⟨⟨es', p1, p2⟩, p3⟩ := h3
    exact ⟨⟨h0, hn⟩, b, x, arr, T, h1, h2, ⟨⟨es', p1, p2.cut (nbs_perm (p1.map _).symm hm.1) (nbs_perm (p1.map _).symm hm.2)⟩, p3⟩, h4⟩
  | xmp a bs clk =>
    obtain ⟨h0, b, x, arr, h1, h2, h3, h4⟩ := h
    exact ⟨⟨h0, hn⟩, b, x, arr, h1, h2, ⟨h3.1.cut hm.1 hm.2, h3.2⟩, h4⟩
  | itr k bs clk se =>
    obtain ⟨⟨h0, h0'⟩, b, x, mb, y, h1, h2, h3, h4⟩ := h
    exact ⟨⟨⟨h0, hn⟩, h0', hm⟩, b, x, mb, y, h1, h2, h3, h4⟩
  | tail e =>
    obtain ⟨h0, h1, h2⟩ := h
    exact ⟨⟨h0, hn⟩, h1, h2⟩

theorem Delta.cut {g g' : G} {w w' : World} {D T N : Nat → Prop} {m : Nat} (h : Delta g w g' w' D T N) (hm : ∀ n, g.use n → n < m) : Delta g w (g'.cut m) w' D T (fun n => N n ∧ n < m) :=
  ⟨⟨fun n hn => ⟨h.ext.use n hn, hm n hn⟩, h.ext.bd, h.ext.loc, h.ext.imm, h.ext.cell⟩, h.os, h.tape, h.output, h.size, h.keep,
   fun n hn => (h.names n hn.1).imp id (fun h' => ⟨h', hn.2⟩), h.bdk, h.inv⟩

/-! ### code -/
inductive Ex where
  | normal
  | ret
  | exit (n : Nat)

abbrev Post := Ex → Env → Heap → Nat → Prop

def subE : Env → Env → Prop
  | [], _ => True
  | (t, a) :: r, env => env.get t = a ∧ subE r env
def subL : Heap → Heap → Prop
  | [], _ => True
  | (n, some r) :: t, H => H.get n = some r ∧ subL t H
  | (_, none) :: _, _ => False
def nbE (m : Nat) : Env → Prop
  | [] => True
  | (_, a) :: r => a.nb m ∧ nbE m r
def nbL (m : Nat) : Heap → Prop
  | [] => True
  | (n, some r) :: t => n < m ∧ r.nb m ∧ nbL m t
  | (_, none) :: t => nbL m t

def kSeq (wp : Env → Heap → Nat → Prop) (Q : Post) : Post
  | .normal, env, H, nx => wp env H nx
  | ex, env, H, nx => Q ex env H nx
def kBlock (id : Nat) (Q : Post) : Post
  | .exit n, env, H, nx => if n = id then Q .normal env H nx else Q (.exit n) env H nx
  | ex, env, H, nx => Q ex env H nx

structure Inv_ where
  σ : Type
  E : σ → Env
  H : σ → Heap
  μ : σ → Nat
  N : σ → Nat

def kLoop (I : Inv_) (s : I.σ) (Q : Post) : Post
  | .normal, env, H, _ => ∃ s', I.μ s' < I.μ s ∧ subE (I.E s') env ∧ subL (I.H s') H
  | ex, env, H, nx => Q ex env H nx

structure Mid where
  σ : Type
  E : σ → Env
  H : σ → Heap
def kMid (M : Mid) (Q : Post) : Post
  | .normal, env, H, _ => ∃ s, subE (M.E s) env ∧ subL (M.H s) H
  | ex, env, H, nx => Q ex env H nx
def midK (a : Post → Prop) (nx : Nat) (Q : Post) (_ : Lock a) : Prop :=
  ∃ M : Mid, (∀ s, nbE nx (M.E s) ∧ nbL nx (M.H s)) ∧ a (kMid M Q) ∧ ∀ s, Q .normal (M.E s) (M.H s) nx

def condWp (v : AV) (X Y : Prop) (_ : Lock X) (_ : Lock Y) : Prop :=
  match v with
  | .val (.bool b) => brB b true X Y () ()
  | _ => False

def joins (an : An) : Operand → Bool
  | .tmp t => an.jn.contains t
  | _ => false
def cloneFn (P : Program) (f : Nat) : Prop := ∃ fn, P.funcs[f]? = some fn ∧ (fn.name == "runtime.NumGoroutine") = false ∧ fn.body.isNone = true ∧ Extern.findNext fn = none ∧ Extern.find fn = some Extern.MapsClone.clone
def stepsK (n : Nat) (se : List Nat) (X : Prop) (Y : Nat → Prop) (_ : Lock X) (_ : Lock Y) : Prop := (∀ j ∈ se, j < n) ∧ ((∀ i, i < n → i ∈ se) → X) ∧ (∀ i, i < n → i ∉ se → Y i)
def nextK (cx : Cx) (ops : List Oper) (draw : Bool) (env : Env) (H : Heap) (nx : Nat) (Q : Env → Heap → Nat → Prop) : Prop :=
  match draw, ops with
  | false, [⟨some a, .move (.tmp x), _, _, _, none⟩, ⟨some b, .makeInterface T (.tmp a'), _, _, _, none⟩, ⟨some c, .call ⟨.value (.func fc), args, _⟩, _, _, _, none⟩, ⟨some d, .typeAssert (.tmp c') _ T' false, _, _, _, none⟩, ⟨some e, .assign (.tmp d'), _, _, _, none⟩] =>
    match env.get x with
    | .map m => match Res.mp? (H.get m) with
      | some es => a' = a ∧ args.toList = [.tmp b] ∧ c' = c ∧ T' = T ∧ d' = d ∧ (tmap cx.P T).isSome = true ∧ cloneFn cx.P fc ∧ AV.nbs nx (es.map (·.1)) ∧ AV.nbs nx (es.map (·.2)) ∧
          Q ((e, .map nx) :: (d, .undef) :: (c, .undef) :: (b, .undef) :: (a, .undef) :: env) ((nx, some (.mp es)) :: H) (nx + 1)
      | none => False
    | _ => False
  | false, [⟨some d, .next (.tmp t) false, _, _, _, none⟩, ⟨some d2, .extract (.tmp d') 0, _, _, _, none⟩] =>
    match env.get t with
    | .ref n 0 [] => match H.get n with
      | some (.itr m bs clk se) => match H.get m with
        | some (.xmp es bs' clk') => d' = d ∧ bs' = bs ∧ clk' = clk ∧
           stepsK es.length se (Q ((d2, .val (.bool false)) :: (d, .undef) :: env) H nx) (fun i => Q ((d2, .val (.bool true)) :: (d, .undef) :: env) ((n, some (.itr m bs clk (i :: se))) :: H) nx) () ()
        | _ => False
      | _ => False
    | _ => False
  | _, _ => False
def viewK (X : Heap → Prop) (H : Heap) (_ : Lock X) : Prop :=
  (∃ m es, H.get m = some (.rmp es) ∧ ∀ es' bs clk, es'.Perm es → (es.map (·.1)).Nodup → bs.length = es.length → X ((m, some (.xmp es' bs clk)) :: H)) ∨
  (∃ m es es', H.get m = some (.mp es) ∧ es.Perm es' ∧ X ((m, some (.mp es')) :: H))
def codeWp (cx : Cx) (an : An) : Code → Env → Heap → Nat → Post → Prop
  | .skip, env, H, nx, Q => Q .normal env H nx
  | .region id ops draw, env, H, nx, Q =>
    if an.nxt.contains id = true then nextK cx ops.toList draw env H nx (Q .normal)
    else if an.vw.contains id = true then viewK (fun H => regWp cx an ops.toList draw nx ops.toList 0 env H (nx + 8 * ops.toList.length) [] [] (Q .normal)) H ()
    else if an.rj.contains id = true then midK (fun Q => regWp cx an ops.toList draw nx ops.toList 0 env H (nx + 8 * ops.toList.length) [] [] (Q .normal)) nx Q ()
    else regWp cx an ops.toList draw nx ops.toList 0 env H (nx + 8 * ops.toList.length) [] [] (Q .normal)
  | .seq a b, env, H, nx, Q => codeWp cx an a env H nx (kSeq (fun env H nx => codeWp cx an b env H nx Q) Q)
  | .cond c a b, env, H, nx, Q =>
    if joins an c = true then midK (fun Q => condWp (evA env c) (codeWp cx an a env H nx Q) (codeWp cx an b env H nx Q) () ()) nx Q ()
    else condWp (evA env c) (codeWp cx an a env H nx Q) (codeWp cx an b env H nx Q) () ()
  | .block id b, env, H, nx, Q => if an.cut.contains id = true then midK (fun Q => codeWp cx an b env H nx (kBlock id Q)) nx Q () else codeWp cx an b env H nx (kBlock id Q)
  | .loop b, env, H, nx, Q => ∃ (I : Inv_) (s0 : I.σ), subE (I.E s0) env ∧ subL (I.H s0) H ∧ (∀ s, nx ≤ I.N s ∧ nbE (I.N s) (I.E s) ∧ nbL (I.N s) (I.H s)) ∧ ∀ s, codeWp cx an b (I.E s) (I.H s) (I.N s) (kLoop I s Q)
  | .exit n, env, H, nx, Q => Q (.exit n) env H nx
  | .ret, env, H, nx, Q => Q .ret env H nx
  | .label _, env, H, nx, Q => Q .normal env H nx
  | .scope b, env, H, nx, Q => codeWp cx an b env H nx Q
  | _, _, _, _, _ => False

def codeOK (N : Nat) : Code → Bool
  | .region _ ops draw => dstsOK N ops.toList && (!draw || (tmpsOK ops.toList && backOK ops.toList))
  | .seq a b => codeOK N a && codeOK N b
  | .cond _ a b => codeOK N a && codeOK N b
  | .block _ b => codeOK N b
  | .loop b => codeOK N b
  | .scope b => codeOK N b
  | _ => true

def exOf : Ex → Exit
  | .normal => .normal
  | .ret => .ret
  | .exit n => .exit n

structure CSt (N : Nat) (ds : List Deferred) (g0 : G) (w0 : World) (h0 : Nat → Option Res) (nx0 : Nat) (env : Env) (H : Heap) (nx : Nat) (a : Act) (g : G) (w : World) : Prop where
  size : a.tmps.size = N
  defs : a.defers = ds
  env : ∀ x, EnvAt g w env a.tmps x
  inv : Inv g w
  heap : HeapOK g w H
  acc : Acc g0 w0 h0 nx0 g w H.get
  fresh : ∀ m, nx ≤ m → ¬ g.use m
  le : nx0 ≤ nx

theorem subE_get {E env : Env} (h : subE E env) (x : Nat) : E.get x = .undef ∨ E.get x = env.get x := by
  induction E with
  | nil => exact .inl rfl
  | cons p r ih =>
    obtain ⟨t, a⟩ := p
    obtain ⟨h1, h2⟩ := h
    show (if t = x then a else Env.get r x) = .undef ∨ (if t = x then a else Env.get r x) = env.get x
    by_cases e : t = x
    · rw [if_pos e]; subst e; exact .inr h1.symm
    · rw [if_neg e]; exact ih h2

theorem subL_get : ∀ {E H : Heap} {n : Nat} {r : Res}, subL E H → E.get n = some r → H.get n = some r
  | [], _, _, _, _, h => by simp [Heap.get] at h
  | (k, some s) :: t, H, n, r, hs, h => by
    obtain ⟨h1, h2⟩ := hs
    simp only [Heap.get] at h
    by_cases e : k = n
    · rw [if_pos e] at h; rw [← e, h1]; exact h
    · rw [if_neg e] at h; exact subL_get h2 h
  | (_, none) :: _, _, _, _, hs, _ => hs.elim

theorem nbE_get {m : Nat} {E : Env} (h : nbE m E) (x : Nat) : (E.get x).nb m := by
  induction E with
  | nil => show AV.nb m .undef; rw [AV.nb]; trivial
  | cons p r ih =>
    obtain ⟨t, a⟩ := p
    obtain ⟨h1, h2⟩ := h
    show AV.nb m (if t = x then a else Env.get r x)
    by_cases e : t = x
    · rw [if_pos e]; exact h1
    · rw [if_neg e]; exact ih h2

theorem nbL_get {m : Nat} : ∀ {E : Heap} {n : Nat} {r : Res}, nbL m E → E.get n = some r → n < m ∧ r.nb m
  | [], _, _, _, h => by simp [Heap.get] at h
  | (k, some s) :: t, n, r, hs, h => by
    obtain ⟨h1, h2, h3⟩ := hs
    simp only [Heap.get] at h
    by_cases e : k = n
    · rw [if_pos e] at h; injection h with h; subst e h; exact ⟨h1, h2⟩
    · rw [if_neg e] at h; exact nbL_get h3 h
  | (k, none) :: t, n, r, hs, h => by
    simp only [Heap.get] at h
    by_cases e : k = n
    · rw [if_pos e] at h; cases h
    · rw [if_neg e] at h; exact nbL_get (by simpa [nbL] using hs) h

theorem blkOf_cut {g : G} {m n : Nat} {r : Res} : blkOf (g.cut m) n r = blkOf g n r := by cases r <;> rfl

theorem CSt.forget {N : Nat} {ds : List Deferred} {g0 : G} {w0 : World} {h0 : Nat → Option Res} {nx0 : Nat} {env E : Env} {H L : Heap} {nx nx' : Nat} {a : Act} {g : G} {w : World} (h : CSt N ds g0 w0 h0 nx0 env H nx' a g w)
    (hE : subE E env) (hL : subL L H) (h1 : nbE nx E) (h2 : nbL nx L) (hx : nx0 ≤ nx) : CSt N ds g0 w0 h0 nx0 E L nx a (g.cut nx) w := by
  refine ⟨h.size, h.defs, fun x => ?_, h.inv, ⟨fun n r hr => ?_, fun n n' r r' b hr hr' hb hb' => ?_⟩, ⟨(h.acc.delta.cut (fun n hn => ?_)).mono (fun _ _ h => h) (fun _ _ h => h) (fun _ h => h.1), fun n r b hr hw hb => ?_, fun n r hr hw => ?_, h.acc.fresh0⟩, fun m hm hu => by have := hu.2; omega, hx⟩
  · rcases subE_get hE x with he | he
    · exact .inl he
    · rcases h.env x with hu | ⟨v, k1, k2⟩
      · exact .inl (he.trans hu)
      · exact .inr ⟨v, k1, by have := nbE_get h1 x; rw [he] at this ⊢; exact k2.cut this⟩
  · obtain ⟨k1, k2⟩ := nbL_get h2 hr
    exact (h.heap.ok n r (subL_get hL hr)).cut k1 k2
  · rw [blkOf_cut] at hb hb'
    exact h.heap.disj n n' r r' b (subL_get hL hr) (subL_get hL hr') hb hb'
  · rcases Nat.lt_or_ge n nx with h' | h'
    · exact h'
    · exact absurd hn (h.acc.fresh0 n (Nat.le_trans hx h'))
  · rw [blkOf_cut] at hb
    exact h.acc.own n r b (subL_get hL hr) hw hb
  · exact h.acc.nam n r (subL_get hL hr) hw

section
variable {N : Nat} {ds : List Deferred} {g0 : G} {w0 : World} {h0 : Nat → Option Res} {nx0 : Nat}
theorem CSt.pin {env : Env} {H : Heap} {nx : Nat} {a : Act} {g : G} {w : World} {m : Nat} {es : List (AV × AV)} (h : CSt N ds g0 w0 h0 nx0 env H nx a g w) (hm : H.get m = some (.rmp es)) :
    ∃ es' bs clk, es'.Perm es ∧ (es.map (·.1)).Nodup ∧ bs.length = es.length ∧ CSt N ds g0 w0 h0 nx0 env ((m, some (.xmp es' bs clk)) :: H) nx a g w := by
  obtain ⟨k0, b, x, arr, clk, k1, k2, ⟨⟨es', k3, k4⟩, k5, k6⟩, k7⟩ := h.heap.ok m _ hm
  have hg : ∀ n, Heap.get ((m, some (.xmp es' (arr.toList.map (·.born)) clk)) :: H) n = if m = n then some (.xmp es' (arr.toList.map (·.born)) clk) else H.get n := fun n => rfl
  have back : ∀ n r, Heap.get ((m, some (.xmp es' (arr.toList.map (·.born)) clk)) :: H) n = some r → ∃ r0, H.get n = some r0 ∧ blkOf g n r0 = blkOf g n r ∧ (r.wr = true → r0 = r) := fun n r hr => by
    rw [hg] at hr
    split at hr
    · rename_i e; subst e; injection hr with hr; subst hr
      exact ⟨_, hm, rfl, fun h => by cases h⟩
    · exact ⟨r, hr, rfl, fun _ => rfl⟩
  refine ⟨es', arr.toList.map (·.born), clk, k3, k5, by rw [← k3.length_eq, k4.length']; simp, h.size, h.defs, h.env, h.inv, ⟨fun n r hr => ?_, fun n n' r r' b hr hr' hb hb' => ?_⟩, ⟨h.acc.delta, fun n r b hr hw hb => ?_, fun n r hr hw => ?_, h.acc.fresh0⟩, h.fresh, h.le⟩
  · rw [hg] at hr
    split at hr
    · rename_i e; subst e; injection hr with hr; subst hr
      exact ⟨k0, b, x, arr, k1, k2, ⟨k4, (k3.map _).nodup_iff.2 k5, k6, rfl⟩, k7⟩
    · exact h.heap.ok n r hr
  · obtain ⟨s, s1, s2, _⟩ := back n r hr
    obtain ⟨t, t1, t2, _⟩ := back n' r' hr'
    exact h.heap.disj n n' s t b s1 t1 (s2.trans hb) (t2.trans hb')
  · obtain ⟨s, s1, s2, s3⟩ := back n r hr
    rw [s3 hw] at s1
    exact h.acc.own n r b s1 hw hb
  · obtain ⟨s, s1, s2, s3⟩ := back n r hr
    rw [s3 hw] at s1
    exact h.acc.nam n r s1 hw
theorem CSt.turn {env : Env} {H : Heap} {nx : Nat} {a : Act} {g : G} {w : World} {m : Nat} {es es' : List (AV × AV)} (h : CSt N ds g0 w0 h0 nx0 env H nx a g w) (hm : H.get m = some (.mp es)) (hp : es.Perm es') :
    CSt N ds g0 w0 h0 nx0 env ((m, some (.mp es')) :: H) nx a g w := by
  have hg : ∀ n, Heap.get ((m, some (.mp es')) :: H) n = if m = n then some (.mp es') else H.get n := fun n => rfl
  have back : ∀ n r, Heap.get ((m, some (.mp es')) :: H) n = some r → ∃ r0, H.get n = some r0 ∧ blkOf g n r0 = blkOf g n r ∧ r0.wr = r.wr := fun n r hr => by
    rw [hg] at hr
    split at hr
    · rename_i e; subst e; injection hr with hr; subst hr
      exact ⟨_, hm, rfl, rfl⟩
    · exact ⟨r, hr, rfl, rfl⟩
  refine ⟨h.size, h.defs, h.env, h.inv, ⟨fun n r hr => ?_, fun n n' r r' b hr hr' hb hb' => ?_⟩, ⟨h.acc.delta, fun n r b hr hw hb => ?_, fun n r hr hw => ?_, h.acc.fresh0⟩, h.fresh, h.le⟩
  · rw [hg] at hr
    split at hr
    · rename_i e; subst e; injection hr with hr; subst hr
      obtain ⟨k0, b, x, arr, clk, k1, k2, ⟨⟨es2, k3, k4⟩, k5, k6⟩, k7⟩ := h.heap.ok m _ hm
      exact ⟨k0, b, x, arr, clk, k1, k2, ⟨⟨es2, k3.trans hp, k4⟩, (hp.map _).nodup_iff.1 k5, k6⟩, k7⟩
    · exact h.heap.ok n r hr
  · obtain ⟨s, s1, s2, _⟩ := back n r hr
    obtain ⟨t, t1, t2, _⟩ := back n' r' hr'
    exact h.heap.disj n n' s t b s1 t1 (s2.trans hb) (t2.trans hb')
  · obtain ⟨s, s1, s2, s3⟩ := back n r hr
    exact h.acc.own n s b s1 (s3.trans hw) (s2.trans hb)
  · obtain ⟨s, s1, s2, s3⟩ := back n r hr
    exact h.acc.nam n s s1 (s3.trans hw)
theorem Delta.drawn {g : G} {w : World} (d : Nat) : Delta g w g { w with drawn := d } (fun _ => False) (fun _ => False) (fun _ => False) :=
  ⟨⟨fun _ h => h, fun _ _ => Nat.le_refl _, fun _ _ _ _ => rfl, fun _ => Nat.le_refl _, fun _ _ _ => rfl⟩, rfl, rfl, rfl, Nat.le_refl _, fun _ _ _ => ⟨rfl, rfl⟩, fun _ h => .inl h, fun _ _ _ => rfl, fun h => h⟩
theorem wp_clone {cx : Cx} {id : Nat} {env : Env} {H : Heap} {nx : Nat} {K : Env → Heap → Nat → Prop} {a : Act} {g : G} {w : World} {QC : Exit → Act → World → Prop} {t0 t1 t2 t3 t4 x t1' t3' t4' fc : Nat} {args : Array Operand} {ts : Array TypeId} {T T' xT y0 y1 y2 y3 y4 : TypeId} {p0 p1 p2 p3 p4 : String} {f0 f1 f2 f3 f4 : Array Edge}
    (h : match env.get x with
      | .map m => match Res.mp? (H.get m) with
        | some es => t1' = t0 ∧ args.toList = [.tmp t1] ∧ t3' = t2 ∧ T' = T ∧ t4' = t3 ∧ (tmap cx.P T).isSome = true ∧ cloneFn cx.P fc ∧ AV.nbs nx (es.map (·.1)) ∧ AV.nbs nx (es.map (·.2)) ∧
            K ((t4, .map nx) :: (t3, .undef) :: (t2, .undef) :: (t1, .undef) :: (t0, .undef) :: env) ((nx, some (.mp es)) :: H) (nx + 1)
        | none => False
      | _ => False)
    (hN : dstsOK N [⟨some t0, .move (.tmp x), y0, p0, f0, none⟩, ⟨some t1, .makeInterface T (.tmp t1'), y1, p1, f1, none⟩, ⟨some t2, .call ⟨.value (.func fc), args, ts⟩, y2, p2, f2, none⟩, ⟨some t3, .typeAssert (.tmp t3') xT T' false, y3, p3, f3, none⟩, ⟨some t4, .assign (.tmp t4'), y4, p4, f4, none⟩] = true)
    (hs : CSt N ds g0 w0 h0 nx0 env H nx a g w) (hK : ∀ env' H' nx' a' g' w', K env' H' nx' → CSt N ds g0 w0 h0 nx0 env' H' nx' a' g' w' → QC .normal a' w') :
    (Code.region id (List.toArray [⟨some t0, .move (.tmp x), y0, p0, f0, none⟩, ⟨some t1, .makeInterface T (.tmp t1'), y1, p1, f1, none⟩, ⟨some t2, .call ⟨.value (.func fc), args, ts⟩, y2, p2, f2, none⟩, ⟨some t3, .typeAssert (.tmp t3') xT T' false, y3, p3, f3, none⟩, ⟨some t4, .assign (.tmp t4'), y4, p4, f4, none⟩]) false).wp cx.P QC a w := by
  split at h
  case h_2 => exact h.elim
  rename_i m hx
  split at h
  case h_2 => exact h.elim
  rename_i es hm
  obtain ⟨rfl, hargs, rfl, rfl, rfl, hT, hc, hb1, hb2, hk⟩ := h
  have ea : args = #[.tmp t1] := by rw [← Array.toArray_toList (xs := args), hargs]
  subst ea
  obtain ⟨⟨kt, et⟩, hT⟩ := Option.isSome_iff_exists.1 hT
  obtain ⟨fn, c1, c2, c3, c4, c5⟩ := hc
  obtain ⟨u, b, x', arr, clk, hl, hb, ⟨⟨es', hp, hr⟩, hnd, hbo⟩, him⟩ := mpRes hm (fun r hr => hs.heap.ok m r hr)
  have hev : a.eval (.tmp x) = .map (some b) := by
    have h1 := (hs.env x).eval
    rw [hx] at h1
    obtain ⟨b', y', hv, _, hl'⟩ := V1_map h1
    rw [hl] at hl'; simp at hl'; obtain ⟨rfl, rfl⟩ := hl'
    exact hv
  have hd : ∀ t ∈ [t1', t1, t3', t4', t4], t < N := by
    intro t ht
    simp [dstsOK] at hN
    obtain ⟨k0, k1, k2, k3, k4⟩ := hN
    simp only [List.mem_cons, List.not_mem_nil, or_false] at ht
    rcases ht with h | h | h | h | h <;> rw [h] <;> assumption
  have put_at : ∀ (a : Act) (t : Nat) (v : Value), t < a.tmps.size → (a.put (some t) v).eval (.tmp t) = v := fun a t v h => by simp [Act.put, Act.eval, h]
  have put_sz : ∀ (a : Act) (t : Nat) (v : Value), (a.put (some t) v).tmps.size = a.tmps.size := fun a t v => by simp [Act.put]
  have put_df : ∀ (a : Act) (t : Nat) (v : Value), (a.put (some t) v).defers = a.defers := fun a t v => by simp [Act.put]
  have step : ∀ (ops : Array Oper) (i : Nat) (o : Oper) (rest : List Nat) (a1 : Act) (v : Value) (w1 w2 : World), ops[i]? = some o → o.guard = none → (execOp a1.eval o).run cx.P w1 = .ok (.value v) w2 → wpOps cx.P ops QC rest (a1.put o.dst v) w2 → wpOps cx.P ops QC (i :: rest) a1 w1 := by
    intro ops i o rest a1 v w1 w2 e1 e2 e3 e4
    rw [wpOps]
    simp only [e1, Region.wanted, e2, if_true]
    refine .inl ?_
    unfold Oper.wp
    rw [e3]
    exact e4
  let nw : Value := .map (some w.heap.size)
  let w2 : World := w.alloc (.map arr clk)
  let a1 := a.put (some t1') (.map (some b))
  let a2 := a1.put (some t1) (.iface T' (.map (some b)))
  let a3 := a2.put (some t3') (.iface T' nw)
  let a4 := a3.put (some t4') nw
  let a5 := a4.put (some t4) nw
  have z0 : a.tmps.size = N := hs.size
  have e1 : a1.eval (.tmp t1') = .map (some b) := put_at _ _ _ (by have := hd t1' (by simp); omega)
  have z1 : a1.tmps.size = N := (put_sz _ _ _).trans z0
  have e2 : a2.eval (.tmp t1) = .iface T' (.map (some b)) := put_at _ _ _ (by have := hd t1 (by simp); omega)
  have z2 : a2.tmps.size = N := (put_sz _ _ _).trans z1
  have e3 : a3.eval (.tmp t3') = .iface T' nw := put_at _ _ _ (by have := hd t3' (by simp); omega)
  have z3 : a3.tmps.size = N := (put_sz _ _ _).trans z2
  have e4 : a4.eval (.tmp t4') = nw := put_at _ _ _ (by have := hd t4' (by simp); omega)
  have z4 : a4.tmps.size = N := (put_sz _ _ _).trans z3
  have z5 : a5.tmps.size = N := (put_sz _ _ _).trans z4
  refine wp_region ?_
  show wpOps cx.P _ QC [0, 1, 2, 3, 4] a w
  refine step _ _ _ _ _ (.map (some b)) _ w rfl rfl (by simp [execOp, hev]) ?_
  refine step _ _ _ _ a1 (.iface T' (.map (some b))) _ w rfl rfl ?_ ?_
  · simp [execOp, e1, Instr.makeInterface, run_underlying (tmap_und hT)]
  have hex2 : (execOp a2.eval ⟨some t3', .call ⟨.value (.func fc), #[.tmp t1], ts⟩, y2, p2, f2, none⟩).run cx.P w = .ok (.value (.iface T' nw)) w2 := by
    have hcl : (Extern.MapsClone.clone #[.iface T' (.map (some b))]).run cx.P w = .ok (.iface T' nw) w2 := by
      have q : Extern.MapsClone.clone #[.iface T' (.map (some b))] = (getObj b >>= fun o => match o with
          | .map entries clock => (newObj (.map entries clock) >>= fun n => pure (.iface T' (.map (some n))))
          | _ => stuck "maps.clone: a map expected") := rfl
      rw [q]
      simp [MapKept.run_getObj_map (P := cx.P) hb, Result.andThen]
      exact ⟨rfl, rfl⟩
    have hcf := run_callFunc_extern (P := cx.P) c1 c2 c3 c4 c5 #[.iface T' (.map (some b))] w
    rw [hcl] at hcf
    have hev2 : a2.eval (.func fc) = .func (.func fc) #[] #[] := rfl
    have em : (#[Operand.tmp t1].map a2.eval) = #[.iface T' (.map (some b))] := by simp [e2]
    simp only [execOp, resolve, hev2, Deferred.ofValue, em]
    simp [invoke, hcf, Result.andThen]
  refine step _ _ _ _ a2 (.iface T' nw) _ w2 rfl rfl hex2 ?_
  refine step _ _ _ _ a3 nw _ w2 rfl rfl ?_ ?_
  · simp [execOp, e3, Instr.typeAssert, run_underlying (tmap_und hT)]
  refine step _ _ _ _ a4 nw _ w2 rfl rfl (by simp [execOp, e4]) ?_
  show QC .normal a5 w2
  -- the new map
  have hfr := hs.fresh nx (Nat.le_refl _)
  let r : Res := .mp es
  have h1 := Delta.name (w := w) hfr (fun _ => some (w.heap.size, 0, 0)) 0 (Blks g H (keys [(nx, some r)])) (· ∈ keys [(nx, some r)]) (· ∈ [nx]) (by simp)
  have hd0 := h1.trans (Delta.alloc (o := .map arr clk) (h1.inv hs.inv) 0 (Blks g H (keys [(nx, some r)])) (· ∈ keys [(nx, some r)]) (· ∈ [nx]))
  have hdl := hd0.mono (D' := Blks g H (keys [(nx, some r)])) (T' := (· ∈ keys [(nx, some r)])) (N' := (· ∈ [nx])) (fun _ _ h => h.elim (fun h => h) (fun h => h)) (fun _ _ h => h.elim (fun h => h) (fun h => h)) (fun _ h => h.elim (fun h => h) (fun h => h))
  let g2 : G := (g.newName nx (fun _ => some (w.heap.size, 0, 0)) 0).immSet w.heap.size 0
  have hpost : StepPost g w H [(nx, some r)] [nx] g2 w2 := by
    refine ⟨hdl, fun k r' hr' hk => ?_, fun k k' r r' b hk hk' _ _ _ _ => ?_⟩
    · simp [keys] at hk; subst hk
      simp [Heap.get] at hr'; subst hr'
      refine ⟨⟨.inl rfl, w.heap.size, (0, 0), arr, clk, by simp [G.immSet, G.newName, g2], heap_alloc_new w _, ⟨⟨es', hp, hr.ext hdl.ext⟩, hnd, hbo⟩, by simp [G.immSet, g2]⟩, fun b hb => .inr ?_⟩
      simp [r, blkOf, G.immSet, G.newName, g2] at hb; omega
    · simp [keys] at hk hk'; omega
  have hA := hs.acc.step hs.heap.toF hpost (fun _ _ => rfl) (fun k hk => .inr (by simpa [keys] using hk)) (fun n hn => by simp at hn; rw [hn]; exact hs.le) (fun n hn => by simp at hn; rw [hn]; exact hfr)
  refine hK _ _ _ a5 g2 w2 hk ⟨z5, ?_, fun z => ?_, hdl.inv hs.inv, hpost.heap hs.heap, ?_, fun k hk hu => ?_, Nat.le_succ_of_le hs.le⟩
  · simp only [a5, a4, a3, a2, a1, put_df]; exact hs.defs
  · unfold EnvAt
    simp only [Env.get]
    by_cases q4 : t4 = z
    · subst q4
      refine .inr ⟨nw, by simp [a5, Act.put, z4, hd t4], ?_⟩
      simp only [if_true]
      exact .of_V0 (V0.of_cell (.map (x := (0, 0)) (.inl rfl) (by simp [G.immSet, G.newName, g2])) rfl)
    · by_cases q3 : t4' = z
      · simp [q4, q3]
      · by_cases q2 : t3' = z
        · simp [q4, q3, q2]
        · by_cases q1 : t1 = z
          · simp [q4, q3, q2, q1]
          · by_cases q0 : t1' = z
            · simp [q4, q3, q2, q1, q0]
            · simp only [q4, q3, q2, q1, q0, if_false]
              have : a5.tmps[z]? = a.tmps[z]? := by
                simp only [a5, a4, a3, a2, a1, Act.put]
                rw [Array.getElem?_setIfInBounds_ne q4, Array.getElem?_setIfInBounds_ne q3, Array.getElem?_setIfInBounds_ne q2, Array.getElem?_setIfInBounds_ne q1, Array.getElem?_setIfInBounds_ne q0]
              rw [this]
              exact (hs.env z).ext hdl.ext
  · have e : Heap.get ((nx, some (Res.mp es)) :: H) = (fun k => if k ∈ keys [(nx, some r)] then Heap.get [(nx, some r)] k else H.get k) := by
      funext k; exact Heap.get_append [(nx, some r)] H k
    rw [e]; exact hA
  · rcases hdl.names k hu with q | q
    · exact hs.fresh k (by omega) q
    · simp at q; omega
theorem wp_next {cx : Cx} {id : Nat} {ops : List Oper} {draw : Bool} {env : Env} {H : Heap} {nx : Nat} {K : Env → Heap → Nat → Prop} {a : Act} {g : G} {w : World} {QC : Exit → Act → World → Prop} (h : nextK cx ops draw env H nx K)
    (hN : dstsOK N ops = true) (hs : CSt N ds g0 w0 h0 nx0 env H nx a g w) (hK : ∀ env' H' nx' a' g' w', K env' H' nx' → CSt N ds g0 w0 h0 nx0 env' H' nx' a' g' w' → QC .normal a' w') :
    (Code.region id ops.toArray draw).wp cx.P QC a w := by
  unfold nextK at h
  split at h
  case h_3 => exact h.elim
  case h_1 => exact wp_clone h hN hs hK
  rename_i d t T1 pos1 af1 d2 d' T2 pos2 af2
  split at h
  case h_2 => exact h.elim
  rename_i n hn
  split at h
  case h_2 => exact h.elim
  rename_i m bs clk se hH
  split at h
  case h_2 => exact h.elim
  rename_i es bs' clk' hm
  obtain ⟨rfl, rfl, rfl, hlt, hdone, hstep⟩ := h
  obtain ⟨⟨u1, u2⟩, b, x, mb, y, hl, hb, hlm, him⟩ := hs.heap.ok n _ hH
  obtain ⟨_, mb', x2, arr, hlm', hmb, ⟨hr, _, hbo, hbs⟩, _⟩ := hs.heap.ok m _ hm
  rw [hlm] at hlm'; simp at hlm'; obtain ⟨rfl, rfl⟩ := hlm'
  have hlen : es.length = arr.size := by rw [hr.length']; simp
  have hev : a.eval (.tmp t) = .pointer (some ⟨b, 0, none⟩) := by
    have h1 := (hs.env t).eval
    rw [hn] at h1
    obtain ⟨b', y', hv, _, hl'⟩ := V1_ref h1
    rw [hl] at hl'; simp at hl'; obtain ⟨rfl, rfl⟩ := hl'
    exact hv
  have hd1 : d' < N ∧ d2 < N := by simpa [dstsOK] using hN
  have tail : ∀ (v : Value) (v0 : Bool) (w' : World) (g' : G) (H' : Heap), (v = .tuple #[.bool v0] ∨ ∃ k u, v = .tuple #[.bool v0, k, u]) → Ext g w g' w' → Inv g' w' → HeapOK g' w' H' → Acc g0 w0 h0 nx0 g' w' H'.get → (∀ m, nx ≤ m → ¬ g'.use m) →
      K ((d2, .val (.bool v0)) :: (d', .undef) :: env) H' nx →
      wpOps cx.P #[⟨some d', .next (.tmp t) false, T1, pos1, af1, none⟩, ⟨some d2, .extract (.tmp d') 0, T2, pos2, af2, none⟩] QC [1] (a.put (some d') v) w' := by
    intro v v0 w' g' H' hv hx hi hH' hA hf hk
    have hsz : d' < a.tmps.size := by rw [hs.size]; exact hd1.1
    have hex : (execOp (a.put (some d') v).eval ⟨some d2, .extract (.tmp d') 0, T2, pos2, af2, none⟩).run cx.P w' = .ok (.value (.bool v0)) w' := by
      have : (a.put (some d') v).eval (.tmp d') = v := by simp [Act.put, Act.eval, hsz]
      simp only [execOp, this]
      rcases hv with rfl | ⟨k, u, rfl⟩ <;> simp [Instr.extract]
    simp only [wpOps, List.getElem?_toArray, List.getElem?_cons_succ, List.getElem?_cons_zero, Region.wanted, if_true]
    refine .inl ?_
    unfold Oper.wp
    rw [hex]
    refine hK _ _ _ _ _ _ hk ⟨by simp [Act.put, hs.size], by simpa [Act.put] using hs.defs, fun z => ?_, hi, hH', hA, hf, hs.le⟩
    unfold EnvAt
    simp only [Env.get]
    by_cases e1 : d2 = z
    · subst e1
      exact .inr ⟨.bool v0, by simp [Act.put, hs.size, hd1.2], by simpa using (V1_mk rfl : V1 g' w' (.val (.bool v0)) (.bool v0))⟩
    · by_cases e2 : d' = z
      · simp [e1, e2]
      · simp only [e1, e2, if_false, Act.put]
        rw [Array.getElem?_setIfInBounds_ne e1, Array.getElem?_setIfInBounds_ne e2]
        exact (hs.env z).ext hx
  have first : ∀ (v : Value) (w' : World), (Instr.next (.pointer (some ⟨b, 0, none⟩)) false T1).run cx.P w = .ok v w' →
      wpOps cx.P #[⟨some d', .next (.tmp t) false, T1, pos1, af1, none⟩, ⟨some d2, .extract (.tmp d') 0, T2, pos2, af2, none⟩] QC [1] (a.put (some d') v) w' →
      (Code.region id (List.toArray [⟨some d', .next (.tmp t) false, T1, pos1, af1, none⟩, ⟨some d2, .extract (.tmp d') 0, T2, pos2, af2, none⟩]) false).wp cx.P QC a w := by
    intro v w' hrun hk
    refine wp_region ?_
    have hex : (execOp a.eval ⟨some d', .next (.tmp t) false, T1, pos1, af1, none⟩).run cx.P w = .ok (.value v) w' := by
      simp only [execOp, hev]
      simp [hrun]
    show wpOps cx.P _ QC [0, 1] a w
    rw [wpOps]
    simp only [List.getElem?_toArray, List.getElem?_cons_zero, Region.wanted, if_true]
    refine .inl ?_
    unfold Oper.wp
    rw [hex]
    exact hk
  rcases next_run (P := cx.P) (T := T1) hb hmb hbo hbs (fun j hj => by have := hlt j hj; omega) with ⟨n1, dr, n2⟩ | ⟨i, e, dr, n1, n2, n3⟩
  · have hD := Delta.drawn (g := g) (w := w) dr
    have hp : StepPost g w H [] [] g { w with drawn := dr } := ⟨hD.mono (fun _ _ h => h.elim) (fun _ _ h => h.elim) (fun _ h => h.elim), fun n r _ hn => by simp at hn, fun n n' r r' b hn => by simp at hn⟩
    have hA := hs.acc.step hs.heap.toF hp (fun n hn => by simp at hn) (fun n hn => by simp at hn) (fun n hn => by simp at hn) (fun n hn => by simp at hn)
    refine first _ _ n2 (tail _ false _ g H (.inl rfl) hD.ext (hD.inv hs.inv) (hp.heap hs.heap) (by simpa using hA) hs.fresh (hdone fun i hi => n1 i (by omega)))
  · have hD1 := Delta.drawn (g := g) (w := w) dr
    let ob : Obj := .mapIter (some mb) clk' ((i :: se).reverse.map (bs'.getD · 0)).toArray clk'
    let wr : Heap := [(n, some (.itr m bs' clk' (i :: se)))]
    have hblk : Blks g H (keys wr) b := ⟨n, _, by simp [wr, keys], hH, by simp [blkOf, hl]⟩
    have hD2 := Delta.setMap (g := g) (w := { w with drawn := dr }) (ob' := ob) hb him (Blks g H (keys wr)) (· ∈ keys wr) (· ∈ ([] : List Nat)) hblk
    have hD := (hD1.trans hD2).mono (D' := Blks g H (keys wr)) (T' := (· ∈ keys wr)) (N' := (· ∈ ([] : List Nat))) (fun _ _ h => h.elim False.elim (fun h => h)) (fun _ _ h => h.elim False.elim (fun h => h)) (fun _ h => h.elim False.elim (fun h => h))
    have hblt : b < w.heap.size := by
      rcases Nat.lt_or_ge b w.heap.size with h' | h'
      · exact h'
      · rw [Array.getElem?_eq_none h'] at hb; cases hb
    have hp : StepPost g w H wr [] g { w with drawn := dr, heap := w.heap.setIfInBounds b ob } := by
      refine ⟨hD, fun k r hr' hk => ?_, fun k k' r r' b2 hk hk' _ _ _ _ => ?_⟩
      · simp [wr, keys] at hk; subst hk
        simp [wr, Heap.get] at hr'; subst hr'
        refine ⟨⟨⟨u1, u2⟩, b, x, mb, y, hl, by simp [ob, hblt], hlm, him⟩, fun b2 hb2 => .inl ?_⟩
        simp [blkOf, hl] at hb2; subst hb2; exact hblk
      · simp [wr, keys] at hk hk'; omega
    have hA := hs.acc.step hs.heap.toF hp (fun _ _ => rfl) (fun k hk => .inl (by simp [wr, keys] at hk; subst hk; exact ⟨_, hH, rfl⟩)) (fun n hn => by simp at hn) (fun n hn => by simp at hn)
    have hi : i < es.length := by
      have := (List.getElem?_eq_some_iff.1 n1).1
      rw [hlen]; simpa using this
    refine first _ _ n3 (tail _ true _ g (wr ++ H) (.inr ⟨_, _, rfl⟩) hD.ext (hD.inv hs.inv) (hp.heap hs.heap) ?_ hs.fresh (hstep i hi n2))
    have e : (wr ++ H).get = (fun k => if k ∈ keys wr then wr.get k else H.get k) := by funext k; rw [Heap.get_append]
    rw [e]; exact hA
end
theorem wp_of_codeWp {cx : Cx} {an : An} (hmo : cx.P.follows .mixedOrders = true) {N : Nat} {ds : List Deferred} {g0 : G} {w0 : World} {h0 : Nat → Option Res} {nx0 : Nat} : ∀ (c : Code) (env : Env) (H : Heap) (nx : Nat) (Q : Post) (a : Act) (g : G) (w : World) (QC : Exit → Act → World → Prop),
    codeWp cx an c env H nx Q → codeOK N c = true → CSt N ds g0 w0 h0 nx0 env H nx a g w →
    (∀ ex env' H' nx' a' g' w', Q ex env' H' nx' → CSt N ds g0 w0 h0 nx0 env' H' nx' a' g' w' → QC (exOf ex) a' w') → c.wp cx.P QC a w
  | .skip, env, H, nx, Q, a, g, w, QC, h, _, hs, hQ => wp_skip (hQ .normal _ _ _ _ _ _ h hs)
  | .region id ops draw, env, H, nx, Q, a, g, w, QC, h, hok, hs, hQ => by
    simp only [codeOK, Bool.and_eq_true, Bool.or_eq_true] at hok
    have main : ∀ (H : Heap), CSt N ds g0 w0 h0 nx0 env H nx a g w → ∀ (Q : Post) (QC : Exit → Act → World → Prop), regWp cx an ops.toList draw nx ops.toList 0 env H (nx + 8 * ops.toList.length) [] [] (Q .normal) →
        (∀ ex env' H' nx' a' g' w', Q ex env' H' nx' → CSt N ds g0 w0 h0 nx0 env' H' nx' a' g' w' → QC (exOf ex) a' w') → (Code.region id ops draw).wp cx.P QC a w := by
      intro H hs Q QC h hQ
      have := wp_of_regWp (rid := id) (Q := QC) h hok.1 (fun hd => by
        subst hd
        have h2 := hok.2
        simp at h2
        exact ⟨hmo, h2.1, h2.2⟩) hs.le hs.size hs.defs hs.env hs.inv hs.heap hs.acc hs.fresh
        (fun env' H' nx' a' g' w' k1 k2 k3 k4 k5 k6 k7 k8 k9 => hQ .normal _ _ _ _ _ _ k1 ⟨k2, k3, k4, k5, k6, k7, k9, Nat.le_trans hs.le k8⟩)
      simpa using this
    simp only [codeWp] at h
    split at h
    · have := wp_next (cx := cx) (id := id) h hok.1 hs (fun env' H' nx' a' g' w' k1 k2 => hQ .normal _ _ _ _ _ _ k1 k2)
      simpa using this
    split at h
    · rcases h with ⟨m, es, h1, h2⟩ | ⟨m, es, es', h1, h2, h3⟩
      · obtain ⟨es', bs, clk, p1, p2, p3, p4⟩ := hs.pin h1
        exact main _ p4 Q QC (h2 es' bs clk p1 p2 p3) hQ
      · exact main _ (hs.turn h1 h2) Q QC h3 hQ
    split at h
    · obtain ⟨M, m1, m2, m3⟩ := h
      refine main H hs _ QC m2 ?_
      intro ex env' H' nx' a' g' w' hq hs'
      cases ex with
      | normal =>
        obtain ⟨s, s1, s2⟩ := hq
        exact hQ .normal _ _ _ _ _ _ (m3 s) (hs'.forget s1 s2 (m1 s).1 (m1 s).2 hs.le)
      | ret => exact hQ .ret _ _ _ _ _ _ hq hs'
      | exit n => exact hQ (.exit n) _ _ _ _ _ _ hq hs'
    · exact main H hs Q QC h hQ
  | .seq x y, env, H, nx, Q, a, g, w, QC, h, hok, hs, hQ => by
    simp only [codeOK, Bool.and_eq_true] at hok
    refine wp_seq (wp_of_codeWp hmo x env H nx _ a g w _ h hok.1 hs ?_)
    intro ex env' H' nx' a' g' w' hq hs'
    cases ex with
    | normal => exact wp_of_codeWp hmo y env' H' nx' Q a' g' w' QC hq hok.2 hs' hQ
    | ret => exact hQ .ret _ _ _ _ _ _ hq hs'
    | exit n => exact hQ (.exit n) _ _ _ _ _ _ hq hs'
  | .cond c x y, env, H, nx, Q, a, g, w, QC, h, hok, hs, hQ => by
    simp only [codeOK, Bool.and_eq_true] at hok
    simp only [codeWp] at h
    have main : ∀ (Q : Post) (QC : Exit → Act → World → Prop), condWp (evA env c) (codeWp cx an x env H nx Q) (codeWp cx an y env H nx Q) () () →
        (∀ ex env' H' nx' a' g' w', Q ex env' H' nx' → CSt N ds g0 w0 h0 nx0 env' H' nx' a' g' w' → QC (exOf ex) a' w') → (Code.cond c x y).wp cx.P QC a w := by
      intro Q QC h hQ
      unfold condWp at h
      split at h
      · rename_i v hv
        have h1 := evA_ok (g := g) (w := w) (env := env) (a := a) c (fun t _ => hs.env t)
        rw [hv] at h1
        obtain ⟨h2, _⟩ := V1_val h1
        refine wp_cond_split h2 (fun ht => wp_of_codeWp hmo x env H nx Q a g w QC (h.1 ht) hok.1 hs hQ) (fun hf => wp_of_codeWp hmo y env H nx Q a g w QC (h.2 hf) hok.2 hs hQ)
      · exact h.elim
    split at h
    · obtain ⟨M, m1, m2, m3⟩ := h
      refine main _ QC m2 ?_
      intro ex env' H' nx' a' g' w' hq hs'
      cases ex with
      | normal =>
        obtain ⟨s, s1, s2⟩ := hq
        exact hQ .normal _ _ _ _ _ _ (m3 s) (hs'.forget s1 s2 (m1 s).1 (m1 s).2 hs.le)
      | ret => exact hQ .ret _ _ _ _ _ _ hq hs'
      | exit n => exact hQ (.exit n) _ _ _ _ _ _ hq hs'
    · exact main Q QC h hQ
  | .block id x, env, H, nx, Q, a, g, w, QC, h, hok, hs, hQ => by
    simp only [codeOK] at hok
    simp only [codeWp] at h
    split at h
    · obtain ⟨M, m1, m2, m3⟩ := h
      have fin : ∀ env' H' nx' a' g' w', (∃ s, subE (M.E s) env' ∧ subL (M.H s) H') → CSt N ds g0 w0 h0 nx0 env' H' nx' a' g' w' → QC .normal a' w' := by
        rintro env' H' nx' a' g' w' ⟨s, s1, s2⟩ hs'
        exact hQ .normal _ _ _ _ _ _ (m3 s) (hs'.forget s1 s2 (m1 s).1 (m1 s).2 hs.le)
      refine wp_block (wp_of_codeWp hmo x env H nx _ a g w _ m2 hok hs ?_)
      intro ex env' H' nx' a' g' w' hq hs'
      cases ex with
      | normal => exact fin _ _ _ _ _ _ hq hs'
      | ret => exact hQ .ret _ _ _ _ _ _ hq hs'
      | exit n =>
        simp only [kBlock] at hq
        simp only [exOf, Exit.inBlock]
        split
        · rename_i e; rw [if_pos e] at hq; exact fin _ _ _ _ _ _ hq hs'
        · rename_i e; rw [if_neg e] at hq; exact hQ (.exit n) _ _ _ _ _ _ hq hs'
    refine wp_block (wp_of_codeWp hmo x env H nx _ a g w _ h hok hs ?_)
    intro ex env' H' nx' a' g' w' hq hs'
    cases ex with
    | normal => exact hQ .normal _ _ _ _ _ _ hq hs'
    | ret => exact hQ .ret _ _ _ _ _ _ hq hs'
    | exit n =>
      simp only [kBlock] at hq
      simp only [exOf, Exit.inBlock]
      split
      · rename_i e; rw [if_pos e] at hq; exact hQ .normal _ _ _ _ _ _ hq hs'
      · rename_i e; rw [if_neg e] at hq; exact hQ (.exit n) _ _ _ _ _ _ hq hs'
  | .loop x, env, H, nx, Q, a, g, w, QC, h, hok, hs, hQ => by
    simp only [codeOK] at hok
    obtain ⟨I, s0, h1, h2, h3, h4⟩ := h
    refine wp_loop_ghost (fun n a w => ∃ s g, I.μ s = n ∧ CSt N ds g0 w0 h0 nx0 (I.E s) (I.H s) (I.N s) a g w) (I.μ s0) ⟨s0, _, rfl, hs.forget h1 h2 (h3 s0).2.1 (h3 s0).2.2 (Nat.le_trans hs.le (h3 s0).1)⟩ ?_
    rintro n a1 w1 ⟨s, g1, rfl, hs1⟩
    refine wp_of_codeWp hmo x _ _ (I.N s) _ a1 g1 w1 _ (h4 s) hok hs1 ?_
    intro ex env' H' nx' a' g' w' hq hs'
    cases ex with
    | normal =>
      obtain ⟨s', k1, k2, k3⟩ := hq
      exact ⟨_, k1, s', _, rfl, hs'.forget k2 k3 (h3 s').2.1 (h3 s').2.2 (Nat.le_trans hs.le (h3 s').1)⟩
    | ret => exact hQ .ret _ _ _ _ _ _ hq hs'
    | exit n => exact hQ (.exit n) _ _ _ _ _ _ hq hs'
  | .exit n, env, H, nx, Q, a, g, w, QC, h, _, hs, hQ => wp_exit (hQ (.exit n) _ _ _ _ _ _ h hs)
  | .ret, env, H, nx, Q, a, g, w, QC, h, _, hs, hQ => wp_ret (hQ .ret _ _ _ _ _ _ h hs)
  | .label _, env, H, nx, Q, a, g, w, QC, h, _, hs, hQ => wp_label (hQ .normal _ _ _ _ _ _ h hs)
  | .goto _, _, _, _, _, _, _, _, _, h, _, _, _ => h.elim
  | .refuse _, _, _, _, _, _, _, _, _, h, _, _, _ => h.elim
  | .scope x, env, H, nx, Q, a, g, w, QC, h, hok, hs, hQ => by
    simp only [codeOK] at hok
    simp only [codeWp] at h
    refine wp_scope_straight (wp_of_codeWp hmo x env H nx Q a g w _ h hok hs ?_)
    intro ex env' H' nx' a' g' w' hq hs'
    have h2 := hQ ex _ _ _ _ _ _ hq hs'
    cases ex <;> exact h2
  | .rangeFunc .., _, _, _, _, _, _, _, _, h, _, _, _ => h.elim

/-! ### functions -/
def resOne (P : Program) (env : Env) (H : Heap) : ResultVar → Prop × AV
  | .tmp t => (True, env.get t)
  | .cell t T =>
    match env.get t with
    | .ref n 0 [] => match Res.obj? (H.get n) with
      | some a => (tsz P T = some a.csize ∧ tagg P T = some a.isAgg, a)
      | none => (False, .undef)
    | .cref a => (tsz P T = some a.csize ∧ tagg P T = some a.isAgg, a)
    | _ => (False, .undef)

def resAll (P : Program) (env : Env) (H : Heap) : List ResultVar → Prop × List AV
  | [] => (True, [])
  | r :: rs => ((resOne P env H r).1 ∧ (resAll P env H rs).1, (resOne P env H r).2 :: (resAll P env H rs).2)

def resA (P : Program) (env : Env) (H : Heap) (rs : List ResultVar) : AV :=
  match (resAll P env H rs).2 with
  | [a] => a
  | as => .tup as

def argEnv : Nat → List AV → Env
  | _, [] => []
  | i, a :: as => (i, a) :: argEnv (i + 1) as

def allWr (wr : Heap) : Heap → Prop
  | [] => True
  | (n, some r) :: t => (r.wr = true → n ∈ keys wr) ∧ allWr wr t
  | (_, none) :: t => allWr wr t

def wrL : Heap → Prop
  | [] => True
  | (_, some r) :: t => r.wr = true ∧ wrL t
  | (_, none) :: t => wrL t
def subW : Heap → Heap → Prop
  | [], _ => True
  | (n, some r) :: t, H => H.get n = some r ∧ subW t H
  | (_, none) :: t, H => subW t H

def kRet (cx : Cx) (rs : List ResultVar) (av : AV) (wr : Heap) (m : Nat) : Post
  | .exit _, _, _, _ => False
  | _, env, H, _ => (resAll cx.P env H rs).1 ∧ resA cx.P env H rs = av ∧ subW wr H ∧ av.nb m ∧ nbL m wr ∧ wrL wr

theorem argEnv_get (N : Nat) : ∀ (args : List AV) (i x : Nat), (argEnv i args).get x = if i ≤ x then args.getD (x - i) .undef else .undef
  | [], i, x => by simp [argEnv, Env.get]
  | a :: as, i, x => by
    show (if i = x then a else (argEnv (i + 1) as).get x) = _
    rw [argEnv_get N as (i + 1) x]
    by_cases h1 : i = x
    · subst h1; simp
    · by_cases h2 : i ≤ x
      · rw [if_neg h1, if_pos (by omega), if_pos h2]
        rw [show x - i = (x - (i + 1)) + 1 by omega]; simp
      · rw [if_neg h1, if_neg (by omega), if_neg h2]

theorem allWr_mem {wr : Heap} : ∀ {Hc : Heap} {n : Nat} {r : Res}, allWr wr Hc → Hc.get n = some r → r.wr = true → n ∈ keys wr
  | [], _, _, _, h, _ => by simp [Heap.get] at h
  | (k, some s) :: t, n, r, hs, h, hw => by
    obtain ⟨h1, h2⟩ := hs
    simp only [Heap.get] at h
    by_cases e : k = n
    · rw [if_pos e] at h; injection h with h; subst e h; exact h1 hw
    · rw [if_neg e] at h; exact allWr_mem h2 h hw
  | (k, none) :: t, n, r, hs, h, hw => by
    simp only [Heap.get] at h
    by_cases e : k = n
    · rw [if_pos e] at h; cases h
    · rw [if_neg e] at h; exact allWr_mem (by simpa [allWr] using hs) h hw

theorem subW_get : ∀ {wr H : Heap} {n : Nat} {r : Res}, subW wr H → wr.get n = some r → H.get n = some r
  | [], _, _, _, _, h => by simp [Heap.get] at h
  | (k, some s) :: t, H, n, r, hs, h => by
    obtain ⟨h1, h2⟩ := hs
    simp only [Heap.get] at h
    by_cases e : k = n
    · rw [if_pos e] at h; rw [← e, h1]; exact h
    · rw [if_neg e] at h; exact subW_get h2 h
  | (k, none) :: t, H, n, r, hs, h => by
    simp only [Heap.get] at h
    by_cases e : k = n
    · rw [if_pos e] at h; cases h
    · rw [if_neg e] at h; exact subW_get (by simpa [subW] using hs) h

theorem wrL_get : ∀ {wr : Heap} {n : Nat} {r : Res}, wrL wr → wr.get n = some r → r.wr = true
  | [], _, _, _, h => by simp [Heap.get] at h
  | (k, some s) :: t, n, r, hs, h => by
    obtain ⟨h1, h2⟩ := hs
    simp only [Heap.get] at h
    by_cases e : k = n
    · rw [if_pos e] at h; injection h with h; subst h; exact h1
    · rw [if_neg e] at h; exact wrL_get h2 h
  | (k, none) :: t, n, r, hs, h => by
    simp only [Heap.get] at h
    by_cases e : k = n
    · rw [if_pos e] at h; cases h
    · rw [if_neg e] at h; exact wrL_get (by simpa [wrL] using hs) h

def resF (tmps : Array Value) : ResultVar → Sem Value
  | .tmp t => pure (tmps.getD t Go.undef)
  | .cell a t => do loadVar t (← asAddr (tmps.getD a Go.undef))
theorem results_eq (fn : Func) (tmps : Array Value) : results fn tmps = (do
    let vs ← fn.results.mapM (resF tmps)
    pure (if h : vs.size = 1 then vs[0] else .tuple vs)) := by
  unfold results
  have : (fun x => match x with
    | ResultVar.tmp t => (pure (tmps.getD t Go.undef) : Sem Value)
    | ResultVar.cell a t => do loadVar t (← asAddr (tmps.getD a Go.undef))) = resF tmps := by
    funext x; cases x <;> rfl
  first | rfl | rw [← this]; rfl

theorem resOne_run {P : Program} {g : G} {w : World} {env : Env} {H : Heap} {a : Act} (he : ∀ x, EnvAt g w env a.tmps x) (hH : HeapOK g w H) (r : ResultVar) (h : (resOne P env H r).1) :
    ∃ v, (resF a.tmps r).run P w = .ok v w ∧ V1 g w (resOne P env H r).2 v := by
  cases r with
  | tmp t => exact ⟨_, rfl, (he t).eval⟩
  | cell t T =>
    have h1 : V1 g w (env.get t) (a.tmps.getD t Go.undef) := (he t).eval
    simp only [resOne] at h ⊢
    split at h
    · rename_i n hn
      rw [hn] at h1
      split at h
      · rename_i x hx
        simp only [hx]
        obtain ⟨b, y, hv, hu, hl⟩ := V1_ref h1
        obtain ⟨_, b', y', arr, T', hl', hb, hr, _⟩ := objRes hx (fun r hr => hH.ok n r hr)
        rw [hl] at hl'; simp at hl'; obtain ⟨rfl, rfl⟩ := hl'
        obtain ⟨v, k1, k2⟩ := loadVar_row hr (RowAt.of_heap hb) h.1 h.2
        exact ⟨v, by simp [resF, hv, asAddr, k1], .of_V0 k2⟩
      · exact h.elim
    · rename_i x hn
      rw [hn] at h1
      simp only [hn]
      obtain ⟨b, q, cs, hv, hr, hrow, _⟩ := V1_cref h1
      obtain ⟨v, k1, k2⟩ := loadVar_row hr hrow h.1 h.2
      exact ⟨v, by simp [resF, hv, asAddr, k1], .of_V0 k2⟩
    · exact h.elim

theorem resAll_run {P : Program} {g : G} {w : World} {env : Env} {H : Heap} {a : Act} (he : ∀ x, EnvAt g w env a.tmps x) (hH : HeapOK g w H) : ∀ (rs : List ResultVar), (resAll P env H rs).1 →
    ∃ vs : List Value, (rs.mapM (resF a.tmps)).run P w = .ok vs w ∧ vs.length = rs.length ∧ (resAll P env H rs).2.length = rs.length ∧
      ∀ (i : Nat) (x : AV) (y : Value), (resAll P env H rs).2[i]? = some x → vs[i]? = some y → V1 g w x y
  | [], _ => ⟨[], by simp, rfl, rfl, fun i x y hx => by simp [resAll] at hx⟩
  | r :: rs, h => by
    obtain ⟨h1, h2⟩ := h
    obtain ⟨v, k1, k2⟩ := resOne_run he hH r h1
    obtain ⟨vs, m1, m2, m3, m4⟩ := resAll_run he hH rs h2
    refine ⟨v :: vs, ?_, by simp [m2], by simp [resAll, m3], fun i x y hx hy => ?_⟩
    · rw [List.mapM_cons, Sem.run_bind, k1, Result.andThen_ok, Sem.run_bind, m1, Result.andThen_ok, Sem.run_pure]
    · cases i with
      | zero => simp [resAll] at hx hy; subst hx hy; exact k2
      | succ i => exact m4 i x y (by simpa [resAll] using hx) (by simpa using hy)

theorem resA_run {P : Program} {g : G} {w : World} {env : Env} {H : Heap} {a : Act} {fn : Func} (he : ∀ x, EnvAt g w env a.tmps x) (hH : HeapOK g w H) (h : (resAll P env H fn.results.toList).1)
    (hg : fn.results.size ≠ 1 → ∀ x ∈ (resAll P env H fn.results.toList).2, x = .undef ∨ x.good = true) :
    ∃ v, (results fn a.tmps).run P w = .ok v w ∧ V1 g w (resA P env H fn.results.toList) v := by
  obtain ⟨vs, m1, m2, m3, m4⟩ := resAll_run he hH fn.results.toList h
  have hrun : (fn.results.mapM (resF a.tmps)).run P w = .ok vs.toArray w := by
    rw [Array.mapM_eq_mapM_toList, Sem.run_map, m1, Result.andThen_ok]
  rw [results_eq, Sem.run_bind, hrun, Result.andThen_ok, Sem.run_pure]
  refine ⟨_, rfl, ?_⟩
  unfold resA
  split
  · rename_i x hx
    rw [hx] at m3 m4
    have hl : vs.length = 1 := by
      have m3' : (1 : Nat) = fn.results.toList.length := m3
      omega
    match vs, hl with
    | [v], _ => exact m4 0 x v rfl rfl
  · rename_i hne
    have hl : vs.toArray.size ≠ 1 := by
      intro e
      have : (resAll P env H fn.results.toList).2.length = 1 := by simp at e; omega
      match hl2 : (resAll P env H fn.results.toList).2, this with
      | [x], _ => exact hne x hl2
    rw [dif_neg hl]
    refine ⟨vs.toArray, rfl, by simp; omega, fun i x y hx hy => ?_⟩
    have := m4 i x y hx (by simpa using hy)
    rcases hg (by simp at hl; simp at m2; omega) x (List.mem_of_getElem? hx) with h1 | h1
    · exact .inl h1
    · exact .inr (this.toV0 h1)

theorem FnSpec.of_code {cx : Cx} {an : An} {f : Nat} {fn : Func} {c : Code} {rs : List ResultVar} {nx : Nat} {args : List AV} {Hc : Heap} {av : AV} {wr : Heap} {k : Nat} (hmo : cx.P.follows .mixedOrders = true)
    (hf : cx.P.funcs[f]? = some fn) (hb : fn.body = some c) (hrs : fn.results.toList = rs) (hname : (fn.name == "runtime.NumGoroutine") = false) (hok : codeOK fn.ntmps c = true) (hn : args.length ≤ fn.ntmps)
    (hgood : fn.results.size = 1 ∨ ∃ as, av = .tup as ∧ ∀ x ∈ as, x = .undef ∨ x.good = true) (hwr : allWr wr Hc)
    (h : codeWp cx an c (argEnv 0 args) Hc nx (kRet cx rs av wr (nx + k))) : FnSpec cx.P f nx args Hc av wr k := by
  subst hrs
  refine ⟨⟨fn, hf, hname, by rw [hb]; rfl⟩, fun vs g w hargs hi hH hfr => ?_⟩
  refine calls_of_wp hf hb ?_
  have hal : args.length = vs.size := by have := hargs.1; simpa using this
  refine wp_of_codeWp hmo (N := fn.ntmps) (ds := []) (g0 := g) (w0 := w) (h0 := Hc.get) (nx0 := nx) c _ Hc nx _ _ g w _ h hok ⟨?_, rfl, fun x => ?_, hi, hH, Acc.refl g w _ nx hfr, hfr, Nat.le_refl _⟩ ?_
  · simp; omega
  · unfold EnvAt
    rw [show (argEnv 0 args).get x = _ from argEnv_get 0 args 0 x, if_pos (Nat.zero_le _), Nat.sub_zero]
    rcases Nat.lt_or_ge x args.length with hx | hx
    · have hx' : x < vs.toList.length := by simp; omega
      refine .inr ⟨vs.toList[x], ?_, ?_⟩
      · simp only [Array.getElem?_append]
        rw [if_pos (by omega)]
        rw [← Array.getElem?_toList, List.getElem?_eq_getElem hx']
      · exact hargs.2 x _ _ (by rw [List.getD_eq_getElem?_getD, List.getElem?_eq_getElem hx]; rfl) (List.getElem?_eq_getElem hx')
    · left; rw [List.getD_eq_getElem?_getD, List.getElem?_eq_none hx]; rfl
  · intro ex env' H' nx' a' g' w' hq hs'
    have fin : (resAll cx.P env' H' fn.results.toList).1 ∧ resA cx.P env' H' fn.results.toList = av ∧ subW wr H' ∧ av.nb (nx + k) ∧ nbL (nx + k) wr ∧ wrL wr →
        a'.defers = [] ∧ ∃ v, (results fn a'.tmps).run cx.P w' = .ok v w' ∧ ∃ v' g'', Ending.returned v = .returned v' ∧ V1 g'' w' av v' ∧ StepPost g w Hc wr ((List.range k).map (nx + ·)) g'' w' := by
      rintro ⟨q1, q2, q3, q4, q5, q6⟩
      have hgd : fn.results.size ≠ 1 → ∀ x ∈ (resAll cx.P env' H' fn.results.toList).2, x = .undef ∨ x.good = true := by
        intro h1 x hx
        rcases hgood with h2 | ⟨as, h2, h3⟩
        · exact absurd h2 h1
        · unfold resA at q2
          split at q2
          · rename_i y hy
            have hln : ∀ l : List ResultVar, (resAll cx.P env' H' l).2.length = l.length := by
              intro l; induction l with
              | nil => rfl
              | cons r l ih => simp [resAll, ih]
            have := hln fn.results.toList
            rw [hy] at this
            simp at this
            exact absurd this.symm h1
          · rw [h2] at q2
            injection q2 with q2
            rw [q2] at hx
            exact h3 x hx
      obtain ⟨v, r1, r2⟩ := resA_run hs'.env hs'.heap q1 hgd
      rw [q2] at r2
      refine ⟨hs'.defs, v, r1, v, g'.cut (nx + k), rfl, r2.cut q4, ?_⟩
      have hlt : ∀ n, g.use n → n < nx + k := fun n hn => by
        rcases Nat.lt_or_ge n nx with h' | h'
        · omega
        · exact absurd hn (hfr n h')
      refine ⟨(hs'.acc.delta.cut hlt).mono (fun b _ ⟨n, r, d1, d2, d3⟩ => ⟨n, r, allWr_mem hwr d1 d2, d1, d3⟩) (fun n _ ⟨r, d1, d2⟩ => allWr_mem hwr d1 d2) (fun n ⟨d1, d2⟩ => List.mem_map.2 ⟨n - nx, List.mem_range.2 (by omega), by show nx + (n - nx) = n; omega⟩),
        fun n r hr hk => ⟨?_, fun b hb => ?_⟩, fun n n' r r' b hk hk' hr hr' hb hb' => ?_⟩
      · obtain ⟨b1, b2⟩ := nbL_get q5 hr
        exact (hs'.heap.ok n r (subW_get q3 hr)).cut b1 b2
      · rw [blkOf_cut] at hb
        rcases hs'.acc.own n r b (subW_get q3 hr) (wrL_get q6 hr) hb with ⟨n', r', d1, d2, d3⟩ | d
        · exact .inl ⟨n', r', allWr_mem hwr d1 d2, d1, d3⟩
        · exact .inr d
      · rw [blkOf_cut] at hb hb'
        exact hs'.heap.disj n n' r r' b (subW_get q3 hr) (subW_get q3 hr') hb hb'
    cases ex with
    | normal => exact fin hq
    | ret => exact fin hq
    | exit n => exact hq.elim

end Go.AL

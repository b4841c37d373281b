/-
  The layer AL, part 13: code and functions.
-/
import Derived.Test.YtnmnfhicgopdnaaGreatAL12
import Derived.Deep.LoopGhost
import Derived.KernelRfl
set_option linter.unusedSimpArgs false
set_option linter.unusedVariables false
namespace Go.AL
open Go

/-! ### names below a bound -/
mutual
def AV.nb (m : Nat) : AV → Prop
  | .undef | .val _ => True
  | .sl _ L tok => AV.nbs m L ∧ (tok < 2 ∨ tok - 2 < m)
  | .ref n _ _ => n < m
  | .cref v => AV.nb m v
  | .aref n _ _ _ _ _ => n < m
  | .map n => n < m
  | .clos _ caps => AV.nbs m caps
  | .agg _ ps | .vec _ ps => AV.nbs m ps
  | .tup vs => AV.nbs m vs
def AV.nbs (m : Nat) : List AV → Prop
  | [] => True
  | a :: as => AV.nb m a ∧ AV.nbs m as
end

theorem AV.nbs_mem {m : Nat} : ∀ {l : List AV} {a : AV}, AV.nbs m l → a ∈ l → AV.nb m a
  | x :: l, a, h, ha => by
    rw [AV.nbs] at h
    rcases List.mem_cons.1 ha with rfl | ha
    · exact h.1
    · exact AV.nbs_mem h.2 ha
theorem AV.nbs_of {m : Nat} : ∀ {l : List AV}, (∀ a ∈ l, AV.nb m a) → AV.nbs m l
  | [], _ => by rw [AV.nbs]; trivial
  | x :: l, h => by rw [AV.nbs]; exact ⟨h x List.mem_cons_self, AV.nbs_of fun a ha => h a (List.mem_cons_of_mem _ ha)⟩

def Sh.nb (m : Nat) : Sh → Prop
  | .one a _ => a.nb m
  | .seq as _ | .useq _ as _ | .mem _ as _ _ => AV.nbs m as

def G.cut (g : G) (m : Nat) : G := { g with use := fun n => g.use n ∧ n < m }

theorem TokOK.cut {g : G} {m tok blk len c endc capc : Nat} (h : TokOK g tok blk len c endc capc) (hm : tok < 2 ∨ tok - 2 < m) : TokOK (g.cut m) tok blk len c endc capc := by
  match tok, h with
  | 0, _ => trivial
  | 1, h => exact h
  | n + 2, h =>
    rcases h with h | ⟨h1, h2, h3⟩
    · exact .inl h
    · exact .inr ⟨⟨h1, by omega⟩, h2, h3⟩

theorem R.cut {g : G} {w : World} {m : Nat} {s : Sh} (h : R g w s) (hm : s.nb m) : R (g.cut m) w s := by
  induction h with
  | val h => exact .val h
  | slNil => exact .slNil
  | sl hc _ ht ih => simp only [Sh.nb, AV.nb] at hm ih; exact .sl hc (ih hm.1) (ht.cut hm.2)
  | ref h1 h2 => simp only [Sh.nb, AV.nb] at hm; exact .ref ⟨h1, hm⟩ h2
  | cref _ h2 h3 ih => simp only [Sh.nb, AV.nb] at hm ih; exact .cref (ih hm) h2 h3
  | aref h1 h2 h3 => simp only [Sh.nb, AV.nb] at hm; exact .aref ⟨h1, hm⟩ h2 h3
  | map h1 h2 => simp only [Sh.nb, AV.nb] at hm; exact .map ⟨h1, hm⟩ h2
  | clos _ h2 ih => simp only [Sh.nb, AV.nb] at hm ih; exact .clos (ih hm) h2
  | agg _ h2 ih => simp only [Sh.nb, AV.nb] at hm ih; exact .agg (ih hm) h2
  | vec _ ih => simp only [Sh.nb, AV.nb] at hm ih; exact .vec (ih hm)
  | seqNil => exact .seqNil
  | seqCons _ _ ih1 ih2 => simp only [Sh.nb, AV.nbs] at hm ih1 ih2; exact .seqCons (ih1 hm.1) (ih2 hm.2)
  | useqNil => exact .useqNil
  | useqCons _ h2 _ ih1 ih2 => simp only [Sh.nb, AV.nbs] at hm ih1 ih2; exact .useqCons (ih1 hm.1) h2 (ih2 hm.2)
  | memNil => exact .memNil
  | memCons _ h2 h3 h4 _ ih1 ih2 => simp only [Sh.nb, AV.nbs] at hm ih1 ih2; exact .memCons (ih1 hm.1) h2 h3 h4 (ih2 hm.2)

theorem V0.cut {g : G} {w : World} {m : Nat} {a : AV} {v : Value} (h : V0 g w a v) (hm : a.nb m) : V0 (g.cut m) w a v := ⟨h.1.cut hm, h.2⟩
theorem V1.cut {g : G} {w : World} {m : Nat} {a : AV} {v : Value} (h : V1 g w a v) (hm : a.nb m) : V1 (g.cut m) w a v := by
  cases a with
  | undef => trivial
  | tup as =>
    obtain ⟨ws, h1, h2, h3⟩ := h
    rw [AV.nb] at hm
    exact ⟨ws, h1, h2, fun i x y hx hy => (h3 i x y hx hy).imp id (fun h => h.cut (AV.nbs_mem hm (List.mem_of_getElem? hx)))⟩
  | _ => exact V0.cut h hm

def Res.nb (m : Nat) : Res → Prop
  | .obj a | .robj a => a.nb m
  | .tail _ => True
  | .mp es | .rmp es => AV.nbs m (es.map (·.1)) ∧ AV.nbs m (es.map (·.2))
theorem MapR.cut {g : G} {w : World} {m : Nat} {es : List (AV × AV)} {L : List MapEntry} (h : MapR g w es L) (h1 : AV.nbs m (es.map (·.1))) (h2 : AV.nbs m (es.map (·.2))) : MapR (g.cut m) w es L := by
  induction h with
  | nil => exact .nil
  | cons k1 k2 _ ih =>
    simp only [List.map_cons, AV.nbs] at h1 h2
    exact .cons (k1.cut h1.1) (k2.cut h2.1) (ih h1.2 h2.2)

theorem resOK.cut {g : G} {w : World} {m n : Nat} {r : Res} (h : resOK g w n r) (hn : n < m) (hm : r.nb m) : resOK (g.cut m) w n r := by
  cases r with
  | obj a | robj a =>
    obtain ⟨h0, b, x, arr, T, h1, h2, h3, h4⟩ := h
    exact ⟨⟨h0, hn⟩, b, x, arr, T, h1, h2, h3.cut hm, h4⟩
  | mp a | rmp a =>
    obtain ⟨h0, b, x, arr, T, h1, h2, h3, h4⟩ := h
    exact ⟨⟨h0, hn⟩, b, x, arr, T, h1, h2, h3.cut hm.1 hm.2, h4⟩
  | tail e =>
    obtain ⟨h0, h1, h2⟩ := h
    exact ⟨⟨h0, hn⟩, h1, h2⟩

theorem Delta.cut {g g' : G} {w w' : World} {D T N : Nat → Prop} {m : Nat} (h : Delta g w g' w' D T N) (hm : ∀ n, g.use n → n < m) : Delta g w (g'.cut m) w' D T (fun n => N n ∧ n < m) :=
  ⟨⟨fun n hn => ⟨h.ext.use n hn, hm n hn⟩, h.ext.bd, h.ext.loc, h.ext.imm, h.ext.cell⟩, h.os, h.tape, h.output, h.size, h.keep,
   fun n hn => (h.names n hn.1).imp id (fun h' => ⟨h', hn.2⟩), h.bdk, h.inv⟩

/-! ### code -/
inductive Ex where
  | normal
  | ret
  | exit (n : Nat)

abbrev Post := Ex → Env → Heap → Nat → Prop

def subE : Env → Env → Prop
  | [], _ => True
  | (t, a) :: r, env => env.get t = a ∧ subE r env
def subL : Heap → Heap → Prop
  | [], _ => True
  | (n, some r) :: t, H => H.get n = some r ∧ subL t H
  | (_, none) :: _, _ => False
def nbE (m : Nat) : Env → Prop
  | [] => True
  | (_, a) :: r => a.nb m ∧ nbE m r
def nbL (m : Nat) : Heap → Prop
  | [] => True
  | (n, some r) :: t => n < m ∧ r.nb m ∧ nbL m t
  | (_, none) :: t => nbL m t

def kSeq (wp : Env → Heap → Nat → Prop) (Q : Post) : Post
  | .normal, env, H, nx => wp env H nx
  | ex, env, H, nx => Q ex env H nx
def kBlock (id : Nat) (Q : Post) : Post
  | .exit n, env, H, nx => if n = id then Q .normal env H nx else Q (.exit n) env H nx
  | ex, env, H, nx => Q ex env H nx

/-- A loop: what holds at each round's head, told by a state s; a measure. -/
structure Inv_ where
  σ : Type
  E : σ → Env
  H : σ → Heap
  μ : σ → Nat

def kLoop (I : Inv_) (s : I.σ) (Q : Post) : Post
  | .normal, env, H, _ => ∃ s', I.μ s' < I.μ s ∧ subE (I.E s') env ∧ subL (I.H s') H
  | ex, env, H, nx => Q ex env H nx

/-- What holds at a meeting of ways. -/
structure Mid where
  σ : Type
  E : σ → Env
  H : σ → Heap
def kMid (M : Mid) (Q : Post) : Post
  | .normal, env, H, _ => ∃ s, subE (M.E s) env ∧ subL (M.H s) H
  | ex, env, H, nx => Q ex env H nx
/-- 'a' under what holds at the meeting, then the way on, once. -/
def midK (a : Post → Prop) (nx : Nat) (Q : Post) (_ : Lock a) : Prop :=
  ∃ M : Mid, (∀ s, nbE nx (M.E s) ∧ nbL nx (M.H s)) ∧ a (kMid M Q) ∧ ∀ s, Q .normal (M.E s) (M.H s) nx

def condWp (v : AV) (X Y : Prop) (_ : Lock X) (_ : Lock Y) : Prop :=
  match v with
  | .val (.bool b) => brB b true X Y () ()
  | _ => False

/-- Do the ways of a branch meet behind it by what is told there? -/
def joins (an : An) : Operand → Bool
  | .tmp t => an.jn.contains t
  | _ => false
def codeWp (cx : Cx) (an : An) : Code → Env → Heap → Nat → Post → Prop
  | .skip, env, H, nx, Q => Q .normal env H nx
  | .region id ops draw, env, H, nx, Q =>
    if an.rj.contains id = true then midK (fun Q => regWp cx an ops.toList draw nx ops.toList 0 env H (nx + 8 * ops.toList.length) [] [] (Q .normal)) nx Q ()
    else regWp cx an ops.toList draw nx ops.toList 0 env H (nx + 8 * ops.toList.length) [] [] (Q .normal)
  | .seq a b, env, H, nx, Q => codeWp cx an a env H nx (kSeq (fun env H nx => codeWp cx an b env H nx Q) Q)
  | .cond c a b, env, H, nx, Q =>
    if joins an c = true then midK (fun Q => condWp (evA env c) (codeWp cx an a env H nx Q) (codeWp cx an b env H nx Q) () ()) nx Q ()
    else condWp (evA env c) (codeWp cx an a env H nx Q) (codeWp cx an b env H nx Q) () ()
  | .block id b, env, H, nx, Q => if an.cut.contains id = true then midK (fun Q => codeWp cx an b env H nx (kBlock id Q)) nx Q () else codeWp cx an b env H nx (kBlock id Q)
  | .loop b, env, H, nx, Q => ∃ (I : Inv_) (s0 : I.σ), subE (I.E s0) env ∧ subL (I.H s0) H ∧ (∀ s, nbE nx (I.E s) ∧ nbL nx (I.H s)) ∧ ∀ s, codeWp cx an b (I.E s) (I.H s) nx (kLoop I s Q)
  | .exit n, env, H, nx, Q => Q (.exit n) env H nx
  | .ret, env, H, nx, Q => Q .ret env H nx
  | _, _, _, _, _ => False

def codeOK (N : Nat) : Code → Bool
  | .region _ ops draw => dstsOK N ops.toList && (!draw || (tmpsOK ops.toList && backOK ops.toList))
  | .seq a b => codeOK N a && codeOK N b
  | .cond _ a b => codeOK N a && codeOK N b
  | .block _ b => codeOK N b
  | .loop b => codeOK N b
  | _ => true

def exOf : Ex → Exit
  | .normal => .normal
  | .ret => .ret
  | .exit n => .exit n

structure CSt (N : Nat) (ds : List Deferred) (g0 : G) (w0 : World) (h0 : Nat → Option Res) (nx0 : Nat) (env : Env) (H : Heap) (nx : Nat) (a : Act) (g : G) (w : World) : Prop where
  size : a.tmps.size = N
  defs : a.defers = ds
  env : ∀ x, EnvAt g w env a.tmps x
  inv : Inv g w
  heap : HeapOK g w H
  acc : Acc g0 w0 h0 nx0 g w H.get
  fresh : ∀ m, nx ≤ m → ¬ g.use m
  le : nx0 ≤ nx

theorem subE_get {E env : Env} (h : subE E env) (x : Nat) : E.get x = .undef ∨ E.get x = env.get x := by
  induction E with
  | nil => exact .inl rfl
  | cons p r ih =>
    obtain ⟨t, a⟩ := p
    obtain ⟨h1, h2⟩ := h
    show (if t = x then a else Env.get r x) = .undef ∨ (if t = x then a else Env.get r x) = env.get x
    by_cases e : t = x
    · rw [if_pos e]; subst e; exact .inr h1.symm
    · rw [if_neg e]; exact ih h2

theorem subL_get : ∀ {E H : Heap} {n : Nat} {r : Res}, subL E H → E.get n = some r → H.get n = some r
  | [], _, _, _, _, h => by simp [Heap.get] at h
  | (k, some s) :: t, H, n, r, hs, h => by
    obtain ⟨h1, h2⟩ := hs
    simp only [Heap.get] at h
    by_cases e : k = n
    · rw [if_pos e] at h; rw [← e, h1]; exact h
    · rw [if_neg e] at h; exact subL_get h2 h
  | (_, none) :: _, _, _, _, hs, _ => hs.elim

theorem nbE_get {m : Nat} {E : Env} (h : nbE m E) (x : Nat) : (E.get x).nb m := by
  induction E with
  | nil => show AV.nb m .undef; rw [AV.nb]; trivial
  | cons p r ih =>
    obtain ⟨t, a⟩ := p
    obtain ⟨h1, h2⟩ := h
    show AV.nb m (if t = x then a else Env.get r x)
    by_cases e : t = x
    · rw [if_pos e]; exact h1
    · rw [if_neg e]; exact ih h2

theorem nbL_get {m : Nat} : ∀ {E : Heap} {n : Nat} {r : Res}, nbL m E → E.get n = some r → n < m ∧ r.nb m
  | [], _, _, _, h => by simp [Heap.get] at h
  | (k, some s) :: t, n, r, hs, h => by
    obtain ⟨h1, h2, h3⟩ := hs
    simp only [Heap.get] at h
    by_cases e : k = n
    · rw [if_pos e] at h; injection h with h; subst e h; exact ⟨h1, h2⟩
    · rw [if_neg e] at h; exact nbL_get h3 h
  | (k, none) :: t, n, r, hs, h => by
    simp only [Heap.get] at h
    by_cases e : k = n
    · rw [if_pos e] at h; cases h
    · rw [if_neg e] at h; exact nbL_get (by simpa [nbL] using hs) h

theorem blkOf_cut {g : G} {m n : Nat} {r : Res} : blkOf (g.cut m) n r = blkOf g n r := by cases r <;> rfl

/-- To forget: at a round's head only what is told is kept, and the names from nx on are free again. -/
theorem CSt.forget {N : Nat} {ds : List Deferred} {g0 : G} {w0 : World} {h0 : Nat → Option Res} {nx0 : Nat} {env E : Env} {H L : Heap} {nx nx' : Nat} {a : Act} {g : G} {w : World} (h : CSt N ds g0 w0 h0 nx0 env H nx' a g w)
    (hE : subE E env) (hL : subL L H) (h1 : nbE nx E) (h2 : nbL nx L) (hx : nx0 ≤ nx) : CSt N ds g0 w0 h0 nx0 E L nx a (g.cut nx) w := by
  refine ⟨h.size, h.defs, fun x => ?_, h.inv, ⟨fun n r hr => ?_, fun n n' r r' b hr hr' hb hb' => ?_⟩, ⟨(h.acc.delta.cut (fun n hn => ?_)).mono (fun _ _ h => h) (fun _ _ h => h) (fun _ h => h.1), fun n r b hr hw hb => ?_, fun n r hr hw => ?_, h.acc.fresh0⟩, fun m hm hu => by have := hu.2; omega, hx⟩
  · rcases subE_get hE x with he | he
    · exact .inl he
    · rcases h.env x with hu | ⟨v, k1, k2⟩
      · exact .inl (he.trans hu)
      · exact .inr ⟨v, k1, by have := nbE_get h1 x; rw [he] at this ⊢; exact k2.cut this⟩
  · obtain ⟨k1, k2⟩ := nbL_get h2 hr
    exact (h.heap.ok n r (subL_get hL hr)).cut k1 k2
  · rw [blkOf_cut] at hb hb'
    exact h.heap.disj n n' r r' b (subL_get hL hr) (subL_get hL hr') hb hb'
  · rcases Nat.lt_or_ge n nx with h' | h'
    · exact h'
    · exact absurd hn (h.acc.fresh0 n (Nat.le_trans hx h'))
  · rw [blkOf_cut] at hb
    exact h.acc.own n r b (subL_get hL hr) hw hb
  · exact h.acc.nam n r (subL_get hL hr) hw

theorem wp_of_codeWp {cx : Cx} {an : An} (hmo : cx.P.follows .mixedOrders = true) {N : Nat} {ds : List Deferred} {g0 : G} {w0 : World} {h0 : Nat → Option Res} {nx0 : Nat} : ∀ (c : Code) (env : Env) (H : Heap) (nx : Nat) (Q : Post) (a : Act) (g : G) (w : World) (QC : Exit → Act → World → Prop),
    codeWp cx an c env H nx Q → codeOK N c = true → CSt N ds g0 w0 h0 nx0 env H nx a g w →
    (∀ ex env' H' nx' a' g' w', Q ex env' H' nx' → CSt N ds g0 w0 h0 nx0 env' H' nx' a' g' w' → QC (exOf ex) a' w') → c.wp cx.P QC a w
  | .skip, env, H, nx, Q, a, g, w, QC, h, _, hs, hQ => wp_skip (hQ .normal _ _ _ _ _ _ h hs)
  | .region id ops draw, env, H, nx, Q, a, g, w, QC, h, hok, hs, hQ => by
    simp only [codeOK, Bool.and_eq_true, Bool.or_eq_true] at hok
    have main : ∀ (Q : Post) (QC : Exit → Act → World → Prop), regWp cx an ops.toList draw nx ops.toList 0 env H (nx + 8 * ops.toList.length) [] [] (Q .normal) →
        (∀ ex env' H' nx' a' g' w', Q ex env' H' nx' → CSt N ds g0 w0 h0 nx0 env' H' nx' a' g' w' → QC (exOf ex) a' w') → (Code.region id ops draw).wp cx.P QC a w := by
      intro Q QC h hQ
      have := wp_of_regWp (rid := id) (Q := QC) h hok.1 (fun hd => by
        subst hd
        have h2 := hok.2
        simp at h2
        exact ⟨hmo, h2.1, h2.2⟩) hs.le hs.size hs.defs hs.env hs.inv hs.heap hs.acc hs.fresh
        (fun env' H' nx' a' g' w' k1 k2 k3 k4 k5 k6 k7 k8 k9 => hQ .normal _ _ _ _ _ _ k1 ⟨k2, k3, k4, k5, k6, k7, k9, Nat.le_trans hs.le k8⟩)
      simpa using this
    simp only [codeWp] at h
    split at h
    · obtain ⟨M, m1, m2, m3⟩ := h
      refine main _ QC m2 ?_
      intro ex env' H' nx' a' g' w' hq hs'
      cases ex with
      | normal =>
        obtain ⟨s, s1, s2⟩ := hq
        exact hQ .normal _ _ _ _ _ _ (m3 s) (hs'.forget s1 s2 (m1 s).1 (m1 s).2 hs.le)
      | ret => exact hQ .ret _ _ _ _ _ _ hq hs'
      | exit n => exact hQ (.exit n) _ _ _ _ _ _ hq hs'
    · exact main Q QC h hQ
  | .seq x y, env, H, nx, Q, a, g, w, QC, h, hok, hs, hQ => by
    simp only [codeOK, Bool.and_eq_true] at hok
    refine wp_seq (wp_of_codeWp hmo x env H nx _ a g w _ h hok.1 hs ?_)
    intro ex env' H' nx' a' g' w' hq hs'
    cases ex with
    | normal => exact wp_of_codeWp hmo y env' H' nx' Q a' g' w' QC hq hok.2 hs' hQ
    | ret => exact hQ .ret _ _ _ _ _ _ hq hs'
    | exit n => exact hQ (.exit n) _ _ _ _ _ _ hq hs'
  | .cond c x y, env, H, nx, Q, a, g, w, QC, h, hok, hs, hQ => by
    simp only [codeOK, Bool.and_eq_true] at hok
    simp only [codeWp] at h
    have main : ∀ (Q : Post) (QC : Exit → Act → World → Prop), condWp (evA env c) (codeWp cx an x env H nx Q) (codeWp cx an y env H nx Q) () () →
        (∀ ex env' H' nx' a' g' w', Q ex env' H' nx' → CSt N ds g0 w0 h0 nx0 env' H' nx' a' g' w' → QC (exOf ex) a' w') → (Code.cond c x y).wp cx.P QC a w := by
      intro Q QC h hQ
      unfold condWp at h
      split at h
      · rename_i v hv
        have h1 := evA_ok (g := g) (w := w) (env := env) (a := a) c (fun t _ => hs.env t)
        rw [hv] at h1
        obtain ⟨h2, _⟩ := V1_val h1
        refine wp_cond_split h2 (fun ht => wp_of_codeWp hmo x env H nx Q a g w QC (h.1 ht) hok.1 hs hQ) (fun hf => wp_of_codeWp hmo y env H nx Q a g w QC (h.2 hf) hok.2 hs hQ)
      · exact h.elim
    split at h
    · obtain ⟨M, m1, m2, m3⟩ := h
      refine main _ QC m2 ?_
      intro ex env' H' nx' a' g' w' hq hs'
      cases ex with
      | normal =>
        obtain ⟨s, s1, s2⟩ := hq
        exact hQ .normal _ _ _ _ _ _ (m3 s) (hs'.forget s1 s2 (m1 s).1 (m1 s).2 hs.le)
      | ret => exact hQ .ret _ _ _ _ _ _ hq hs'
      | exit n => exact hQ (.exit n) _ _ _ _ _ _ hq hs'
    · exact main Q QC h hQ
  | .block id x, env, H, nx, Q, a, g, w, QC, h, hok, hs, hQ => by
    simp only [codeOK] at hok
    simp only [codeWp] at h
    split at h
    · obtain ⟨M, m1, m2, m3⟩ := h
      have fin : ∀ env' H' nx' a' g' w', (∃ s, subE (M.E s) env' ∧ subL (M.H s) H') → CSt N ds g0 w0 h0 nx0 env' H' nx' a' g' w' → QC .normal a' w' := by
        rintro env' H' nx' a' g' w' ⟨s, s1, s2⟩ hs'
        exact hQ .normal _ _ _ _ _ _ (m3 s) (hs'.forget s1 s2 (m1 s).1 (m1 s).2 hs.le)
      refine wp_block (wp_of_codeWp hmo x env H nx _ a g w _ m2 hok hs ?_)
      intro ex env' H' nx' a' g' w' hq hs'
      cases ex with
      | normal => exact fin _ _ _ _ _ _ hq hs'
      | ret => exact hQ .ret _ _ _ _ _ _ hq hs'
      | exit n =>
        simp only [kBlock] at hq
        simp only [exOf, Exit.inBlock]
        split
        · rename_i e; rw [if_pos e] at hq; exact fin _ _ _ _ _ _ hq hs'
        · rename_i e; rw [if_neg e] at hq; exact hQ (.exit n) _ _ _ _ _ _ hq hs'
    refine wp_block (wp_of_codeWp hmo x env H nx _ a g w _ h hok hs ?_)
    intro ex env' H' nx' a' g' w' hq hs'
    cases ex with
    | normal => exact hQ .normal _ _ _ _ _ _ hq hs'
    | ret => exact hQ .ret _ _ _ _ _ _ hq hs'
    | exit n =>
      simp only [kBlock] at hq
      simp only [exOf, Exit.inBlock]
      split
      · rename_i e; rw [if_pos e] at hq; exact hQ .normal _ _ _ _ _ _ hq hs'
      · rename_i e; rw [if_neg e] at hq; exact hQ (.exit n) _ _ _ _ _ _ hq hs'
  | .loop x, env, H, nx, Q, a, g, w, QC, h, hok, hs, hQ => by
    simp only [codeOK] at hok
    obtain ⟨I, s0, h1, h2, h3, h4⟩ := h
    refine wp_loop_ghost (fun n a w => ∃ s g, I.μ s = n ∧ CSt N ds g0 w0 h0 nx0 (I.E s) (I.H s) nx a g w) (I.μ s0) ⟨s0, _, rfl, hs.forget h1 h2 (h3 s0).1 (h3 s0).2 hs.le⟩ ?_
    rintro n a1 w1 ⟨s, g1, rfl, hs1⟩
    refine wp_of_codeWp hmo x _ _ nx _ a1 g1 w1 _ (h4 s) hok hs1 ?_
    intro ex env' H' nx' a' g' w' hq hs'
    cases ex with
    | normal =>
      obtain ⟨s', k1, k2, k3⟩ := hq
      exact ⟨_, k1, s', _, rfl, hs'.forget k2 k3 (h3 s').1 (h3 s').2 hs.le⟩
    | ret => exact hQ .ret _ _ _ _ _ _ hq hs'
    | exit n => exact hQ (.exit n) _ _ _ _ _ _ hq hs'
  | .exit n, env, H, nx, Q, a, g, w, QC, h, _, hs, hQ => wp_exit (hQ (.exit n) _ _ _ _ _ _ h hs)
  | .ret, env, H, nx, Q, a, g, w, QC, h, _, hs, hQ => wp_ret (hQ .ret _ _ _ _ _ _ h hs)
  | .label _, _, _, _, _, _, _, _, _, h, _, _, _ => h.elim
  | .goto _, _, _, _, _, _, _, _, _, h, _, _, _ => h.elim
  | .refuse _, _, _, _, _, _, _, _, _, h, _, _, _ => h.elim
  | .scope _, _, _, _, _, _, _, _, _, h, _, _, _ => h.elim
  | .rangeFunc .., _, _, _, _, _, _, _, _, h, _, _, _ => h.elim

/-! ### functions -/
def resOne (P : Program) (env : Env) (H : Heap) : ResultVar → Prop × AV
  | .tmp t => (True, env.get t)
  | .cell t T =>
    match env.get t with
    | .ref n 0 [] => match Res.obj? (H.get n) with
      | some a => (tsz P T = some a.csize ∧ tagg P T = some a.isAgg, a)
      | none => (False, .undef)
    | .cref a => (tsz P T = some a.csize ∧ tagg P T = some a.isAgg, a)
    | _ => (False, .undef)

def resAll (P : Program) (env : Env) (H : Heap) : List ResultVar → Prop × List AV
  | [] => (True, [])
  | r :: rs => ((resOne P env H r).1 ∧ (resAll P env H rs).1, (resOne P env H r).2 :: (resAll P env H rs).2)

def resA (P : Program) (env : Env) (H : Heap) (rs : List ResultVar) : AV :=
  match (resAll P env H rs).2 with
  | [a] => a
  | as => .tup as

def argEnv : Nat → List AV → Env
  | _, [] => []
  | i, a :: as => (i, a) :: argEnv (i + 1) as

def allWr (wr : Heap) : Heap → Prop
  | [] => True
  | (n, some r) :: t => (r.wr = true → n ∈ keys wr) ∧ allWr wr t
  | (_, none) :: t => allWr wr t

def wrL : Heap → Prop
  | [] => True
  | (_, some r) :: t => r.wr = true ∧ wrL t
  | (_, none) :: t => wrL t
def subW : Heap → Heap → Prop
  | [], _ => True
  | (n, some r) :: t, H => H.get n = some r ∧ subW t H
  | (_, none) :: t, H => subW t H

/-- What a function has to show at its end. -/
def kRet (cx : Cx) (rs : List ResultVar) (av : AV) (wr : Heap) (m : Nat) : Post
  | .exit _, _, _, _ => False
  | _, env, H, _ => (resAll cx.P env H rs).1 ∧ resA cx.P env H rs = av ∧ subW wr H ∧ av.nb m ∧ nbL m wr ∧ wrL wr

theorem argEnv_get (N : Nat) : ∀ (args : List AV) (i x : Nat), (argEnv i args).get x = if i ≤ x then args.getD (x - i) .undef else .undef
  | [], i, x => by simp [argEnv, Env.get]
  | a :: as, i, x => by
    show (if i = x then a else (argEnv (i + 1) as).get x) = _
    rw [argEnv_get N as (i + 1) x]
    by_cases h1 : i = x
    · subst h1; simp
    · by_cases h2 : i ≤ x
      · rw [if_neg h1, if_pos (by omega), if_pos h2]
        rw [show x - i = (x - (i + 1)) + 1 by omega]; simp
      · rw [if_neg h1, if_neg (by omega), if_neg h2]

theorem allWr_mem {wr : Heap} : ∀ {Hc : Heap} {n : Nat} {r : Res}, allWr wr Hc → Hc.get n = some r → r.wr = true → n ∈ keys wr
  | [], _, _, _, h, _ => by simp [Heap.get] at h
  | (k, some s) :: t, n, r, hs, h, hw => by
    obtain ⟨h1, h2⟩ := hs
    simp only [Heap.get] at h
    by_cases e : k = n
    · rw [if_pos e] at h; injection h with h; subst e h; exact h1 hw
    · rw [if_neg e] at h; exact allWr_mem h2 h hw
  | (k, none) :: t, n, r, hs, h, hw => by
    simp only [Heap.get] at h
    by_cases e : k = n
    · rw [if_pos e] at h; cases h
    · rw [if_neg e] at h; exact allWr_mem (by simpa [allWr] using hs) h hw

theorem subW_get : ∀ {wr H : Heap} {n : Nat} {r : Res}, subW wr H → wr.get n = some r → H.get n = some r
  | [], _, _, _, _, h => by simp [Heap.get] at h
  | (k, some s) :: t, H, n, r, hs, h => by
    obtain ⟨h1, h2⟩ := hs
    simp only [Heap.get] at h
    by_cases e : k = n
    · rw [if_pos e] at h; rw [← e, h1]; exact h
    · rw [if_neg e] at h; exact subW_get h2 h
  | (k, none) :: t, H, n, r, hs, h => by
    simp only [Heap.get] at h
    by_cases e : k = n
    · rw [if_pos e] at h; cases h
    · rw [if_neg e] at h; exact subW_get (by simpa [subW] using hs) h

theorem wrL_get : ∀ {wr : Heap} {n : Nat} {r : Res}, wrL wr → wr.get n = some r → r.wr = true
  | [], _, _, _, h => by simp [Heap.get] at h
  | (k, some s) :: t, n, r, hs, h => by
    obtain ⟨h1, h2⟩ := hs
    simp only [Heap.get] at h
    by_cases e : k = n
    · rw [if_pos e] at h; injection h with h; subst h; exact h1
    · rw [if_neg e] at h; exact wrL_get h2 h
  | (k, none) :: t, n, r, hs, h => by
    simp only [Heap.get] at h
    by_cases e : k = n
    · rw [if_pos e] at h; cases h
    · rw [if_neg e] at h; exact wrL_get (by simpa [wrL] using hs) h

def resF (tmps : Array Value) : ResultVar → Sem Value
  | .tmp t => pure (tmps.getD t Go.undef)
  | .cell a t => do loadVar t (← asAddr (tmps.getD a Go.undef))
theorem results_eq (fn : Func) (tmps : Array Value) : results fn tmps = (do
    let vs ← fn.results.mapM (resF tmps)
    pure (if h : vs.size = 1 then vs[0] else .tuple vs)) := by
  unfold results
  have : (fun x => match x with
    | ResultVar.tmp t => (pure (tmps.getD t Go.undef) : Sem Value)
    | ResultVar.cell a t => do loadVar t (← asAddr (tmps.getD a Go.undef))) = resF tmps := by
    funext x; cases x <;> rfl
  first | rfl | rw [← this]; rfl

theorem resOne_run {P : Program} {g : G} {w : World} {env : Env} {H : Heap} {a : Act} (he : ∀ x, EnvAt g w env a.tmps x) (hH : HeapOK g w H) (r : ResultVar) (h : (resOne P env H r).1) :
    ∃ v, (resF a.tmps r).run P w = .ok v w ∧ V1 g w (resOne P env H r).2 v := by
  cases r with
  | tmp t => exact ⟨_, rfl, (he t).eval⟩
  | cell t T =>
    have h1 : V1 g w (env.get t) (a.tmps.getD t Go.undef) := (he t).eval
    simp only [resOne] at h ⊢
    split at h
    · rename_i n hn
      rw [hn] at h1
      split at h
      · rename_i x hx
        simp only [hx]
        obtain ⟨b, y, hv, hu, hl⟩ := V1_ref h1
        obtain ⟨_, b', y', arr, T', hl', hb, hr, _⟩ := objRes hx (fun r hr => hH.ok n r hr)
        rw [hl] at hl'; simp at hl'; obtain ⟨rfl, rfl⟩ := hl'
        obtain ⟨v, k1, k2⟩ := loadVar_row hr (RowAt.of_heap hb) h.1 h.2
        exact ⟨v, by simp [resF, hv, asAddr, k1], .of_V0 k2⟩
      · exact h.elim
    · rename_i x hn
      rw [hn] at h1
      simp only [hn]
      obtain ⟨b, q, cs, hv, hr, hrow, _⟩ := V1_cref h1
      obtain ⟨v, k1, k2⟩ := loadVar_row hr hrow h.1 h.2
      exact ⟨v, by simp [resF, hv, asAddr, k1], .of_V0 k2⟩
    · exact h.elim

theorem resAll_run {P : Program} {g : G} {w : World} {env : Env} {H : Heap} {a : Act} (he : ∀ x, EnvAt g w env a.tmps x) (hH : HeapOK g w H) : ∀ (rs : List ResultVar), (resAll P env H rs).1 →
    ∃ vs : List Value, (rs.mapM (resF a.tmps)).run P w = .ok vs w ∧ vs.length = rs.length ∧ (resAll P env H rs).2.length = rs.length ∧
      ∀ (i : Nat) (x : AV) (y : Value), (resAll P env H rs).2[i]? = some x → vs[i]? = some y → V1 g w x y
  | [], _ => ⟨[], by simp, rfl, rfl, fun i x y hx => by simp [resAll] at hx⟩
  | r :: rs, h => by
    obtain ⟨h1, h2⟩ := h
    obtain ⟨v, k1, k2⟩ := resOne_run he hH r h1
    obtain ⟨vs, m1, m2, m3, m4⟩ := resAll_run he hH rs h2
    refine ⟨v :: vs, ?_, by simp [m2], by simp [resAll, m3], fun i x y hx hy => ?_⟩
    · rw [List.mapM_cons, Sem.run_bind, k1, Result.andThen_ok, Sem.run_bind, m1, Result.andThen_ok, Sem.run_pure]
    · cases i with
      | zero => simp [resAll] at hx hy; subst hx hy; exact k2
      | succ i => exact m4 i x y (by simpa [resAll] using hx) (by simpa using hy)

theorem resA_run {P : Program} {g : G} {w : World} {env : Env} {H : Heap} {a : Act} {fn : Func} (he : ∀ x, EnvAt g w env a.tmps x) (hH : HeapOK g w H) (h : (resAll P env H fn.results.toList).1)
    (hg : fn.results.size ≠ 1 → ∀ x ∈ (resAll P env H fn.results.toList).2, x = .undef ∨ x.good = true) :
    ∃ v, (results fn a.tmps).run P w = .ok v w ∧ V1 g w (resA P env H fn.results.toList) v := by
  obtain ⟨vs, m1, m2, m3, m4⟩ := resAll_run he hH fn.results.toList h
  have hrun : (fn.results.mapM (resF a.tmps)).run P w = .ok vs.toArray w := by
    rw [Array.mapM_eq_mapM_toList, Sem.run_map, m1, Result.andThen_ok]
  rw [results_eq, Sem.run_bind, hrun, Result.andThen_ok, Sem.run_pure]
  refine ⟨_, rfl, ?_⟩
  unfold resA
  split
  · rename_i x hx
    rw [hx] at m3 m4
    have hl : vs.length = 1 := by
      have m3' : (1 : Nat) = fn.results.toList.length := m3
      omega
    match vs, hl with
    | [v], _ => exact m4 0 x v rfl rfl
  · rename_i hne
    have hl : vs.toArray.size ≠ 1 := by
      intro e
      have : (resAll P env H fn.results.toList).2.length = 1 := by simp at e; omega
      match hl2 : (resAll P env H fn.results.toList).2, this with
      | [x], _ => exact hne x hl2
    rw [dif_neg hl]
    refine ⟨vs.toArray, rfl, by simp; omega, fun i x y hx hy => ?_⟩
    have := m4 i x y hx (by simpa using hy)
    rcases hg (by simp at hl; simp at m2; omega) x (List.mem_of_getElem? hx) with h1 | h1
    · exact .inl h1
    · exact .inr (this.toV0 h1)

/-- **A function by its code.** -/
theorem FnSpec.of_code {cx : Cx} {an : An} {f : Nat} {fn : Func} {c : Code} {rs : List ResultVar} {nx : Nat} {args : List AV} {Hc : Heap} {av : AV} {wr : Heap} {k : Nat} (hmo : cx.P.follows .mixedOrders = true)
    (hf : cx.P.funcs[f]? = some fn) (hb : fn.body = some c) (hrs : fn.results.toList = rs) (hname : (fn.name == "runtime.NumGoroutine") = false) (hok : codeOK fn.ntmps c = true) (hn : args.length ≤ fn.ntmps)
    (hgood : fn.results.size = 1 ∨ ∃ as, av = .tup as ∧ ∀ x ∈ as, x = .undef ∨ x.good = true) (hwr : allWr wr Hc)
    (h : codeWp cx an c (argEnv 0 args) Hc nx (kRet cx rs av wr (nx + k))) : FnSpec cx.P f nx args Hc av wr k := by
  subst hrs
  refine ⟨⟨fn, hf, hname, by rw [hb]; rfl⟩, fun vs g w hargs hi hH hfr => ?_⟩
  refine calls_of_wp hf hb ?_
  have hal : args.length = vs.size := by have := hargs.1; simpa using this
  refine wp_of_codeWp hmo (N := fn.ntmps) (ds := []) (g0 := g) (w0 := w) (h0 := Hc.get) (nx0 := nx) c _ Hc nx _ _ g w _ h hok ⟨?_, rfl, fun x => ?_, hi, hH, Acc.refl g w _ nx hfr, hfr, Nat.le_refl _⟩ ?_
  · simp; omega
  · unfold EnvAt
    rw [show (argEnv 0 args).get x = _ from argEnv_get 0 args 0 x, if_pos (Nat.zero_le _), Nat.sub_zero]
    rcases Nat.lt_or_ge x args.length with hx | hx
    · have hx' : x < vs.toList.length := by simp; omega
      refine .inr ⟨vs.toList[x], ?_, ?_⟩
      · simp only [Array.getElem?_append]
        rw [if_pos (by omega)]
        rw [← Array.getElem?_toList, List.getElem?_eq_getElem hx']
      · exact hargs.2 x _ _ (by rw [List.getD_eq_getElem?_getD, List.getElem?_eq_getElem hx]; rfl) (List.getElem?_eq_getElem hx')
    · left; rw [List.getD_eq_getElem?_getD, List.getElem?_eq_none hx]; rfl
  · intro ex env' H' nx' a' g' w' hq hs'
    have fin : (resAll cx.P env' H' fn.results.toList).1 ∧ resA cx.P env' H' fn.results.toList = av ∧ subW wr H' ∧ av.nb (nx + k) ∧ nbL (nx + k) wr ∧ wrL wr →
        a'.defers = [] ∧ ∃ v, (results fn a'.tmps).run cx.P w' = .ok v w' ∧ ∃ v' g'', Ending.returned v = .returned v' ∧ V1 g'' w' av v' ∧ StepPost g w Hc wr ((List.range k).map (nx + ·)) g'' w' := by
      rintro ⟨q1, q2, q3, q4, q5, q6⟩
      have hgd : fn.results.size ≠ 1 → ∀ x ∈ (resAll cx.P env' H' fn.results.toList).2, x = .undef ∨ x.good = true := by
        intro h1 x hx
        rcases hgood with h2 | ⟨as, h2, h3⟩
        · exact absurd h2 h1
        · unfold resA at q2
          split at q2
          · rename_i y hy
            have hln : ∀ l : List ResultVar, (resAll cx.P env' H' l).2.length = l.length := by
              intro l; induction l with
              | nil => rfl
              | cons r l ih => simp [resAll, ih]
            have := hln fn.results.toList
            rw [hy] at this
            simp at this
            exact absurd this.symm h1
          · rw [h2] at q2
            injection q2 with q2
            rw [q2] at hx
            exact h3 x hx
      obtain ⟨v, r1, r2⟩ := resA_run hs'.env hs'.heap q1 hgd
      rw [q2] at r2
      refine ⟨hs'.defs, v, r1, v, g'.cut (nx + k), rfl, r2.cut q4, ?_⟩
      have hlt : ∀ n, g.use n → n < nx + k := fun n hn => by
        rcases Nat.lt_or_ge n nx with h' | h'
        · omega
        · exact absurd hn (hfr n h')
      refine ⟨(hs'.acc.delta.cut hlt).mono (fun b _ ⟨n, r, d1, d2, d3⟩ => ⟨n, r, allWr_mem hwr d1 d2, d1, d3⟩) (fun n _ ⟨r, d1, d2⟩ => allWr_mem hwr d1 d2) (fun n ⟨d1, d2⟩ => List.mem_map.2 ⟨n - nx, List.mem_range.2 (by omega), by show nx + (n - nx) = n; omega⟩),
        fun n r hr hk => ⟨?_, fun b hb => ?_⟩, fun n n' r r' b hk hk' hr hr' hb hb' => ?_⟩
      · obtain ⟨b1, b2⟩ := nbL_get q5 hr
        exact (hs'.heap.ok n r (subW_get q3 hr)).cut b1 b2
      · rw [blkOf_cut] at hb
        rcases hs'.acc.own n r b (subW_get q3 hr) (wrL_get q6 hr) hb with ⟨n', r', d1, d2, d3⟩ | d
        · exact .inl ⟨n', r', allWr_mem hwr d1 d2, d1, d3⟩
        · exact .inr d
      · rw [blkOf_cut] at hb hb'
        exact hs'.heap.disj n n' r r' b (subW_get q3 hr) (subW_get q3 hr') hb hb'
    cases ex with
    | normal => exact fin hq
    | ret => exact fin hq
    | exit n => exact hq.elim

end Go.AL

/-
  The layer AL, part 14: zero values; how a seat's tables are told.
-/
set_option linter.unusedSimpArgs false
set_option linter.unusedVariables false
namespace Go.AL
open Go

mutual
def AV.flat : AV → List Value
  | .val v => [v]
  | .sl _ _ _ => [.slice none 0 0]
  | .agg _ ps | .vec _ ps => AV.flats ps
  | _ => []
def AV.flats : List AV → List Value
  | [] => []
  | a :: as => AV.flat a ++ AV.flats as
end
mutual
def AV.wfz : AV → Bool
  | .val v => v.oneCell'
  | .sl _ L _ => L.isEmpty
  | .agg n ps => AV.wfzs ps && n == (AV.flats ps).length
  | .vec sz ps => AV.wfzu sz ps
  | _ => false
def AV.wfzs : List AV → Bool
  | [] => true
  | a :: as => AV.wfz a && AV.wfzs as
def AV.wfzu (sz : Nat) : List AV → Bool
  | [] => true
  | a :: as => AV.wfz a && ((AV.flat a).length == sz && AV.wfzu sz as)
end

mutual
theorem AV.wfz_R {g : G} {w : World} : ∀ (a : AV), a.wfz = true → R g w (.one a a.flat)
  | .val v, h => by rw [AV.wfz] at h; rw [AV.flat]; exact .val h
  | .sl sz L tok, h => by
    rw [AV.wfz] at h
    rw [AV.flat]
    have : L = [] := by simpa using h
    subst this; exact .slNil
  | .agg n ps, h => by
    rw [AV.wfz, Bool.and_eq_true] at h
    rw [AV.flat]
    exact .agg (AV.wfzs_R ps h.1) (by simpa using h.2)
  | .vec sz ps, h => by rw [AV.wfz] at h; rw [AV.flat]; exact .vec (AV.wfzu_R sz ps h)
  | .undef, h => by simp [AV.wfz] at h
  | .ref .., h => by simp [AV.wfz] at h
  | .cref .., h => by simp [AV.wfz] at h
  | .aref .., h => by simp [AV.wfz] at h
  | .map .., h => by simp [AV.wfz] at h
  | .clos .., h => by simp [AV.wfz] at h
  | .tup .., h => by simp [AV.wfz] at h
theorem AV.wfzs_R {g : G} {w : World} : ∀ (as : List AV), AV.wfzs as = true → R g w (.seq as (AV.flats as))
  | [], _ => by rw [AV.flats]; exact .seqNil
  | a :: as, h => by
    rw [AV.wfzs, Bool.and_eq_true] at h
    rw [AV.flats]
    exact .seqCons (AV.wfz_R a h.1) (AV.wfzs_R as h.2)
theorem AV.wfzu_R {g : G} {w : World} (sz : Nat) : ∀ (as : List AV), AV.wfzu sz as = true → R g w (.useq sz as (AV.flats as))
  | [], _ => by rw [AV.flats]; exact .useqNil
  | a :: as, h => by
    rw [AV.wfzu, Bool.and_eq_true, Bool.and_eq_true] at h
    rw [AV.flats]
    exact .useqCons (AV.wfz_R a h.1) (by simpa using h.2.1) (AV.wfzu_R sz as h.2.2)
end

theorem ZeroOK.mk {P : Program} {T : TypeId} {z : AV} (v : Value) (h1 : (P.info? T).bind (·.zero) = some v) (h2 : z.wfz = true) (h3 : v.cells.toList = z.flat) (h4 : isAggV v = z.isAgg) : ZeroOK P T z :=
  ⟨v, h1, fun g w => ⟨by rw [h3]; exact AV.wfz_R z h2, h4⟩⟩

def zLook (l : List (Nat × AV)) (T : Nat) : Option AV :=
  match l with
  | [] => none
  | (k, z) :: r => if k = T then some z else zLook r T
def zAll (P : Program) : List (Nat × AV) → Prop
  | [] => True
  | (k, z) :: r => ZeroOK P k z ∧ zAll P r
theorem zLook_ok {P : Program} : ∀ {l : List (Nat × AV)}, zAll P l → ∀ T z, zLook l T = some z → ZeroOK P T z
  | [], _, T, z, h => by cases h
  | (k, x) :: r, ha, T, z, h => by
    obtain ⟨h1, h2⟩ := ha
    simp only [zLook] at h
    split at h
    · rename_i e; injection h with h; subst e h; exact h1
    · exact zLook_ok h2 T z h

end Go.AL

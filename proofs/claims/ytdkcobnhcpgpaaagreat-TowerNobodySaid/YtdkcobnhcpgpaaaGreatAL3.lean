/-
  The layer AL, part 3: the heap of names, what a step may change, and the frame.
-/
import Derived.Test.YtdkcobnhcpgpaaaGreatAL2
namespace Go.AL
open Go

inductive Res where
  | obj (a : AV)
  /-- an object that is looked at alone -/
  | robj (a : AV)
  | tail (e : Nat)
  deriving Inhabited
def Res.wr : Res → Bool
  | .robj _ => false
  | _ => true
/-- what is read of an object -/
def Res.obj? : Option Res → Option AV
  | some (.obj a) | some (.robj a) => some a
  | _ => none

abbrev Heap := List (Nat × Option Res)
def Heap.get : Heap → Nat → Option Res
  | [], _ => none
  | (k, r) :: t, n => if k = n then r else Heap.get t n

abbrev Env := List (Nat × AV)
def Env.get : Env → Nat → AV
  | [], _ => .undef
  | (k, v) :: r, t => if k = t then v else Env.get r t

def blkOf (g : G) (n : Nat) : Res → Option Nat
  | .obj _ | .robj _ => (g.loc n 0).map (·.1)
  | .tail e => (g.loc n e).map (·.1)

def resOK (g : G) (w : World) (n : Nat) : Res → Prop
  | .obj a | .robj a => g.use n ∧ ∃ b x arr T, g.loc n 0 = some (b, x) ∧ w.heap[b]? = some (.cells arr T (0, 0)) ∧ R g w (.one a arr.toList) ∧ g.imm b = 0
  | .tail e => g.use n ∧ g.bd n = e ∧ ∀ b endc capc, g.loc n e = some (b, endc, capc) →
      ∃ arr T, w.heap[b]? = some (.cells arr T (0, 0)) ∧ g.imm b = endc ∧ arr.size = capc ∧ endc ≤ capc

def Inv (g : G) (w : World) : Prop := ∀ b, w.heap.size ≤ b → g.imm b = 0

structure HeapOK (g : G) (w : World) (H : Heap) : Prop where
  ok : ∀ n r, H.get n = some r → resOK g w n r
  disj : ∀ n n' r r' b, H.get n = some r → H.get n' = some r' → blkOf g n r = some b → blkOf g n' r' = some b → n = n'

/-- What a step may change: blocks of D, how far names of T have grown, new names N. -/
structure Delta (g : G) (w : World) (g' : G) (w' : World) (D T N : Nat → Prop) : Prop where
  ext : Ext g w g' w'
  os : w'.os = w.os
  tape : w'.tape = w.tape
  output : w'.output = w.output
  size : w.heap.size ≤ w'.heap.size
  keep : ∀ b, b < w.heap.size → ¬ D b → w'.heap[b]? = w.heap[b]? ∧ g'.imm b = g.imm b
  names : ∀ n, g'.use n → g.use n ∨ N n
  bdk : ∀ n, g.use n → ¬ T n → g'.bd n = g.bd n
  inv : Inv g w → Inv g' w'

theorem Delta.refl (g : G) (w : World) (D T N : Nat → Prop) : Delta g w g w D T N :=
  ⟨Ext.refl g w, rfl, rfl, rfl, Nat.le_refl _, fun _ _ _ => ⟨rfl, rfl⟩, fun _ h => .inl h, fun _ _ _ => rfl, fun h => h⟩

theorem Delta.mono {g g' : G} {w w' : World} {D T N D' T' N' : Nat → Prop} (h : Delta g w g' w' D T N) (hD : ∀ b, b < w.heap.size → D b → D' b) (hT : ∀ n, g.use n → T n → T' n) (hN : ∀ n, N n → N' n) : Delta g w g' w' D' T' N' :=
  ⟨h.ext, h.os, h.tape, h.output, h.size, fun b hb hd => h.keep b hb (fun hx => hd (hD b hb hx)), fun n hn => (h.names n hn).imp id (hN n),
   fun n hn ht => h.bdk n hn (fun hx => ht (hT n hn hx)), h.inv⟩

theorem Delta.trans {g1 g2 g3 : G} {w1 w2 w3 : World} {D T N D2 T2 N2 : Nat → Prop} (h : Delta g1 w1 g2 w2 D T N) (k : Delta g2 w2 g3 w3 D2 T2 N2) :
    Delta g1 w1 g3 w3 (fun b => D b ∨ D2 b) (fun n => T n ∨ T2 n) (fun n => N n ∨ N2 n) :=
  ⟨h.ext.trans k.ext, k.os.trans h.os, k.tape.trans h.tape, k.output.trans h.output, Nat.le_trans h.size k.size,
   fun b hb hd => by
     obtain ⟨a1, a2⟩ := h.keep b hb (fun hx => hd (.inl hx))
     obtain ⟨b1, b2⟩ := k.keep b (Nat.lt_of_lt_of_le hb h.size) (fun hx => hd (.inr hx))
     exact ⟨b1.trans a1, b2.trans a2⟩,
   fun n hn => by
     rcases k.names n hn with hn | hn
     · exact (h.names n hn).imp id .inl
     · exact .inr (.inr hn),
   fun n hn ht => (k.bdk n (h.ext.use n hn) (fun hx => ht (.inr hx))).trans (h.bdk n hn (fun hx => ht (.inl hx))),
   fun hi => k.inv (h.inv hi)⟩

theorem Res.blk_lt {g : G} {w : World} {n b : Nat} {r : Res} (h : resOK g w n r) (hb : blkOf g n r = some b) : b < w.heap.size := by
  have key : ∀ (x : Obj), w.heap[b]? = some x → b < w.heap.size := fun x hx => by
    rcases Nat.lt_or_ge b w.heap.size with h' | h'
    · exact h'
    · rw [Array.getElem?_eq_none h'] at hx; cases hx
  cases r with
  | obj a | robj a =>
    obtain ⟨_, b', x, arr, T, h1, h2, _⟩ := h
    simp [blkOf, h1] at hb
    subst hb
    exact key _ h2
  | tail e =>
    obtain ⟨_, _, h3⟩ := h
    simp only [blkOf, Option.map_eq_some_iff] at hb
    obtain ⟨⟨b', e', c'⟩, h4, rfl⟩ := hb
    obtain ⟨arr, T, h5, _⟩ := h3 _ _ _ h4
    exact key _ h5

/-- A resource that a step does not touch stays. -/
theorem resOK.frame {g g' : G} {w w' : World} {D T N : Nat → Prop} (hd : Delta g w g' w' D T N) {n : Nat} {r : Res} (h : resOK g w n r) (hT : ¬ T n) (hD : ∀ b, blkOf g n r = some b → ¬ D b) :
    resOK g' w' n r ∧ blkOf g' n r = blkOf g n r := by
  have hlt := fun b hb => Res.blk_lt (b := b) h hb
  cases r with
  | obj a | robj a =>
    obtain ⟨h0, b, x, arr, T', h1, h2, h3, h4⟩ := h
    have hb : blkOf g n (.obj a) = some b := by simp [blkOf, h1]
    obtain ⟨k1, k2⟩ := hd.keep b (hlt b hb) (hD b hb)
    have hl := hd.ext.loc n h0 0 (Nat.zero_le _)
    exact ⟨⟨hd.ext.use n h0, b, x, arr, T', hl.trans h1, k1.trans h2, h3.ext hd.ext, k2.trans h4⟩, by simp [blkOf, hl]⟩
  | tail e =>
    obtain ⟨h0, h1, h2⟩ := h
    have hl := hd.ext.loc n h0 e (by omega)
    refine ⟨⟨hd.ext.use n h0, (hd.bdk n h0 hT).trans h1, ?_⟩, by simp [blkOf, hl]⟩
    intro b endc capc hloc
    rw [hl] at hloc
    have hb : blkOf g n (.tail e) = some b := by simp [blkOf, hloc]
    obtain ⟨k1, k2⟩ := hd.keep b (hlt b hb) (hD b hb)
    obtain ⟨arr, T', m1, m2, m3⟩ := h2 _ _ _ hloc
    exact ⟨arr, T', k1.trans m1, k2.trans m2, m3⟩

/-- The blocks of the names that are written. -/
def Blks (g : G) (H : Heap) (ks : List Nat) (b : Nat) : Prop := ∃ n r, n ∈ ks ∧ H.get n = some r ∧ blkOf g n r = some b

abbrev keys (wr : Heap) : List Nat := wr.map (·.1)

/-- What a step leaves: 'wr' over what was there. -/
structure StepPost (g : G) (w : World) (H : Heap) (wr : Heap) (nw : List Nat) (g' : G) (w' : World) : Prop where
  delta : Delta g w g' w' (Blks g H (keys wr)) (· ∈ keys wr) (· ∈ nw)
  res : ∀ n r, wr.get n = some r → n ∈ keys wr → resOK g' w' n r ∧ ∀ b, blkOf g' n r = some b → Blks g H (keys wr) b ∨ w.heap.size ≤ b
  disj : ∀ n n' r r' b, n ∈ keys wr → n' ∈ keys wr → wr.get n = some r → wr.get n' = some r' → blkOf g' n r = some b → blkOf g' n' r' = some b → n = n'

theorem Heap.get_append (A B : Heap) (n : Nat) : Heap.get (A ++ B) n = if n ∈ keys A then A.get n else B.get n := by
  induction A with
  | nil => simp
  | cons x t ih =>
    obtain ⟨k, r⟩ := x
    have h1 : Heap.get ((k, r) :: t ++ B) n = if k = n then r else Heap.get (t ++ B) n := rfl
    have h2 : Heap.get ((k, r) :: t) n = if k = n then r else Heap.get t n := rfl
    rw [h1, h2, ih]
    by_cases hk : k = n
    · rw [if_pos hk, if_pos hk, if_pos (by simp [keys, hk])]
    · rw [if_neg hk, if_neg hk]
      by_cases hm : n ∈ keys t
      · rw [if_pos hm, if_pos (show n ∈ keys ((k, r) :: t) from List.mem_cons_of_mem _ hm)]
      · rw [if_neg hm, if_neg (show ¬ n ∈ keys ((k, r) :: t) from fun h => by rcases List.mem_cons.1 h with h | h; exact hk h.symm; exact hm h)]

theorem Heap.get_none (A : Heap) (n : Nat) (h : n ∉ keys A) : A.get n = none := by
  have := Heap.get_append A [] n
  simp only [List.append_nil, if_neg h] at this
  exact this

theorem StepPost.heap {g g' : G} {w w' : World} {H wr : Heap} {nw : List Nat} (h : StepPost g w H wr nw g' w') (hH : HeapOK g w H) : HeapOK g' w' (wr ++ H) := by
  have fr : ∀ n r, H.get n = some r → n ∉ keys wr → resOK g' w' n r ∧ blkOf g' n r = blkOf g n r := fun n r hr hn =>
    (hH.ok n r hr).frame h.delta hn (fun b hb ⟨m, s, hm, hs, hbs⟩ => hn (by rw [hH.disj n m r s b hr hs hb hbs]; exact hm))
  refine ⟨fun n r hr => ?_, fun n n' r r' b hr hr' hb hb' => ?_⟩
  · rw [Heap.get_append] at hr
    by_cases hk : n ∈ keys wr
    · rw [if_pos hk] at hr; exact (h.res n r hr hk).1
    · rw [if_neg hk] at hr; exact (fr n r hr hk).1
  · rw [Heap.get_append] at hr hr'
    have cross : ∀ n n' r r', H.get n = some r → n ∉ keys wr → wr.get n' = some r' → n' ∈ keys wr → blkOf g' n r = some b → blkOf g' n' r' = some b → False := by
      intro n n' r r' hr hk hr' hk' hb hb'
      have hb0 : blkOf g n r = some b := by rw [← (fr n r hr hk).2]; exact hb
      rcases (h.res n' r' hr' hk').2 b hb' with ⟨m, s, hm, hs, hbs⟩ | hge
      · exact hk (by rw [hH.disj n m r s b hr hs hb0 hbs]; exact hm)
      · have := Res.blk_lt (hH.ok n r hr) hb0; omega
    by_cases hk : n ∈ keys wr <;> by_cases hk' : n' ∈ keys wr
    · rw [if_pos hk] at hr; rw [if_pos hk'] at hr'; exact h.disj n n' r r' b hk hk' hr hr' hb hb'
    · rw [if_pos hk] at hr; rw [if_neg hk'] at hr'; exact (cross n' n r' r hr' hk' hr hk hb' hb).elim
    · rw [if_neg hk] at hr; rw [if_pos hk'] at hr'; exact (cross n n' r r' hr hk hr' hk' hb hb').elim
    · rw [if_neg hk] at hr; rw [if_neg hk'] at hr'
      exact hH.disj n n' r r' b hr hr' (by rw [← (fr n r hr hk).2]; exact hb) (by rw [← (fr n' r' hr' hk').2]; exact hb')

theorem StepPost.same (g : G) (w : World) (H : Heap) (nw : List Nat) : StepPost g w H [] nw g w :=
  ⟨Delta.refl g w _ _ _, fun n r _ hn => by simp at hn, fun n n' r r' b hn => by simp at hn⟩

end Go.AL

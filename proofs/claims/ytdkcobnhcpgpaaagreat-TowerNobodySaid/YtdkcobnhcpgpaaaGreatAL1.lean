/-
  The layer AL, part 1: abstract values, and how they stand for machine values in a world.
-/
import Derived.Orders
import Derived.Laws.CopyRow
import Derived.Laws.Rows
namespace Go.AL
open Go

/-- Abstract values. -/
inductive AV where
  | undef
  /-- one cell, told whole -/
  | val (v : Value)
  /-- a slice whose cells stay what they are: its elements; tok 0: nothing is known of what lies behind, 1: nothing lies behind, n+2: what lies behind is free while the name n says so -/
  | sl (sz : Nat) (L : List AV) (tok : Nat)
  /-- a pointer into the object of a name -/
  | ref (n off : Nat) (path : List Nat)
  /-- a pointer to a place that stays what it is -/
  | cref (v : AV)
  /-- a slice of an object's array -/
  | aref (n off : Nat) (path : List Nat) (sz lo len : Nat)
  | map (n : Nat)
  | clos (f : Nat) (caps : List AV)
  | agg (n : Nat) (parts : List AV)
  | vec (sz : Nat) (parts : List AV)
  | tup (vs : List AV)
  deriving Inhabited

namespace AV
def isAgg : AV → Bool
  | .agg _ _ | .vec _ _ => true
  | _ => false
def csize : AV → Nat
  | .agg n _ => n
  | .vec sz ps => ps.length * sz
  | _ => 1
end AV

/-- Is a machine value a struct or an array? -/
def isAggV : Value → Bool
  | .agg _ => true
  | _ => false

/-- What is known beside a world: which names are used, where they lie, how far they have grown, how many cells of a block stay what they are. -/
structure G where
  use : Nat → Prop
  loc : Nat → Nat → Option (Nat × Nat × Nat)
  bd : Nat → Nat
  imm : Nat → Nat

inductive Sh where
  | one (a : AV) (cs : List Value)
  | seq (as : List AV) (cs : List Value)
  | useq (sz : Nat) (as : List AV) (cs : List Value)
  | mem (sz : Nat) (as : List AV) (b o : Nat)

/-- cells at a place -/
def RowAt (w : World) (b o : Nat) (cs : List Value) : Prop := ∀ j v, cs[j]? = some v → w.cell? ⟨b, o + j, none⟩ = some v

def TokOK (g : G) (tok : Nat) (blk len c endc capc : Nat) : Prop :=
  match tok with
  | 0 => True
  | 1 => c = len
  | n + 2 => c = len ∨ (g.use n ∧ len ≤ g.bd n ∧ g.loc n len = some (blk, endc, capc))

inductive R (g : G) (w : World) : Sh → Prop where
  | val {v : Value} : v.oneCell' = true → R g w (.one (.val v) [v])
  | slNil {sz tok : Nat} {base : Option Addr} : R g w (.one (.sl sz [] tok) [.slice base 0 0])
  | sl {sz tok : Nat} {L : List AV} {b o c : Nat} : L.length ≤ c → R g w (.mem sz L b o) → TokOK g tok b L.length c (o + L.length * sz) (o + c * sz) →
      R g w (.one (.sl sz L tok) [.slice (some ⟨b, o, none⟩) L.length c])
  | ref {n off : Nat} {path : List Nat} {b : Nat} {x : Nat × Nat} : g.use n → g.loc n 0 = some (b, x) → R g w (.one (.ref n off path) [.pointer (some ⟨b, off, none⟩)])
  | cref {v : AV} {b o : Nat} {cs : List Value} : R g w (.one v cs) → RowAt w b o cs → o + cs.length ≤ g.imm b → R g w (.one (.cref v) [.pointer (some ⟨b, o, none⟩)])
  | aref {n off : Nat} {path : List Nat} {sz lo len c : Nat} {b : Nat} {x : Nat × Nat} : g.use n → g.loc n 0 = some (b, x) → len ≤ c →
      R g w (.one (.aref n off path sz lo len) [.slice (some ⟨b, off + lo * sz, none⟩) len c])
  | map {n : Nat} {b : Nat} {x : Nat × Nat} : g.use n → g.loc n 0 = some (b, x) → R g w (.one (.map n) [.map (some b)])
  | clos {f : Nat} {caps : List AV} {cs : List Value} : R g w (.useq 1 caps cs) → (∀ a ∈ caps, a.isAgg = false) → R g w (.one (.clos f caps) [.func (.func f) #[] cs.toArray])
  | agg {n : Nat} {ps : List AV} {cs : List Value} : R g w (.seq ps cs) → n = cs.length → R g w (.one (.agg n ps) cs)
  | vec {sz : Nat} {ps : List AV} {cs : List Value} : R g w (.useq sz ps cs) → R g w (.one (.vec sz ps) cs)
  | seqNil : R g w (.seq [] [])
  | seqCons {a : AV} {as : List AV} {cs ds : List Value} : R g w (.one a cs) → R g w (.seq as ds) → R g w (.seq (a :: as) (cs ++ ds))
  | useqNil {sz : Nat} : R g w (.useq sz [] [])
  | useqCons {sz : Nat} {a : AV} {as : List AV} {cs ds : List Value} : R g w (.one a cs) → cs.length = sz → R g w (.useq sz as ds) → R g w (.useq sz (a :: as) (cs ++ ds))
  | memNil {sz b o : Nat} : R g w (.mem sz [] b o)
  | memCons {sz b o : Nat} {a : AV} {as : List AV} {cs : List Value} : R g w (.one a cs) → cs.length = sz → RowAt w b o cs → o + sz ≤ g.imm b →
      R g w (.mem sz as b (o + sz)) → R g w (.mem sz (a :: as) b o)

/-- What was known stays known. -/
structure Ext (g : G) (w : World) (g' : G) (w' : World) : Prop where
  use : ∀ n, g.use n → g'.use n
  bd : ∀ n, g.use n → g.bd n ≤ g'.bd n
  loc : ∀ n, g.use n → ∀ e, e ≤ g.bd n → g'.loc n e = g.loc n e
  imm : ∀ b, g.imm b ≤ g'.imm b
  cell : ∀ b o, o < g.imm b → w'.cell? ⟨b, o, none⟩ = w.cell? ⟨b, o, none⟩

theorem Ext.refl (g : G) (w : World) : Ext g w g w := ⟨fun _ h => h, fun _ _ => Nat.le_refl _, fun _ _ _ _ => rfl, fun _ => Nat.le_refl _, fun _ _ _ => rfl⟩

theorem Ext.trans {g1 g2 g3 : G} {w1 w2 w3 : World} (h : Ext g1 w1 g2 w2) (k : Ext g2 w2 g3 w3) : Ext g1 w1 g3 w3 :=
  ⟨fun n hn => k.use n (h.use n hn), fun n hn => Nat.le_trans (h.bd n hn) (k.bd n (h.use n hn)),
   fun n hn e he => (k.loc n (h.use n hn) e (Nat.le_trans he (h.bd n hn))).trans (h.loc n hn e he),
   fun b => Nat.le_trans (h.imm b) (k.imm b), fun b o ho => (k.cell b o (Nat.lt_of_lt_of_le ho (h.imm b))).trans (h.cell b o ho)⟩

theorem RowAt.ext {g g' : G} {w w' : World} {b o : Nat} {cs : List Value} (h : RowAt w b o cs) (hx : Ext g w g' w') (hi : o + cs.length ≤ g.imm b) : RowAt w' b o cs := by
  intro j v hj
  have hlt : j < cs.length := by
    rcases Nat.lt_or_ge j cs.length with h' | h'
    · exact h'
    · rw [List.getElem?_eq_none h'] at hj; cases hj
  rw [hx.cell b (o + j) (by omega)]
  exact h j v hj

theorem TokOK.ext {g g' : G} {w w' : World} {tok blk len c endc capc : Nat} (hx : Ext g w g' w') (h : TokOK g tok blk len c endc capc) : TokOK g' tok blk len c endc capc := by
  match tok, h with
  | 0, _ => trivial
  | 1, h => exact h
  | n + 2, h =>
    rcases h with h | ⟨h1, h2, h3⟩
    · exact .inl h
    · exact .inr ⟨hx.use n h1, Nat.le_trans h2 (hx.bd n h1), (hx.loc n h1 len h2).trans h3⟩

theorem R.ext {g g' : G} {w w' : World} (hx : Ext g w g' w') {s : Sh} (h : R g w s) : R g' w' s := by
  induction h with
  | val h => exact .val h
  | slNil => exact .slNil
  | sl hc _ ht ih => exact .sl hc ih (ht.ext hx)
  | ref h1 h2 => exact .ref (hx.use _ h1) ((hx.loc _ h1 0 (Nat.zero_le _)).trans h2)
  | cref _ h2 h3 ih => exact .cref ih (h2.ext hx h3) (Nat.le_trans h3 (hx.imm _))
  | aref h1 h2 h3 => exact .aref (hx.use _ h1) ((hx.loc _ h1 0 (Nat.zero_le _)).trans h2) h3
  | map h1 h2 => exact .map (hx.use _ h1) ((hx.loc _ h1 0 (Nat.zero_le _)).trans h2)
  | clos _ h2 ih => exact .clos ih h2
  | agg _ h2 ih => exact .agg ih h2
  | vec _ ih => exact .vec ih
  | seqNil => exact .seqNil
  | seqCons _ _ ih1 ih2 => exact .seqCons ih1 ih2
  | useqNil => exact .useqNil
  | useqCons _ h2 _ ih1 ih2 => exact .useqCons ih1 h2 ih2
  | memNil => exact .memNil
  | memCons _ h2 h3 h4 _ ih1 ih2 => exact .memCons ih1 h2 (h3.ext hx (by omega)) (Nat.le_trans h4 (hx.imm _)) ih2

def Sh.cells : Sh → List Value
  | .one _ cs | .seq _ cs | .useq _ _ cs => cs
  | .mem _ _ _ _ => []

/-- No part of what is told is struct, array or tuple: cells all. -/
theorem R.oneCells' {g : G} {w : World} {s : Sh} (h : R g w s) : ∀ c ∈ s.cells, c.oneCell' = true := by
  induction h with
  | val h => intro c hc; simp [Sh.cells] at hc; subst hc; exact h
  | agg _ _ ih => exact ih
  | vec _ ih => exact ih
  | seqCons _ _ ih1 ih2 => intro c hc; rcases List.mem_append.1 hc with h | h; exact ih1 c h; exact ih2 c h
  | useqCons _ _ _ ih1 ih2 => intro c hc; rcases List.mem_append.1 hc with h | h; exact ih1 c h; exact ih2 c h
  | _ => intro c hc; simp [Sh.cells] at hc <;> (subst hc; rfl)

theorem R.oneCells {g : G} {w : World} {a : AV} {cs : List Value} (h : R g w (.one a cs)) : ∀ c ∈ cs, c.oneCell' = true := R.oneCells' h

def Sh.lenOK : Sh → Prop
  | .one a cs => cs.length = a.csize
  | .useq sz as cs => cs.length = as.length * sz
  | _ => True

theorem R.length' {g : G} {w : World} {s : Sh} (h : R g w s) : s.lenOK := by
  induction h with
  | agg _ h2 _ => simp [Sh.lenOK, AV.csize, h2]
  | vec _ ih => simpa [Sh.lenOK, AV.csize] using ih
  | useqCons _ h2 _ _ ih2 => simp [Sh.lenOK] at ih2 ⊢; rw [ih2, h2, Nat.add_mul]; omega
  | _ => simp [Sh.lenOK, AV.csize]

theorem R.length {g : G} {w : World} {a : AV} {cs : List Value} (h : R g w (.one a cs)) : cs.length = a.csize := R.length' h
theorem R.ulength {g : G} {w : World} {sz : Nat} {as : List AV} {cs : List Value} (h : R g w (.useq sz as cs)) : cs.length = as.length * sz := R.length' h

theorem R.single {g : G} {w : World} {a : AV} {cs : List Value} (h : R g w (.one a cs)) (ha : a.isAgg = false) : ∃ v, cs = [v] ∧ v.oneCell' = true := by
  have h1 := h.oneCells
  cases h <;> first | exact ⟨_, rfl, h1 _ (by simp)⟩ | simp [AV.isAgg] at ha

/-- A machine value in a temporary is an abstract one. -/
def V0 (g : G) (w : World) (a : AV) (v : Value) : Prop := R g w (.one a v.cells.toList) ∧ isAggV v = a.isAgg

def V1 (g : G) (w : World) (a : AV) (v : Value) : Prop :=
  match a with
  | .undef => True
  | .tup as => ∃ ws : Array Value, v = .tuple ws ∧ as.length = ws.toList.length ∧ ∀ (i : Nat) (x : AV) (y : Value), as[i]? = some x → ws.toList[i]? = some y → x = .undef ∨ V0 g w x y
  | a => V0 g w a v

theorem V0.ext {g g' : G} {w w' : World} (hx : Ext g w g' w') {a : AV} {v : Value} (h : V0 g w a v) : V0 g' w' a v := ⟨h.1.ext hx, h.2⟩
theorem V1.ext {g g' : G} {w w' : World} (hx : Ext g w g' w') {a : AV} {v : Value} (h : V1 g w a v) : V1 g' w' a v := by
  cases a with
  | undef => trivial
  | tup as =>
    obtain ⟨ws, h1, h2, h3⟩ := h
    exact ⟨ws, h1, h2, fun i x y hx' hy => (h3 i x y hx' hy).imp id (V0.ext hx)⟩
  | _ => exact V0.ext hx h

theorem V1.of_V0 {g : G} {w : World} {a : AV} {v : Value} (h : V0 g w a v) : V1 g w a v := by
  cases a with
  | undef => trivial
  | tup as => obtain ⟨h, _⟩ := h; cases h
  | _ => exact h

theorem V0.cell {g : G} {w : World} {a : AV} {v : Value} (h : V0 g w a v) (ha : a.isAgg = false) : R g w (.one a [v]) ∧ v.oneCell' = true := by
  obtain ⟨h1, h2⟩ := h
  obtain ⟨u, hu, hc⟩ := h1.single ha
  rw [ha] at h2
  cases v <;> simp [isAggV, Value.cells] at h2 hu h1 ⊢ <;> first | exact ⟨h1, by simpa using (R.oneCells h1)⟩

theorem V0.of_cell {g : G} {w : World} {a : AV} {v : Value} (h : R g w (.one a [v])) (ha : a.isAgg = false) : V0 g w a v := by
  have hc : v.oneCell' = true := by simpa using (R.oneCells h)
  refine ⟨?_, ?_⟩
  · cases v <;> first | (simp [Value.oneCell'] at hc; done) | simpa [Value.cells] using h
  · rw [ha]; cases v <;> first | rfl | simp [Value.oneCell'] at hc

theorem V0.of_agg {g : G} {w : World} {a : AV} {cs : Array Value} (h : R g w (.one a cs.toList)) (ha : a.isAgg = true) : V0 g w a (.agg cs) := ⟨h, by rw [ha]; rfl⟩

theorem V0.agg {g : G} {w : World} {a : AV} {v : Value} (h : V0 g w a v) (ha : a.isAgg = true) : ∃ cs, v = .agg cs ∧ R g w (.one a cs.toList) := by
  obtain ⟨h1, h2⟩ := h
  rw [ha] at h2
  cases v <;> simp [isAggV] at h2
  exact ⟨_, rfl, h1⟩

end Go.AL

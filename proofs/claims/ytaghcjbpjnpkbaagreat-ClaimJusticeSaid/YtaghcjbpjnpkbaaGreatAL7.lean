/-
  The layer AL, part 6: append.
-/
import Derived.Test.YtaghcjbpjnpkbaaGreatAL5
import Derived.Laws.AppendOwn
set_option linter.unusedSimpArgs false
set_option linter.unusedVariables false
namespace Go.AL
open Go

theorem growBy_le : ∀ (r c need : Nat), c < need → 256 ≤ c → Builtin.growBy need r c * 4 ≤ need * 9
  | 0, c, need, h, h2 => by simp [Builtin.growBy]; omega
  | r + 1, c, need, h, h2 => by
    unfold Builtin.growBy
    rw [if_neg (by omega)]
    by_cases h3 : c + (c + 768) / 4 < need
    · exact growBy_le r _ need h3 (by omega)
    · have : Builtin.growBy need r (c + (c + 768) / 4) = c + (c + 768) / 4 := by
        cases r with
        | zero => rfl
        | succ r => unfold Builtin.growBy; rw [if_pos (by omega)]
      rw [this]; omega

theorem nextcap_le {need c : Nat} (h : c < need) : Builtin.nextslicecap need c * 4 ≤ need * 9 := by
  unfold Builtin.nextslicecap
  split
  · omega
  · split
    · omega
    · exact growBy_le 4 c need h (by omega)

theorem tby_run' {P : Program} {T : TypeId} {n : Nat} (h : tby P T = some n) : ∃ i, (∀ w, (typeInfo T).run P w = .ok i w) ∧ i.bytes = n := by
  unfold tby at h
  cases hq : P.info? T with
  | none => simp [hq] at h
  | some i => simp [hq] at h; exact ⟨i, fun w => by simp [typeInfo, hq], h⟩

section
variable {P : Program}

structure AppT (P : Program) (T U e : TypeId) (size bz : Nat) (z : AV) : Prop where
  sl : tsl P T = some e
  sz : tsz P e = some size
  bt : tby P e = some bz
  pos : bz ≠ 0
  src : ∃ d, P.underlying U = some d ∧ (match d with | .int _ => true | _ => false) = false
  zero : ZeroOK P e z
  zs : z.csize = size

theorem append_fits {T U e ty : TypeId} {size bz : Nat} {z : AV} (ht : AppT P T U e size bz z) {w : World} {base : Option Addr} {n c m : Nat} {xv : Value} {ncs : List Value} (hlen : (Builtin.lenOf xv).run P w = .ok m w)
    (hcells : (Builtin.firstCells size m xv).run P w = .ok ncs.toArray w) (hfit : n + m ≤ c) :
    (Builtin.append_ #[T, U] ty #[.slice base n c, xv]).run P w = match base with
      | some a => ((storeCells (a.add (n * size)) ncs).run P w).andThen fun _ w' => .ok (.slice base (n + m) c) w'
      | none => .ok (.slice base (n + m) c) w := by
  obtain ⟨d, hd, hd2⟩ := ht.src
  cases base with
  | none =>
    simp only [Builtin.append_]
    simp [run_underlying (tsl_und ht.sl), tsz_run ht.sz, run_underlying hd, hlen, hfit]
    cases d <;> simp at hd2 <;> simp [hlen, hfit, hcells]
  | some a =>
    simp only [Builtin.append_]
    simp [run_underlying (tsl_und ht.sl), tsz_run ht.sz, run_underlying hd, hlen, hfit]
    cases d <;> simp at hd2 <;> simp [hlen, hfit, hcells]

theorem append_grows {T U e ty : TypeId} {size bz : Nat} {z : AV} (ht : AppT P T U e size bz z) {w : World} {base : Option Addr} {n c m : Nat} {xv : Value} {ocs ncs : List Value} (hlen : (Builtin.lenOf xv).run P w = .ok m w)
    (hold : (Builtin.firstCells size n (.slice base n c)).run P w.drew = .ok ocs.toArray w.drew) (hcells : (Builtin.firstCells size m xv).run P w.drew = .ok ncs.toArray w.drew) (hfit : ¬ n + m ≤ c) (hlim : (n + m) * bz ≤ 2 ^ 46)
    (hol : ocs.length = n * size) (hnl : ncs.length = m * size) :
    ∃ cap rest, n + m ≤ cap ∧ (ocs ++ ncs ++ rest).length = cap * size ∧ (Builtin.append_ #[T, U] ty #[.slice base n c, xv]).run P w = .ok (.slice (some ⟨w.heap.size, 0, none⟩) (n + m) cap) (w.drew.alloc (.cells (ocs ++ ncs ++ rest).toArray e)) := by
  obtain ⟨d, hd, hd2⟩ := ht.src
  obtain ⟨i, hi, hib⟩ := tby_run' ht.bt
  obtain ⟨zv, hz, hzr⟩ := ht.zero.run
  have hzl : zv.cells.size = size := by
    have := (hzr ⟨fun _ => True, fun _ _ => none, fun _ => 0, fun _ => 0⟩ w).1.length
    simp at this; rw [this, ht.zs]
  have hpos := ht.pos
  have hb1 : ¬ ((n : Int) + (m : Int) > IntKind.i64.max ∧ (False ∨ bz = 0)) := fun h => by simp [hpos] at h
  have hnc := nextcap_le (need := n + m) (c := c) (by omega)
  have hb2 : ¬ Builtin.nextslicecap (n + m) c * bz > 2 ^ 48 := by
    have h1 : Builtin.nextslicecap (n + m) c * bz * 4 ≤ (n + m) * bz * 9 := by
      have := Nat.mul_le_mul_right bz hnc
      calc Builtin.nextslicecap (n + m) c * bz * 4 = Builtin.nextslicecap (n + m) c * 4 * bz := by rw [Nat.mul_right_comm]
        _ ≤ (n + m) * 9 * bz := this
        _ = (n + m) * bz * 9 := by rw [Nat.mul_right_comm]
    omega
  let cap := (Question.appendCap (n + m) c e).cut (w.tape w.drawn (Question.appendCap (n + m) c e))
  have hcap : n + m ≤ cap := by simp only [cap, Question.cut]; omega
  refine ⟨cap, (Builtin.zeroCells zv.cells (cap - (n + m))).toList, hcap, ?_, ?_⟩
  · simp [Builtin.zeroCells, hol, hnl, hzl]
    rw [← Nat.add_mul, ← Nat.add_mul]; congr 1; omega
  · have hf : (Question.appendCap (n + m) c e).forced = false := rfl
    have hzz := hz w.drew
    simp only [Builtin.append_]
    simp [run_underlying (tsl_und ht.sl), tsz_run ht.sz, run_underlying hd]
    cases d <;> simp at hd2 <;> (simp [hlen, hfit, hi, hib]; (try rw [if_neg (by simpa using hb1)]); (try rw [if_neg (by simpa using hb2)]); simp [hf, hold, hcells, hzz, newRow, cap, hb2, hpos])
    all_goals (congr 2; apply Array.ext'; simp)

def SrcSem (P : Program) (g : G) (w : World) (v : Value) (M : List AV) (size : Nat) : Prop :=
  (∀ w' : World, w'.heap = w.heap → (Builtin.lenOf v).run P w' = .ok M.length w') ∧
    ∃ cs, R g w (.useq size M cs) ∧ ∀ w' : World, w'.heap = w.heap → (Builtin.firstCells size M.length v).run P w' = .ok cs.toArray w'

theorem RowAt.heap {w w' : World} {b q : Nat} {cs : List Value} (h : RowAt w b q cs) (hh : w'.heap = w.heap) : RowAt w' b q cs := by
  intro j v hj
  have := h j v hj
  simpa [World.cell?, hh] using this

theorem src_sl {g : G} {w : World} {v : Value} {M : List AV} {sz size tok : Nat} (h : V1 g w (.sl sz M tok) v) (hs : sz = size ∨ M = []) : SrcSem P g w v M size := by
  rcases V1_sl h with ⟨rfl, base, hv⟩ | ⟨b, q, c, hv, hc, hm, _⟩
  · subst hv
    refine ⟨fun w' _ => by simp [Builtin.lenOf], [], .useqNil, fun w' _ => ?_⟩
    cases base with
    | none => simp [Builtin.firstCells]
    | some a => simp [Builtin.firstCells, loadCells, loadCellsFrom]
  · subst hv
    rcases hs with rfl | rfl
    · obtain ⟨cs, k1, k2, _⟩ := hm.mem_cells
      refine ⟨fun w' _ => by simp [Builtin.lenOf], cs, k1, fun w' hw' => ?_⟩
      simp only [Builtin.firstCells]
      exact loadCells_row (k2.heap hw') _ k1.ulength.symm
    · refine ⟨fun w' _ => by simp [Builtin.lenOf], [], .useqNil, fun w' _ => ?_⟩
      simp only [Builtin.firstCells, List.length_nil, Nat.zero_mul]
      exact loadCells_row (cs := []) (fun j v hj => by simp at hj) 0 rfl

theorem src_str {g : G} {w : World} {s : ByteArray} {v : Value} (h : V1 g w (.val (.string s)) v) : SrcSem P g w v (s.data.toList.map fun b => AV.val (.int .u8 b.toNat)) 1 := by
  obtain ⟨rfl, _⟩ := V1_val h
  refine ⟨fun w' _ => by simp [Builtin.lenOf], s.data.toList.map fun b => Value.int .u8 b.toNat, ?_, fun w' _ => ?_⟩
  · generalize s.data.toList = l
    induction l with
    | nil => exact .useqNil
    | cons b l ih => exact .useqCons (cs := [Value.int .u8 b.toNat]) (.val rfl) rfl ih
  · simp only [Builtin.firstCells, List.length_map]
    have e : s.extract 0 s.data.toList.length = s := by
      apply ByteArray.ext
      simp
    rw [e]
    simp
    apply Array.ext'
    simp

theorem drop_add (cs ds : List Value) (k : Nat) : (cs ++ ds).drop (cs.length + k) = ds.drop k := by
  rw [List.drop_append, List.drop_eq_nil_of_le (by omega), List.nil_append, Nat.add_sub_cancel_left]
theorem take_add (cs ds : List Value) (k : Nat) : (cs ++ ds).take (cs.length + k) = cs ++ ds.take k := by
  rw [List.take_append, List.take_of_length_le (by omega), Nat.add_sub_cancel_left]

theorem R.useq_drop {g : G} {w : World} {sz : Nat} : ∀ {L : List AV} {cs : List Value} (k : Nat), R g w (.useq sz L cs) → k ≤ L.length → R g w (.useq sz (L.drop k) (cs.drop (k * sz)))
  | L, cs, 0, h, _ => by simpa using h
  | [], _, k + 1, _, hk => absurd hk (by simp)
  | p :: ps, _, k + 1, h, hk => by
    cases h with
    | @useqCons _ _ _ cs ds h1 h2 h3 =>
      have := R.useq_drop k h3 (by simpa using hk)
      have e : (k + 1) * sz = cs.length + k * sz := by rw [Nat.add_mul, h2]; omega
      rw [e, drop_add]
      simpa using this

theorem R.useq_take {g : G} {w : World} {sz : Nat} : ∀ {L : List AV} {cs : List Value} (k : Nat), R g w (.useq sz L cs) → k ≤ L.length → R g w (.useq sz (L.take k) (cs.take (k * sz)))
  | L, cs, 0, h, _ => by simpa using .useqNil
  | [], _, k + 1, _, hk => absurd hk (by simp)
  | p :: ps, _, k + 1, h, hk => by
    cases h with
    | @useqCons _ _ _ cs ds h1 h2 h3 =>
      have := R.useq_take k h3 (by simpa using hk)
      have e : (k + 1) * sz = cs.length + k * sz := by rw [Nat.add_mul, h2]; omega
      rw [e, take_add]
      exact .useqCons h1 h2 this

theorem aref_row {g : G} {w : World} {n off sz lo len : Nat} {path : List Nat} {v : Value} {a : AV} {ps : List AV} (h : V1 g w (.aref n off path sz lo len) v) (hn : resOK g w n (.obj a)) (hp : a.okPath path) (ho : a.offAt path = off)
    (ha : a.at_ path = .vec sz ps) (hl : lo + len ≤ ps.length) :
    ∃ b c cs, v = .slice (some ⟨b, off + lo * sz, none⟩) len c ∧ R g w (.useq sz ((ps.drop lo).take len) cs) ∧ RowAt w b (off + lo * sz) cs ∧ cs.length = len * sz := by
  obtain ⟨b, z, c, hv, hu, hloc, hc⟩ := V1_aref h
  obtain ⟨_, b', z', arr, T', hl', hb, hr, _⟩ := hn
  rw [hloc] at hl'; simp at hl'; obtain ⟨rfl, rfl⟩ := hl'
  obtain ⟨m1, m2⟩ := hr.at_ hp
  rw [ha] at m1 m2
  rw [ho] at m1 m2
  have hrow := (RowAt.of_heap hb).sub off (AV.csize (.vec sz ps))
  rw [Nat.zero_add] at hrow
  have hu : R g w (.useq sz ps ((arr.toList.drop off).take (AV.csize (.vec sz ps)))) := by cases m1; assumption
  have k1 := R.useq_take len (R.useq_drop lo hu (by omega)) (by simp; omega)
  have k2 := (hrow.sub (lo * sz) (len * sz))
  refine ⟨b, c, _, hv, k1, k2, ?_⟩
  have := k1.ulength
  rw [this, List.length_take, List.length_drop, Nat.min_eq_left (by omega)]

theorem src_aref {g : G} {w : World} {n off sz lo len size : Nat} {path : List Nat} {v : Value} {a : AV} {ps : List AV} (h : V1 g w (.aref n off path sz lo len) v) (hn : resOK g w n (.obj a)) (hp : a.okPath path) (ho : a.offAt path = off)
    (ha : a.at_ path = .vec sz ps) (hl : lo + len ≤ ps.length) (hs : sz = size) : SrcSem P g w v ((ps.drop lo).take len) size := by
  subst hs
  obtain ⟨b, c, cs, hv, k1, k2, k3⟩ := aref_row h hn hp ho ha hl
  subst hv
  have e : ((ps.drop lo).take len).length = len := by simp; omega
  refine ⟨fun w' _ => by simp [Builtin.lenOf]; omega, cs, k1, fun w' hw' => ?_⟩
  rw [e]
  simp only [Builtin.firstCells]
  exact loadCells_row (k2.heap hw') _ k3.symm

def G.grow (g : G) (n len : Nat) (x : Option (Nat × Nat × Nat)) : G :=
  { g with loc := fun k e => if k = n ∧ e = len then x else g.loc k e, bd := fun k => if k = n then len else g.bd k }

theorem Delta.grow {g : G} {w : World} {n len : Nat} (h : g.bd n < len) (x : Option (Nat × Nat × Nat)) (D T N : Nat → Prop) (hT : T n) : Delta g w (g.grow n len x) w D T N := by
  refine ⟨⟨fun _ h => h, fun k _ => ?_, fun k _ e he => ?_, fun _ => Nat.le_refl _, fun _ _ _ => rfl⟩, rfl, rfl, rfl, Nat.le_refl _, fun _ _ _ => ⟨rfl, rfl⟩, fun k hk => .inl hk, fun k _ hk => ?_, fun h => h⟩
  · simp only [G.grow]; split
    · rename_i h1; subst h1; omega
    · exact Nat.le_refl _
  · simp only [G.grow]; rw [if_neg (fun h1 => by obtain ⟨rfl, rfl⟩ := h1; omega)]
  · simp only [G.grow]; rw [if_neg (fun h1 => hk (by rw [h1]; exact hT))]

theorem fresh_rows {g : G} {w : World} {L M : List AV} {ocs ncs rest : List Value} {size : Nat} {e : TypeId} (hi : Inv g w) (ho : R g w (.useq size L ocs)) (hn : R g w (.useq size M ncs)) (D T N : Nat → Prop) :
    Delta g w (g.immSet w.heap.size ((L.length + M.length) * size)) (w.drew.alloc (.cells (ocs ++ ncs ++ rest).toArray e)) D T N ∧
      R (g.immSet w.heap.size ((L.length + M.length) * size)) (w.drew.alloc (.cells (ocs ++ ncs ++ rest).toArray e)) (.mem size (L ++ M) w.heap.size 0) := by
  have hd0 : Delta g w g w.drew D T N := ⟨⟨fun _ h => h, fun _ _ => Nat.le_refl _, fun _ _ _ _ => rfl, fun _ => Nat.le_refl _, fun _ _ _ => rfl⟩, rfl, rfl, rfl, Nat.le_refl _, fun _ _ _ => ⟨rfl, rfl⟩, fun _ h => .inl h, fun _ _ _ => rfl, fun h => h⟩
  have hd1 := hd0.trans (Delta.alloc (w := w.drew) hi (.cells (ocs ++ ncs ++ rest).toArray e) ((L.length + M.length) * size) D T N)
  have hd : Delta g w (g.immSet w.heap.size ((L.length + M.length) * size)) (w.drew.alloc (.cells (ocs ++ ncs ++ rest).toArray e)) D T N :=
    hd1.mono (fun _ _ h => h.elim id id) (fun _ _ h => h.elim id id) (fun _ h => h.elim id id)
  refine ⟨hd, ?_⟩
  have hu := (R.useq_append ho hn).ext hd.ext
  have hrow : RowAt (w.drew.alloc (.cells (ocs ++ ncs ++ rest).toArray e)) w.heap.size 0 (ocs ++ ncs ++ rest) := by
    have := RowAt.of_heap (w := w.drew.alloc (.cells (ocs ++ ncs ++ rest).toArray e)) (b := w.heap.size) (T := e) (fz := (0, 0)) (heap_alloc_new w.drew _)
    simpa using this
  have hr2 : RowAt (w.drew.alloc (.cells (ocs ++ ncs ++ rest).toArray e)) w.heap.size 0 (ocs ++ ncs) := by
    have := hrow.sub 0 (ocs ++ ncs).length
    rw [List.drop_zero, List.take_left] at this
    simpa using this
  refine R.mem_of hu hr2 ?_
  have := hu.ulength
  simp [G.immSet] at this ⊢
  omega

theorem firstCells_sl {g : G} {w : World} {L : List AV} {sz size tok : Nat} {base : Option Addr} {c n : Nat} (h : V1 g w (.sl sz L tok) (.slice base n c)) (hs : sz = size ∨ L = []) :
    n = L.length ∧ L.length ≤ c ∧ ∃ ocs, R g w (.useq size L ocs) ∧ ∀ w' : World, w'.heap = w.heap → (Builtin.firstCells size n (.slice base n c)).run P w' = .ok ocs.toArray w' := by
  obtain ⟨h1, ocs, h2, h3⟩ := src_sl (P := P) h hs
  have hn : n = L.length := by
    rcases V1_sl h with ⟨rfl, _, hv⟩ | ⟨b, q, c', hv, _⟩
    · injection hv with _ h2 _
    · injection hv
  have hc : L.length ≤ c := by
    rcases V1_sl h with ⟨rfl, _, hv⟩ | ⟨b, q, c', hv, h5, _⟩
    · simp
    · injection hv with _ _ h2; omega
  subst hn
  exact ⟨rfl, hc, ocs, h2, fun w' hw' => h3 w' hw'⟩

variable {o : Oper} {env : Env} {H : Heap}

theorem op_append_new {T U e : TypeId} {size bz : Nat} {z : AV} {x y : Operand} {sz : Nat} {L M : List AV} {rd : List Nat} {vs : Prop} (n : Nat) (ho : o.op = .call ⟨.builtin .append, #[x, y], #[T, U]⟩) (ht : AppT P T U e size bz z)
    (hx : evA env x = .sl sz L 1)
    (hsrc : ∀ (g : G) (w : World) (v : Value), V1 g w (evA env y) v → (∀ k ∈ rd, ∀ r, H.get k = some r → resOK g w k r) → vs → SrcSem P g w v M size) :
    OpOK P o env H ⟨vs ∧ (sz = size ∨ L = []) ∧ (L.length + M.length) * bz ≤ 2 ^ 46, .sl size (L ++ M) (n + 2), rd, [(n, some (.tail (L.length + M.length)))], [n]⟩ := by
  intro ρ g w hc0 hop hi hrd hnw hvc
  obtain ⟨v1, v2, v3⟩ := hvc
  have hun := hnw n (by simp)
  have h1 := hop x (by simp [Op.operands, ho, Call.operands])
  have h2 := hop y (by simp [Op.operands, ho, Call.operands])
  rw [hx] at h1
  obtain ⟨s1, ncs, s2, s3⟩ := hsrc g w _ h2 (fun k hk => hrd k (.inl hk)) v1
  obtain ⟨base, nn, c, hsv⟩ : ∃ base nn c, ρ x = .slice base nn c := by
    rcases V1_sl h1 with ⟨_, _, hv⟩ | ⟨b, q, c, hv, _⟩ <;> exact ⟨_, _, _, hv⟩
  rw [hsv] at h1
  obtain ⟨hn, hc, ocs, k1, k2⟩ := firstCells_sl (P := P) h1 v2
  have hexact : c = L.length := by
    rcases V1_sl h1 with ⟨rfl, _, hv⟩ | ⟨b, q, c', hv, _, _, ht⟩
    · injection hv with _ _ h3
    · injection hv with _ _ h3; rw [h3]; exact ht
  have hrun : ∀ w' v', (Builtin.append_ #[T, U] o.type #[.slice base nn c, ρ y]).run P w = .ok v' w' → (execOp ρ o).run P w = .ok (.value v') w' := by
    intro w' v' h
    simp [execOp, ho, resolve, invoke, builtin, hsv, h]
  have K : Heap := [(n, some (Res.tail (L.length + M.length)))]
  by_cases hM : M.length = 0
  · have hM' : M = [] := List.length_eq_zero_iff.1 hM
    subst hM'
    have hncs : ncs = [] := by cases s2; rfl
    subst hncs
    have hfit := append_fits (ty := o.type) ht (base := base) (n := nn) (c := c) (m := 0) (s1 w rfl) (s3 w rfl) (by omega)
    have hfit2 : (Builtin.append_ #[T, U] o.type #[.slice base nn c, ρ y]).run P w = .ok (.slice base nn c) w := by
      rw [hfit]
      cases base with
      | none => rfl
      | some a => simp [storeCells]
    have hd := Delta.name (w := w) hun (fun _ => none) (L.length + ([] : List AV).length) (Blks g H (keys [(n, some (Res.tail (L.length + ([] : List AV).length)))])) (· ∈ keys [(n, some (Res.tail (L.length + ([] : List AV).length)))]) (· ∈ [n]) (by simp)
    refine ⟨_, w, _, .inl (hrun _ _ hfit2), ?_, ⟨hd, fun k r hr' hk => ?_, fun k k' r r' b hk hk' _ _ _ _ => ?_⟩⟩
    · rcases V1_sl h1 with ⟨rfl, _, hv⟩ | ⟨b, q, c', hv, q1, q2, q3⟩
      · rw [hv]; exact V0.of_cell (by simpa using .slNil) rfl
      · rw [hv]
        refine V0.of_cell ?_ rfl
        simp only [List.append_nil]
        refine .sl q1 ?_ (.inl ?_)
        · rcases v2 with rfl | rfl
          · exact q2.ext hd.ext
          · exact .memNil
        · injection hv with _ _ h3
    · simp [keys] at hk; subst hk
      simp [Heap.get] at hr'; subst hr'
      exact ⟨⟨.inl rfl, by simp [G.newName], fun b e' c' hb => by simp [G.newName] at hb⟩, fun b hb => by simp [blkOf, G.newName] at hb⟩
    · simp [keys] at hk hk'; omega
  · obtain ⟨cap, rest, g1, g2, g3⟩ := append_grows (ty := o.type) ht (base := base) (n := nn) (c := c) (m := M.length) (s1 w rfl) (k2 w.drew rfl) (s3 w.drew rfl) (by omega) (by rw [hn]; exact v3) (by rw [hn]; exact k1.ulength) s2.ulength
    let D := Blks g H (keys [(n, some (Res.tail (L.length + M.length)))])
    let T' := (· ∈ keys [(n, some (Res.tail (L.length + M.length)))])
    have hname := Delta.name (w := w) hun (fun q => if q = L.length + M.length then some (w.heap.size, (L.length + M.length) * size, cap * size) else none) (L.length + M.length) D T' (· ∈ [n]) (by simp)
    obtain ⟨f1, f2⟩ := fresh_rows (rest := rest) (e := e) (hname.inv hi) (k1.ext hname.ext) (s2.ext hname.ext) D T' (· ∈ [n])
    have hd := (hname.trans f1).mono (D' := D) (T' := T') (N' := (· ∈ [n])) (fun _ _ h => h.elim id id) (fun _ _ h => h.elim id id) (fun _ h => h.elim id id)
    refine ⟨_, _, _, .inl (hrun _ _ g3), ?_, ⟨hd, fun k r hr' hk => ?_, fun k k' r r' b hk hk' _ _ _ _ => ?_⟩⟩
    · refine V0.of_cell ?_ rfl
      have e1 : nn + M.length = (L ++ M).length := by simp; omega
      rw [e1]
      refine .sl (by simp; omega) f2 (.inr ⟨.inl rfl, ?_, ?_⟩)
      · simp [G.immSet, G.newName]
      · simp [G.immSet, G.newName]
    · simp [keys] at hk; subst hk
      simp [Heap.get] at hr'; subst hr'
      refine ⟨⟨.inl rfl, by simp [G.immSet, G.newName], fun b e' c' hb => ?_⟩, fun b hb => .inr ?_⟩
      · simp [G.immSet, G.newName] at hb
        obtain ⟨rfl, rfl, rfl⟩ := hb
        refine ⟨_, e, heap_alloc_new w.drew _, by simp [G.immSet], ?_, ?_⟩
        · simpa using g2
        · exact Nat.mul_le_mul_right size (by omega)
      · simp [blkOf, G.immSet, G.newName] at hb; omega
    · simp [keys] at hk hk'; omega

theorem op_append_tail {T U e : TypeId} {size bz : Nat} {z : AV} {x y : Operand} {sz : Nat} {L M : List AV} {rd : List Nat} {vs : Prop} {n q : Nat} (ho : o.op = .call ⟨.builtin .append, #[x, y], #[T, U]⟩) (ht : AppT P T U e size bz z)
    (hx : evA env x = .sl sz L (n + 2)) (hn : H.get n = some (.tail q))
    (hsrc : ∀ (g : G) (w : World) (v : Value), V1 g w (evA env y) v → (∀ k ∈ rd, ∀ r, H.get k = some r → resOK g w k r) → vs → SrcSem P g w v M size) :
    OpOK P o env H ⟨vs ∧ q = L.length ∧ sz = size ∧ (L.length + M.length) * bz ≤ 2 ^ 46, .sl size (L ++ M) (n + 2), rd, [(n, some (.tail (L.length + M.length)))], []⟩ := by
  intro ρ g w hc0 hop hi hrd hnw hvc
  obtain ⟨v1, v4, v2, v3⟩ := hvc
  have hres := hrd n (.inr (by simp [keys])) _ hn
  obtain ⟨hu, hbd, htl⟩ := hres
  subst v4 v2
  have h1 := hop x (by simp [Op.operands, ho, Call.operands])
  have h2 := hop y (by simp [Op.operands, ho, Call.operands])
  rw [hx] at h1
  obtain ⟨s1, ncs, s2, s3⟩ := hsrc g w _ h2 (fun k hk => hrd k (.inl hk)) v1
  obtain ⟨base, nn, c, hsv⟩ : ∃ base nn c, ρ x = .slice base nn c := by
    rcases V1_sl h1 with ⟨_, _, hv⟩ | ⟨b, q, c, hv, _⟩ <;> exact ⟨_, _, _, hv⟩
  rw [hsv] at h1
  obtain ⟨hnn, hc, ocs, k1, k2⟩ := firstCells_sl (P := P) h1 (.inl rfl)
  have hrun : ∀ w' v', (Builtin.append_ #[T, U] o.type #[.slice base nn c, ρ y]).run P w = .ok v' w' → (execOp ρ o).run P w = .ok (.value v') w' := by
    intro w' v' h
    simp [execOp, ho, resolve, invoke, builtin, hsv, h]
  let D := Blks g H (keys [(n, some (Res.tail (L.length + M.length)))])
  let T' := (· ∈ keys [(n, some (Res.tail (L.length + M.length)))])
  by_cases hM : M.length = 0
  · have hM' : M = [] := List.length_eq_zero_iff.1 hM
    subst hM'
    have hncs : ncs = [] := by cases s2; rfl
    subst hncs
    have hfit := append_fits (ty := o.type) ht (base := base) (n := nn) (c := c) (m := 0) (s1 w rfl) (s3 w rfl) (by omega)
    have hfit2 : (Builtin.append_ #[T, U] o.type #[.slice base nn c, ρ y]).run P w = .ok (.slice base nn c) w := by
      rw [hfit]
      cases base with
      | none => rfl
      | some a => simp [storeCells]
    refine ⟨g, w, _, .inl (hrun _ _ hfit2), ?_, ⟨Delta.refl g w _ _ _, fun k r hr' hk => ?_, fun k k' r r' b hk hk' _ _ _ _ => ?_⟩⟩
    · simp only [List.append_nil]; exact h1
    · simp [keys] at hk; subst hk
      simp [Heap.get] at hr'; subst hr'
      refine ⟨⟨hu, by simpa using hbd, by simpa using htl⟩, fun b hb => .inl ⟨_, _, (by simp [keys]), hn, (by simpa [blkOf] using hb)⟩⟩
    · simp [keys] at hk hk'; omega
  · by_cases hfit : nn + M.length ≤ c
    · -- in place
      rcases V1_sl h1 with ⟨rfl, _, hv⟩ | ⟨b, q, c', hv, q1, q2, q3⟩
      · injection hv with _ _ h3; simp at hnn; omega
      · injection hv with hbase hv2 hv3
        subst hbase hv3
        rcases q3 with q3 | ⟨q3, q4, q5⟩
        · omega
        · obtain ⟨arr, T2, m1, m2, m3, m4⟩ := htl _ _ _ q5
          have hsl := s2.ulength
          have e0 : q + nn * sz + ncs.length = q + (L.length + M.length) * sz := by rw [hnn, hsl, Nat.add_mul]; omega
          have hroom : q + nn * sz + ncs.length ≤ arr.size := by
            rw [e0, m3]; exact Nat.add_le_add_left (Nat.mul_le_mul_right sz (by omega)) q
          have hst := run_storeCells_at P b (q + nn * sz) T2 ncs 0 arr w m1 (by simpa using hroom) (R.oneCells' s2)
          simp only [Nat.add_zero] at hst
          have hf := append_fits (ty := o.type) ht (base := some ⟨b, q, none⟩) (n := nn) (c := c) (m := M.length) (s1 w rfl) (s3 w rfl) hfit
          simp only [add_none, hst, Result.andThen_ok] at hf
          have hDb : D b := ⟨n, _, by simp [keys], hn, by simp [blkOf, q5]⟩
          let new := (arr.toList.take (q + nn * sz) ++ ncs ++ arr.toList.drop (q + nn * sz + ncs.length)).toArray
          have hnew : new.toList = splice arr.toList (q + nn * sz) ncs := by simp [new, splice]
          have hd1 := Delta.setRow (g := g) (new := new) m1 (q + (L.length + M.length) * sz) (by rw [m2, Nat.add_mul]; omega) (fun j hj => by
            have : new.toList[j]? = arr.toList[j]? := by
              rw [hnew, splice_get (by simpa using hroom), if_pos (by rw [hnn]; omega)]
            simpa using this) D T' (· ∈ ([] : List Nat)) hDb
          have hd2 := Delta.grow (g := g.immSet b (q + (L.length + M.length) * sz)) (w := w.setRow b new) (n := n) (len := L.length + M.length) (by simp only [G.immSet]; omega) (some (b, q + (L.length + M.length) * sz, q + c * sz)) D T' (· ∈ ([] : List Nat)) (by simp [T', keys])
          have hd := (hd1.trans hd2).mono (D' := D) (T' := T') (N' := (· ∈ ([] : List Nat))) (fun _ _ h => h.elim id id) (fun _ _ h => h.elim id id) (fun _ h => h.elim id id)
          refine ⟨_, _, _, .inl (hrun _ _ hf), ?_, ⟨hd, fun k r hr' hk => ?_, fun k k' r r' b hk hk' _ _ _ _ => ?_⟩⟩
          · refine V0.of_cell ?_ rfl
            have e1 : nn + M.length = (L ++ M).length := by simp; omega
            rw [e1]
            refine .sl (by simp; omega) (R.mem_append (q2.ext hd.ext) (R.mem_of (s2.ext hd.ext) ?_ ?_)) (.inr ⟨hu, ?_, ?_⟩)
            · have := (RowAt.of_heap (setRow_heap w b arr new T2 (0, 0) m1)).sub (q + nn * sz) ncs.length
              rw [hnew, Nat.zero_add] at this
              have e2 : ((splice arr.toList (q + nn * sz) ncs).drop (q + nn * sz)).take ncs.length = ncs := by
                have hl0 : (arr.toList.take (q + nn * sz)).length = q + nn * sz := by simp; omega
                simp only [splice, List.append_assoc]
                rw [List.drop_append, List.drop_eq_nil_of_le (by omega), hl0, Nat.sub_self, List.drop_zero, List.nil_append, List.take_left]
              rw [e2] at this
              rw [← hnn]; exact this
            · simp only [G.grow, G.immSet, if_true]
              have e3 := e0
              rw [hnn] at e3
              exact Nat.le_of_eq e3
            · simp [G.grow]
            · simp [G.grow]
          · simp [keys] at hk; subst hk
            simp [Heap.get] at hr'; subst hr'
            refine ⟨⟨hu, by simp [G.grow], fun b2 e' c' hb => ?_⟩, fun b2 hb => .inl ?_⟩
            · simp [G.grow] at hb
              obtain ⟨rfl, rfl, rfl⟩ := hb
              refine ⟨_, T2, setRow_heap w b arr new T2 (0, 0) m1, by simp [G.grow, G.immSet], ?_, ?_⟩
              · have : new.toList.length = arr.toList.length := by rw [hnew, splice_length (by simpa using hroom)]
                simp at this
                omega
              · omega
            · simp [blkOf, G.grow] at hb
              subst hb; exact hDb
          · simp [keys] at hk hk'; omega
    · obtain ⟨cap, rest, g1, g2, g3⟩ := append_grows (ty := o.type) ht (base := base) (n := nn) (c := c) (m := M.length) (s1 w rfl) (k2 w.drew rfl) (s3 w.drew rfl) hfit (by rw [hnn]; exact v3) (by rw [hnn]; exact k1.ulength) s2.ulength
      obtain ⟨f1, f2⟩ := fresh_rows (rest := rest) (e := e) hi k1 s2 D T' (· ∈ ([] : List Nat))
      have hd2 := Delta.grow (g := g.immSet w.heap.size ((L.length + M.length) * sz)) (w := w.drew.alloc (.cells (ocs ++ ncs ++ rest).toArray e)) (n := n) (len := L.length + M.length) (by simp only [G.immSet]; omega) (some (w.heap.size, (L.length + M.length) * sz, cap * sz)) D T' (· ∈ ([] : List Nat)) (by simp [T', keys])
      have hd := (f1.trans hd2).mono (D' := D) (T' := T') (N' := (· ∈ ([] : List Nat))) (fun _ _ h => h.elim id id) (fun _ _ h => h.elim id id) (fun _ h => h.elim id id)
      refine ⟨_, _, _, .inl (hrun _ _ g3), ?_, ⟨hd, fun k r hr' hk => ?_, fun k k' r r' b hk hk' _ _ _ _ => ?_⟩⟩
      · refine V0.of_cell ?_ rfl
        have e1 : nn + M.length = (L ++ M).length := by simp; omega
        rw [e1]
        refine .sl (by simp; omega) (f2.ext hd2.ext) (.inr ⟨hu, ?_, ?_⟩)
        · simp [G.grow]
        · simp [G.grow]
      · simp [keys] at hk; subst hk
        simp [Heap.get] at hr'; subst hr'
        refine ⟨⟨hu, by simp [G.grow], fun b e' c' hb => ?_⟩, fun b hb => .inr ?_⟩
        · simp [G.grow] at hb
          obtain ⟨rfl, rfl, rfl⟩ := hb
          refine ⟨_, e, heap_alloc_new w.drew _, by simp [G.grow, G.immSet], ?_, ?_⟩
          · simpa using g2
          · exact Nat.mul_le_mul_right sz (by omega)
        · simp [blkOf, G.grow] at hb; omega
      · simp [keys] at hk hk'; omega
end
end Go.AL

set_option linter.unusedSimpArgs false
set_option linter.unusedVariables false
namespace Go.AL
open Go

def EnvAt (g : G) (w : World) (env : Env) (tmps : Array Value) (t : Nat) : Prop := env.get t = .undef ∨ ∃ v, tmps[t]? = some v ∧ V1 g w (env.get t) v

theorem EnvAt.eval {g : G} {w : World} {env : Env} {a : Act} {t : Nat} (h : EnvAt g w env a.tmps t) : V1 g w (env.get t) (a.eval (.tmp t)) := by
  rcases h with h | ⟨v, h1, h2⟩
  · rw [h]; trivial
  · simpa [Act.eval, h1] using h2

theorem EnvAt.ext {g g' : G} {w w' : World} {env : Env} {tmps : Array Value} {t : Nat} (hx : Ext g w g' w') (h : EnvAt g w env tmps t) : EnvAt g' w' env tmps t :=
  h.imp id fun ⟨v, h1, h2⟩ => ⟨v, h1, h2.ext hx⟩

theorem evA_ok {g : G} {w : World} {env : Env} {a : Act} (x : Operand) (h : ∀ t, x = .tmp t → EnvAt g w env a.tmps t) : V1 g w (evA env x) (a.eval x) := by
  cases x with
  | tmp t => exact (h t rfl).eval
  | const v => exact V1_const g w v
  | global n => trivial
  | func f => exact V0.of_cell (.clos (cs := []) .useqNil (by simp)) rfl

structure HeapOn (g : G) (w : World) (H : Heap) (S : Nat → Prop) : Prop where
  ok : ∀ n, S n → ∀ r, H.get n = some r → resOK g w n r
  disj : ∀ n n' r r' b, S n → S n' → H.get n = some r → H.get n' = some r' → blkOf g n r = some b → blkOf g n' r' = some b → n = n'

theorem HeapOK.on {g : G} {w : World} {H : Heap} (h : HeapOK g w H) (S : Nat → Prop) : HeapOn g w H S :=
  ⟨fun n _ r hr => h.ok n r hr, fun n n' r r' b _ _ => h.disj n n' r r' b⟩

def StepSem (P : Program) (ops : Array Oper) (i : Nat) (o : Oper) (env : Env) (H : Heap) (av : AV) (rd : List Nat) (wr : Heap) (nw : List Nat) (FR : Nat → Prop) : Prop :=
  ∀ (Q : Exit → Act → World → Prop) (a : Act) (g : G) (w : World) (Kc : Act → World → Prop), (∀ t ∈ o.looksAt ops, EnvAt g w env a.tmps t) → Inv g w → HeapOn g w H (fun n => n ∈ rd ∨ n ∈ keys wr) → (∀ n, FR n → ¬ g.use n) →
    (∀ v g' w', V1 g' w' av v → StepPost g w H wr nw g' w' → Kc (a.put o.dst v) w') → wpOp P ops Q i Kc a w

def Wants (ops : Array Oper) (env : Env) (o : Oper) : Prop :=
  ∀ j want, o.guard = some (j, want) → ∃ t, (ops[j]?).bind (·.dst) = some t ∧ env.get t = .val (.bool want)
def Not (ops : Array Oper) (env : Env) (o : Oper) : Prop :=
  ∃ j want t, o.guard = some (j, want) ∧ (ops[j]?).bind (·.dst) = some t ∧ (env.get t = .val (.bool (!want)) ∨ env.get t = .tup [])

theorem mem_looks_guard {ops : Array Oper} {o : Oper} {j : Nat} {want : Bool} {t : Nat} (hg : o.guard = some (j, want)) (ht : (ops[j]?).bind (·.dst) = some t) : t ∈ o.looksAt ops := by
  simp [Oper.looksAt, hg, ht]
theorem mem_looks_operand {ops : Array Oper} {o : Oper} {t : Nat} (h : Operand.tmp t ∈ o.op.operands) : t ∈ o.looksAt ops := by
  refine List.mem_append_left _ (List.mem_filterMap.2 ⟨.tmp t, by simpa using h, rfl⟩)

theorem wants_true {ops : Array Oper} {env : Env} {o : Oper} {a : Act} {g : G} {w : World} (h : Wants ops env o) (he : ∀ t ∈ o.looksAt ops, EnvAt g w env a.tmps t) : Region.wanted o (yielded ops a.tmps) = true := by
  unfold Region.wanted
  cases hg : o.guard with
  | none => rfl
  | some jw =>
    obtain ⟨j, want⟩ := jw
    obtain ⟨t, h1, h2⟩ := h j want hg
    have h3 := he t (mem_looks_guard hg h1)
    rcases h3 with h3 | ⟨v, h3, h4⟩
    · rw [h2] at h3; cases h3
    · rw [h2] at h4
      obtain ⟨rfl, _⟩ := V1_val h4
      simp [yielded, h1, h3]

theorem wants_false {ops : Array Oper} {env : Env} {o : Oper} {a : Act} {g : G} {w : World} (h : Not ops env o) (he : ∀ t ∈ o.looksAt ops, EnvAt g w env a.tmps t) : Region.wanted o (yielded ops a.tmps) = false := by
  obtain ⟨j, want, t, hg, h1, h2⟩ := h
  have h3 := he t (mem_looks_guard hg h1)
  unfold Region.wanted
  rw [hg]
  rcases h3 with h3 | ⟨v, h3, h4⟩
  · rcases h2 with h2 | h2 <;> (rw [h2] at h3; cases h3)
  · rcases h2 with h2 | h2
    · rw [h2] at h4
      obtain ⟨rfl, _⟩ := V1_val h4
      simp [yielded, h1, h3]
    · rw [h2] at h4
      obtain ⟨ws, rfl, _⟩ := h4
      simp [yielded, h1, h3]

theorem StepSem.prim {P : Program} {ops : Array Oper} {i : Nat} {o : Oper} {env : Env} {H : Heap} {out : Out} (hi : ops[i]? = some o) (hw : Wants ops env o) (h : OpOK P o env H out) (hv : out.vc) {FR : Nat → Prop} (hF : ∀ n ∈ out.nw, FR n) :
    StepSem P ops i o env H out.av out.rd out.wr out.nw FR := by
  intro Q a g w Kc he hinv hH hfr hK
  obtain ⟨g', w', v, hrun, h1, h2⟩ := h a.eval g w (fun _ => rfl) (fun x hx => evA_ok x fun t ht => he t (mem_looks_operand (ht ▸ hx))) hinv (fun n hn r hr => hH.ok n hn r hr) (fun n hn => hfr n (hF n hn)) hv
  unfold wpOp
  simp only [hi, wants_true hw he, if_true]
  refine .inl ?_
  unfold Oper.wp
  rcases hrun with hrun | ⟨hrun, rfl⟩
  · rw [hrun]; exact hK v g' w' h1 h2
  · rw [hrun]; exact hK _ g' w' h1 h2

theorem StepSem.skip {P : Program} {ops : Array Oper} {i : Nat} {o : Oper} {env : Env} {H : Heap} (hi : ops[i]? = some o) (hw : Not ops env o) {FR : Nat → Prop} {rd : List Nat} : StepSem P ops i o env H (.tup []) rd [] [] FR := by
  intro Q a g w Kc he hinv hH hfr hK
  unfold wpOp
  simp only [hi, wants_false hw he]
  refine hK Go.undef g w ⟨#[], rfl, by simp, fun i x y hx => by simp at hx⟩ (StepPost.same g w H [])

/-! ### contracts -/
def ArgsOK (g : G) (w : World) (args : List AV) (vs : List Value) : Prop := args.length = vs.length ∧ ∀ (i : Nat) (x : AV) (y : Value), args[i]? = some x → vs[i]? = some y → V1 g w x y

def Callable (P : Program) (f : Nat) : Prop := ∃ fn, P.funcs[f]? = some fn ∧ (fn.name == "runtime.NumGoroutine") = false ∧ fn.body.isNone = false

def FnSpec (P : Program) (f nx : Nat) (args : List AV) (Hc : Heap) (av : AV) (wr : Heap) (k : Nat) : Prop :=
  Callable P f ∧ ∀ (vs : Array Value) (g : G) (w : World), ArgsOK g w args vs.toList → Inv g w → HeapOK g w Hc → (∀ n, nx ≤ n → ¬ g.use n) →
    Calls P f vs w fun e w' => ∃ v g', e = .returned v ∧ V1 g' w' av v ∧ StepPost g w Hc wr ((List.range k).map (nx + ·)) g' w'

def SubH : Heap → Heap → Prop
  | [], _ => True
  | (n, r) :: t, H => (match r with
      | some (.robj a) => Res.obj? (H.get n) = some a
      | some (.rmp a) => Res.mp? (H.get n) = some a
      | some r => H.get n = some r
      | none => False) ∧ SubH t H

theorem SubH.get {H : Heap} : ∀ {Hc : Heap} {n : Nat} {r : Res}, SubH Hc H → Hc.get n = some r → H.get n = some r ∨ (∃ a, r = .robj a ∧ Res.obj? (H.get n) = some a) ∨ ∃ a, r = .rmp a ∧ Res.mp? (H.get n) = some a
  | [], n, r, _, h => by simp [Heap.get] at h
  | (k, s) :: t, n, r, hs, h => by
    obtain ⟨h1, h2⟩ := hs
    simp only [Heap.get] at h
    by_cases hk : k = n
    · rw [if_pos hk] at h
      subst hk h
      cases r with
      | robj a => exact .inr (.inl ⟨a, rfl, h1⟩)
      | rmp a => exact .inr (.inr ⟨a, rfl, h1⟩)
      | _ => exact .inl h1
    · rw [if_neg hk] at h
      exact SubH.get h2 h

theorem SubH.res {H : Heap} {Hc : Heap} {n : Nat} {r : Res} (hs : SubH Hc H) (h : Hc.get n = some r) : ∃ r', H.get n = some r' ∧ (∀ g, blkOf g n r' = blkOf g n r) ∧ ∀ g w, resOK g w n r' → resOK g w n r := by
  rcases hs.get h with h1 | ⟨a, rfl, h1⟩ | ⟨a, rfl, h1⟩
  · exact ⟨r, h1, fun _ => rfl, fun _ _ h => h⟩
  · cases hr : H.get n with
    | none => simp [hr, Res.obj?] at h1
    | some r =>
      cases r <;> simp [hr, Res.obj?] at h1 <;> subst h1 <;> exact ⟨_, rfl, fun _ => rfl, fun _ _ h => h⟩
  · cases hr : H.get n with
    | none => simp [hr, Res.mp?] at h1
    | some r =>
      cases r <;> simp [hr, Res.mp?] at h1 <;> subst h1
      · exact ⟨_, rfl, fun _ => rfl, fun _ _ h => h⟩
      · exact ⟨_, rfl, fun _ => rfl, fun _ _ h => h⟩
      · exact ⟨_, rfl, fun _ => rfl, fun _ _ ⟨h0, b, x, arr, h1, h2, h3, h4⟩ => ⟨h0, b, x, arr, _, h1, h2, ⟨⟨_, .refl _, h3.1⟩, h3.2.1, h3.2.2.1⟩, h4⟩⟩

theorem get_some_key {H : Heap} {n : Nat} {r : Res} (h : H.get n = some r) : n ∈ keys H := by
  rcases Classical.em (n ∈ keys H) with h1 | h1
  · exact h1
  · rw [Heap.get_none H n h1] at h; cases h

theorem StepSem.call {P : Program} {ops : Array Oper} {i : Nat} {o : Oper} {env : Env} {H : Heap} {x : Operand} {xs : Array Operand} {ts : Array TypeId} {f nx k : Nat} {caps : List AV} {Hc wr : Heap} {av : AV} (hi : ops[i]? = some o) (hw : Wants ops env o)
    (ho : o.op = .call ⟨.value x, xs, ts⟩) (hx : evA env x = .clos f caps) (h : FnSpec P f nx (xs.toList.map (evA env) ++ caps) Hc av wr k) (hs : SubH Hc H) {rd : List Nat} (hrd : ∀ n ∈ keys Hc, n ∈ rd) (hwk : ∀ n ∈ keys wr, n ∈ rd ∨ nx ≤ n) :
    StepSem P ops i o env H av rd wr ((List.range k).map (nx + ·)) (fun n => nx ≤ n) := by
  intro Q a g w Kc he hinv hH hfr hK
  obtain ⟨⟨fn, hf1, hf2, hf3⟩, hcall⟩ := h
  have hop : ∀ y ∈ o.op.operands, V1 g w (evA env y) (a.eval y) := fun y hy => evA_ok y fun t ht => he t (mem_looks_operand (ht ▸ hy))
  have h1 := hop x (by simp [Op.operands, ho, Call.operands])
  rw [hx] at h1
  obtain ⟨cs, hv, hcs, hag⟩ := V1_clos h1
  have hexec : (execOp a.eval o).run P w = .ok (.enter f (xs.map a.eval ++ cs.toArray)) w := by
    have e1 : (callFunc f (xs.map a.eval ++ cs.toArray)).run P w = .ok (.enter f (xs.map a.eval ++ cs.toArray)) w := by
      unfold callFunc
      simp only [Sem.run_bind, run_program, Result.andThen_ok, hf1]
      simp [hf2, hf3] at *
    simp [execOp, ho, resolve, Deferred.ofValue, hv, invoke, e1]
  have hargs : ArgsOK g w (xs.toList.map (evA env) ++ caps) (xs.map a.eval ++ cs.toArray).toList := by
    have hl : cs.length = caps.length := by have := hcs.ulength; omega
    refine ⟨by simp [hl], fun j y z hy hz => ?_⟩
    simp only [Array.toList_append, Array.toList_map] at hz
    rcases Nat.lt_or_ge j xs.toList.length with hj | hj
    · rw [List.getElem?_append_left (by simpa using hj), List.getElem?_map, List.getElem?_eq_getElem hj] at hy hz
      simp only [Option.map_some, Option.some.injEq] at hy hz
      subst hy hz
      exact hop _ (by
        have : xs.toList[j] ∈ xs := Array.mem_toList_iff.1 (List.getElem_mem hj)
        simp [Op.operands, ho, Call.operands, this])
    · rw [List.getElem?_append_right (by simpa using hj)] at hy hz
      simp only [List.length_map] at hy hz
      generalize j - xs.toList.length = m at hy hz
      have hm : m < caps.length := by
        rcases Nat.lt_or_ge m caps.length with h | h
        · exact h
        · rw [List.getElem?_eq_none h] at hy; cases hy
      obtain ⟨k1, k2, k3⟩ := hcs.useq_part hm
      have e1 : caps.getD m .undef = y := by rw [List.getD_eq_getElem?_getD, hy]; rfl
      have hz' : cs[m]? = some z := by simpa using hz
      have hmc : m < cs.length := by omega
      have e2 : (cs.drop (m * 1)).take 1 = [z] := by
        rw [Nat.mul_one, List.drop_eq_getElem_cons hmc]
        rw [List.getElem?_eq_getElem hmc] at hz'
        injection hz' with hz'
        rw [hz']; rfl
      rw [e1, e2] at k1
      exact .of_V0 (V0.of_cell k1 (hag y (List.mem_of_getElem? hy)))
  have hHc : HeapOK g w Hc := by
    refine ⟨fun n r hr => ?_, fun n n' r r' b hr hr' hb hb' => ?_⟩
    · obtain ⟨r', q1, q2, q3⟩ := hs.res hr
      exact q3 _ _ (hH.ok n (.inl (hrd n (get_some_key hr))) r' q1)
    · obtain ⟨s, q1, q2, _⟩ := hs.res hr
      obtain ⟨s', q1', q2', _⟩ := hs.res hr'
      exact hH.disj n n' s s' b (.inl (hrd n (get_some_key hr))) (.inl (hrd n' (get_some_key hr'))) q1 q1' (by rw [q2]; exact hb) (by rw [q2']; exact hb')
  have hmono : ∀ b, Blks g Hc (keys wr) b → Blks g H (keys wr) b := by
    rintro b ⟨n, r, hn, hr, hb⟩
    obtain ⟨s, q1, q2, _⟩ := hs.res hr
    exact ⟨n, s, hn, q1, by rw [q2]; exact hb⟩
  unfold wpOp
  simp only [hi, wants_true hw he, if_true]
  refine .inl ?_
  unfold Oper.wp
  rw [hexec, Oper.upon_enter]
  refine (hcall _ g w hargs hinv hHc hfr).mono ?_
  rintro e w' ⟨v, g', rfl, hv', hp⟩
  exact hK v g' w' hv' ⟨hp.delta.mono (fun b _ hb => hmono b hb) (fun _ _ h => h) (fun _ h => h),
    fun n r hr hn => ⟨(hp.res n r hr hn).1, fun b hb => ((hp.res n r hr hn).2 b hb).imp (hmono b) id⟩, hp.disj⟩

end Go.AL

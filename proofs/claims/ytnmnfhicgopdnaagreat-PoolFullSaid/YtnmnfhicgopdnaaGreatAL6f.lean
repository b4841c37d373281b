/-
  The layer AL, part 6e: slices made, copied; bytes and texts.
-/
import Derived.Test.YtnmnfhicgopdnaaGreatAL6d
import Derived.Laws.IdiomStrings
import Derived.MapKept
import GoSem.Builtin.Delete
set_option linter.unusedSimpArgs false
set_option linter.unusedVariables false
namespace Go.AL
open Go

section
variable {P : Program} {o : Oper} {env : Env} {H : Heap}

theorem useq_replicate {g : G} {w : World} {z : AV} {cs : List Value} (h : R g w (.one z cs)) : ∀ n : Nat, R g w (.useq cs.length (List.replicate n z) (List.replicate n cs).flatten)
  | 0 => .useqNil
  | n + 1 => by
    rw [List.replicate_succ, List.replicate_succ, List.flatten_cons]
    exact .useqCons h rfl (useq_replicate h n)

theorem flatten_replicate_get (cs : List Value) (hc : 0 < cs.length) : ∀ (n j : Nat), j < n * cs.length → (List.replicate n cs).flatten[j]? = cs[j % cs.length]?
  | 0, j, h => by omega
  | n + 1, j, h => by
    rw [List.replicate_succ, List.flatten_cons]
    by_cases hj : j < cs.length
    · rw [List.getElem?_append_left hj, Nat.mod_eq_of_lt hj]
    · rw [List.getElem?_append_right (by omega), flatten_replicate_get cs hc n (j - cs.length) (by rw [Nat.add_mul] at h; omega)]
      rw [← Nat.mod_eq_sub_mod (by omega)]

theorem madeCells_list (z : Array Value) (n : Nat) : (madeCells z (n * z.size)).toList = (List.replicate n z.toList).flatten := by
  have hl : (madeCells z (n * z.size)).toList.length = n * z.size := by simp [madeCells]
  have hl2 : (List.replicate n z.toList).flatten.length = n * z.size := by simp [List.length_flatten, Nat.mul_comm]
  apply List.ext_getElem?
  intro j
  rcases Nat.lt_or_ge j (n * z.size) with hj | hj
  · have hz : 0 < z.size := by
      rcases Nat.eq_zero_or_pos z.size with h | h
      · rw [h] at hj; omega
      · exact h
    rw [flatten_replicate_get z.toList (by simpa using hz) n j (by simpa using hj)]
    have hm : j % z.size < z.size := Nat.mod_lt _ hz
    simp [madeCells, hj, hm]
  · rw [List.getElem?_eq_none (by omega), List.getElem?_eq_none (by omega)]

theorem made_run {T e : TypeId} {size bz : Nat} {z : AV} {w : World} (hT : tsl P T = some e) (hs : tsz P e = some size) (hb : tby P e = some bz) (hz : ZeroOK P e z) (hzs : z.csize = size) {k k' : IntKind} {l c : Int} (h0 : 0 ≤ l) (hlc : l ≤ c) (hlim : bz * c.toNat ≤ 2 ^ 48) (h63 : c < 2 ^ 62) :
    ∃ cells : Array Value, (∀ g w, R g w (.useq size (List.replicate c.toNat z) cells.toList)) ∧ cells.size = c.toNat * size ∧
      (Instr.makeSlice T (.int k l) (.int k' c)).run P w = .ok (.slice (some ⟨w.heap.size, 0, none⟩) l.toNat c.toNat) (w.alloc (.cells cells e)) := by
  obtain ⟨zv, hz1, hz2⟩ := hz
  cases hq : P.info? e with
  | none => simp [hq] at hz1
  | some i =>
    simp [hq] at hz1
    have hsz : i.size = size := by simp [tsz, hq] at hs; exact hs
    have hbz : i.bytes = bz := by simp [tby, hq] at hb; exact hb
    have hzl : ∀ g w, zv.cells.toList.length = size := fun g w => by rw [(hz2 g w).1.length, hzs]
    have hzl' : zv.cells.size = size := by simpa using hzl ⟨fun _ => True, fun _ _ => none, fun _ => 0, fun _ => 0⟩ w
    refine ⟨madeCells zv.cells (c.toNat * i.size), fun g w => ?_, by simp [madeCells, hsz], ?_⟩
    · rw [hsz, ← hzl', madeCells_list]
      have := useq_replicate (hz2 g w).1 c.toNat
      simpa using this
    · refine run_make w T e i zv (tsl_und hT) hq hz1 k k' l c h0 hlc ?_ (by omega)
      rw [hbz]
      have : (bz : Int) * c = ((bz * c.toNat : Nat) : Int) := by
        rw [Int.natCast_mul, Int.toNat_of_nonneg (by omega)]
      rw [this]; omega

/-- a slice made to be written -/
theorem op_makeSlice_obj {T e : TypeId} {x y : Operand} {size bz : Nat} {z : AV} {k k' : IntKind} {l c : Int} (n : Nat) (ho : o.op = .makeSlice T x y) (hT : tsl P T = some e) (hs : tsz P e = some size) (hb : tby P e = some bz) (hz : ZeroOK P e z)
    (hx : evA env x = .val (.int k l)) (hy : evA env y = .val (.int k' c)) :
    OpOK P o env H ⟨z.csize = size ∧ 0 ≤ l ∧ l ≤ c ∧ bz * c.toNat ≤ 2 ^ 48 ∧ c < 2 ^ 62, .aref n 0 [] size 0 l.toNat, [], [(n, some (.obj (.vec size (List.replicate c.toNat z))))], [n]⟩ := by
  intro ρ g w hc0 hop hi _ hn hvc
  obtain ⟨v1, v2, v3, v4, v5⟩ := hvc
  have h1 := hop x (by simp [Op.operands, ho])
  have h2 := hop y (by simp [Op.operands, ho])
  rw [hx] at h1; rw [hy] at h2
  obtain ⟨e1, _⟩ := V1_val h1
  obtain ⟨e2, _⟩ := V1_val h2
  obtain ⟨cells, c1, c2, c3⟩ := made_run (w := w) (k := k) (k' := k') hT hs hb hz v1 v2 v3 v4 v5
  obtain ⟨g', k1, k2⟩ := objNew (H := H) (T := e) (a := .vec size (List.replicate c.toNat z)) hi (hn n (by simp)) (.vec (c1 g w))
  refine ⟨g', _, _, .inl (by simp [execOp, ho, e1, e2, c3]; rfl), ?_, k2⟩
  obtain ⟨b, xx, q1, q2, q3⟩ := V1_ref k1
  simp at q1
  subst q1
  have h4 := R.aref (g := g') (w := w.alloc (.cells cells e)) (off := 0) (path := []) (sz := size) (lo := 0) (len := l.toNat) (c := c.toNat) q2 q3 (by omega)
  rw [Nat.zero_mul] at h4
  exact V0.of_cell h4 rfl

/-- a slice made to be appended to -/
theorem op_makeSlice_tail {T e : TypeId} {x y : Operand} {size bz : Nat} {z : AV} {k k' : IntKind} {l c : Int} (n : Nat) (ho : o.op = .makeSlice T x y) (hT : tsl P T = some e) (hs : tsz P e = some size) (hb : tby P e = some bz) (hz : ZeroOK P e z)
    (hx : evA env x = .val (.int k l)) (hy : evA env y = .val (.int k' c)) :
    OpOK P o env H ⟨z.csize = size ∧ l = 0 ∧ 0 ≤ c ∧ bz * c.toNat ≤ 2 ^ 48 ∧ c < 2 ^ 62, .sl size [] (n + 2), [], [(n, some (.tail 0))], [n]⟩ := by
  intro ρ g w hc0 hop hi _ hn hvc
  obtain ⟨v1, rfl, v3, v4, v5⟩ := hvc
  have h1 := hop x (by simp [Op.operands, ho])
  have h2 := hop y (by simp [Op.operands, ho])
  rw [hx] at h1; rw [hy] at h2
  obtain ⟨e1, _⟩ := V1_val h1
  obtain ⟨e2, _⟩ := V1_val h2
  obtain ⟨cells, c1, c2, c3⟩ := made_run (w := w) (k := k) (k' := k') hT hs hb hz v1 (Int.le_refl 0) v3 v4 v5
  have hun := hn n (by simp)
  have hd1 := Delta.name (w := w) hun (fun e => if e = 0 then some (w.heap.size, 0, c.toNat * size) else none) 0 (Blks g H (keys [(n, some (Res.tail 0))])) (· ∈ keys [(n, some (Res.tail 0))]) (· ∈ [n]) (by simp)
  have hd0 := hd1.trans (Delta.alloc (o := .cells cells e) (hd1.inv hi) 0 (Blks g H (keys [(n, some (Res.tail 0))])) (· ∈ keys [(n, some (Res.tail 0))]) (· ∈ [n]))
  have hd := hd0.mono (D' := Blks g H (keys [(n, some (.tail 0))])) (T' := (· ∈ keys [(n, some (Res.tail 0))])) (N' := (· ∈ [n])) (fun _ _ h => h.elim id id) (fun _ _ h => h.elim id id) (fun _ h => h.elim id id)
  refine ⟨_, _, _, .inl (by simp [execOp, ho, e1, e2, c3]; rfl), ?_, ⟨hd, fun k r hr' hk => ?_, fun k k' r r' b hk hk' _ _ _ _ => ?_⟩⟩
  · refine V0.of_cell (R.sl (L := []) (b := w.heap.size) (o := 0) (c := c.toNat) (Nat.zero_le _) .memNil (.inr ⟨.inl rfl, Nat.zero_le _, ?_⟩)) rfl
    simp [G.immSet, G.newName]
  · simp [keys] at hk; subst hk
    simp [Heap.get] at hr'; subst hr'
    refine ⟨⟨.inl rfl, by simp [G.immSet, G.newName], fun b endc capc hl => ?_⟩, fun b hb => .inr ?_⟩
    · simp [G.immSet, G.newName] at hl
      obtain ⟨rfl, rfl, rfl⟩ := hl
      exact ⟨cells, e, heap_alloc_new w _, by simp [G.immSet], c2, Nat.zero_le _⟩
    · simp [blkOf, G.immSet, G.newName] at hb; omega
  · simp [keys] at hk hk'; omega

/-- a slice made as it is: nobody writes to it -/
theorem op_makeSlice_imm {T e : TypeId} {x y : Operand} {size bz : Nat} {z : AV} {k k' : IntKind} {l c : Int} (ho : o.op = .makeSlice T x y) (hT : tsl P T = some e) (hs : tsz P e = some size) (hb : tby P e = some bz) (hz : ZeroOK P e z)
    (hx : evA env x = .val (.int k l)) (hy : evA env y = .val (.int k' c)) :
    OpOK P o env H ⟨z.csize = size ∧ 0 ≤ l ∧ l = c ∧ bz * c.toNat ≤ 2 ^ 48 ∧ c < 2 ^ 62, .sl size (List.replicate c.toNat z) 1, [], [], []⟩ := by
  intro ρ g w hc0 hop hi _ hn hvc
  obtain ⟨v1, v2, rfl, v4, v5⟩ := hvc
  have h1 := hop x (by simp [Op.operands, ho])
  have h2 := hop y (by simp [Op.operands, ho])
  rw [hx] at h1; rw [hy] at h2
  obtain ⟨e1, _⟩ := V1_val h1
  obtain ⟨e2, _⟩ := V1_val h2
  obtain ⟨cells, c1, c2, c3⟩ := made_run (w := w) (k := k) (k' := k') hT hs hb hz v1 v2 (Int.le_refl l) v4 v5
  have hd := Delta.alloc hi (.cells cells e) (l.toNat * size) (Blks g H (keys [])) (· ∈ keys ([] : Heap)) (· ∈ ([] : List Nat))
  refine ⟨_, _, _, .inl (by simp [execOp, ho, e1, e2, c3]; rfl), ?_, ⟨hd, fun n r _ hn => by simp at hn, fun n n' r r' b hn => by simp at hn⟩⟩
  refine V0.of_cell ?_ rfl
  have hlen : (List.replicate l.toNat z).length = l.toNat := List.length_replicate
  have hm : R (g.immSet w.heap.size (l.toNat * size)) (w.alloc (.cells cells e)) (.mem size (List.replicate l.toNat z) w.heap.size 0) := by
    refine R.mem_of ((c1 g w).ext hd.ext) (RowAt.of_heap (T := e) (fz := (0, 0)) (heap_alloc_new w _)) ?_
    simp [G.immSet, c2]
  have := R.sl (g := g.immSet w.heap.size (l.toNat * size)) (tok := 1) (L := List.replicate l.toNat z) (c := l.toNat) (by rw [hlen]; exact Nat.le_refl _) hm (by show l.toNat = _; rw [hlen])
  rw [hlen] at this
  exact this

/-! ### copy -/
def setRange (ps : List AV) (lo : Nat) (M : List AV) : List AV := ps.take lo ++ M ++ ps.drop (lo + M.length)

theorem useq_splice {g : G} {w : World} {sz : Nat} {ps M : List AV} {cs ms : List Value} (h : R g w (.useq sz ps cs)) (hm : R g w (.useq sz M ms)) {lo : Nat} (hl : lo + M.length ≤ ps.length) :
    R g w (.useq sz (setRange ps lo M) (splice cs (lo * sz) ms)) := by
  unfold setRange splice
  have e := hm.ulength
  refine R.useq_append (R.useq_append (R.useq_take lo h (by omega)) hm) ?_
  have := R.useq_drop (lo + M.length) h hl
  rw [Nat.add_mul] at this
  rw [e]; exact this

theorem OpOK.of_vc' {P : Program} {o : Oper} {env : Env} {H : Heap} {vc vc' : Prop} {av : AV} {rd : List Nat} {wr : Heap} {nw : List Nat} (h : vc' → vc ∧ OpOK P o env H ⟨vc, av, rd, wr, nw⟩) : OpOK P o env H ⟨vc', av, rd, wr, nw⟩ :=
  fun ρ g w h0 h1 h2 h3 h4 h5 => (h h5).2 ρ g w h0 h1 h2 h3 h4 (h h5).1
theorem op_copy_gen {T U e : TypeId} {x y : Operand} {a : AV} {n off sz lo len : Nat} {path : List Nat} {ps M : List AV} {rd : List Nat} {vs : Prop} (ho : o.op = .call ⟨.builtin .copy, #[x, y], #[T, U]⟩) (hT : tsl P T = some e) (hs : tsz P e = some sz)
    (hx : evA env x = .aref n off path sz lo len) (hn : H.get n = some (.obj a)) (ha : a.at_ path = .vec sz ps)
    (hsrc : ∀ (g : G) (w : World) (v : Value), V1 g w (evA env y) v → (∀ k ∈ rd, ∀ r, H.get k = some r → resOK g w k r) → vs → ∃ N : Nat, (Builtin.lenOf v).run P w = .ok N w ∧ Nat.min N len = M.length ∧ ∃ cs, R g w (.useq sz M cs) ∧ (Builtin.firstCells sz M.length v).run P w = .ok cs.toArray w) :
    OpOK P o env H ⟨vs ∧ a.okPath path ∧ a.offAt path = off ∧ lo + len ≤ ps.length ∧ M.length ≤ len, .val (.int .i64 M.length), rd, [(n, some (.obj (a.setAt path (.vec sz (setRange ps lo M)))))], []⟩ := by
  intro ρ g w hc0 hop hi hrd _ hvc
  obtain ⟨v0, v1, v2, v3, v4⟩ := hvc
  have h1 := hop x (by simp [Op.operands, ho, Call.operands])
  have h2 := hop y (by simp [Op.operands, ho, Call.operands])
  rw [hx] at h1
  obtain ⟨b, z, c, hv, hu, hloc, hc⟩ := V1_aref h1
  obtain ⟨N, s1, hmin, ms, s2, s3⟩ := hsrc g w _ h2 (fun k hk r hr => hrd k (.inl hk) r hr) v0
  obtain ⟨_, b', z', arr, T', hl', hb, hr, him⟩ := hrd n (.inr (by simp [keys])) _ hn
  rw [hloc] at hl'; simp at hl'; obtain ⟨rfl, rfl⟩ := hl'
  obtain ⟨m1, m2⟩ := hr.at_ v1
  rw [ha, v2] at m1 m2
  have hpu : R g w (.useq sz ps ((arr.toList.drop off).take (AV.csize (.vec sz ps)))) := by cases m1; assumption
  have hml := s2.ulength
  have hcs : AV.csize (.vec sz ps) = ps.length * sz := rfl
  rw [hcs] at m2 hpu
  have hle : lo * sz + M.length * sz ≤ ps.length * sz := by rw [← Nat.add_mul]; exact Nat.mul_le_mul_right _ (by omega)
  have hst := run_storeCells_at P b (off + lo * sz) T' ms 0 arr w hb (by simp at m2 ⊢; omega) (R.oneCells' s2)
  simp only [Nat.add_zero] at hst
  have hsp := useq_splice hpu s2 (lo := lo) (by omega)
  have hnew := (hr.setAt v1 (R.vec hsp) (by rw [ha]; simp [AV.csize, setRange]; congr 1; omega)).1
  rw [v2] at hnew
  have hcell : splice arr.toList off (splice ((arr.toList.drop off).take (ps.length * sz)) (lo * sz) ms) = splice arr.toList (off + lo * sz) ms := by
    have := splice_splice (cs := arr.toList) (o1 := off) (m := ps.length * sz) (o2 := lo * sz) (new := ms) m2 (by omega)
    exact this
  have hblk : Blks g H (keys [(n, some (Res.obj (a.setAt path (.vec sz (setRange ps lo M)))))]) b := ⟨n, _, by simp [keys], hn, by simp [blkOf, hloc]⟩
  have hd := Delta.setRow (g := g) (new := (splice arr.toList (off + lo * sz) ms).toArray) hb 0 (by omega) (fun j hj => by omega) (Blks g H (keys [(n, some (Res.obj (a.setAt path (.vec sz (setRange ps lo M)))))])) (· ∈ keys [(n, some (Res.obj (a.setAt path (.vec sz (setRange ps lo M)))))]) (· ∈ ([] : List Nat)) hblk
  refine ⟨_, _, _, .inl ?_, V1_mk rfl, ⟨hd, fun k r hr' hk => ?_, fun k k' r r' b hk hk' _ _ _ _ => ?_⟩⟩
  · simp [execOp, ho, resolve, invoke, builtin, Builtin.copy_, run_underlying (tsl_und hT), hv, s1, hmin, tsz_run hs, s3, hst, goInt, splice]
  · simp [keys] at hk; subst hk
    simp [Heap.get] at hr'; subst hr'
    refine ⟨⟨hu, b, z, _, T', hloc, setRow_heap w b arr _ T' (0, 0) hb, ?_, by simp [G.immSet]⟩, fun b2 hb2 => .inl ?_⟩
    · rw [hcell] at hnew
      simpa using hnew.ext hd.ext
    · simp [blkOf, G.immSet, hloc] at hb2; subst hb2; exact hblk
  · simp [keys] at hk hk'; omega

theorem op_copy {T U e : TypeId} {x y : Operand} {a : AV} {n off sz lo len : Nat} {path : List Nat} {ps M : List AV} {rd : List Nat} {vs : Prop} (ho : o.op = .call ⟨.builtin .copy, #[x, y], #[T, U]⟩) (hT : tsl P T = some e) (hs : tsz P e = some sz)
    (hx : evA env x = .aref n off path sz lo len) (hn : H.get n = some (.obj a)) (ha : a.at_ path = .vec sz ps)
    (hsrc : ∀ (g : G) (w : World) (v : Value), V1 g w (evA env y) v → (∀ k ∈ rd, ∀ r, H.get k = some r → resOK g w k r) → vs → SrcSem P g w v M sz) :
    OpOK P o env H ⟨vs ∧ a.okPath path ∧ a.offAt path = off ∧ lo + len ≤ ps.length ∧ M.length ≤ len, .val (.int .i64 M.length), rd, [(n, some (.obj (a.setAt path (.vec sz (setRange ps lo M)))))], []⟩ :=
  .of_vc' fun hv => ⟨hv, op_copy_gen ho hT hs hx hn ha fun g w v h1 h2 h3 => by
    obtain ⟨s1, ms, s2, s3⟩ := hsrc g w v h1 h2 h3
    exact ⟨_, s1 w rfl, Nat.min_eq_left hv.2.2.2.2, ms, s2, s3 w rfl⟩⟩
/-- a copy for which there is not room for all -/
theorem op_copy_short {T U e : TypeId} {x y : Operand} {a : AV} {n off sz lo len tok : Nat} {path : List Nat} {ps L : List AV} (ho : o.op = .call ⟨.builtin .copy, #[x, y], #[T, U]⟩) (hT : tsl P T = some e) (hs : tsz P e = some sz)
    (hx : evA env x = .aref n off path sz lo len) (hy : evA env y = .sl sz L tok) (hn : H.get n = some (.obj a)) (ha : a.at_ path = .vec sz ps) :
    OpOK P o env H ⟨a.okPath path ∧ a.offAt path = off ∧ lo + len ≤ ps.length ∧ len ≤ L.length, .val (.int .i64 (L.take len).length), [], [(n, some (.obj (a.setAt path (.vec sz (setRange ps lo (L.take len))))))], []⟩ :=
  .of_vc' fun hv => ⟨(⟨trivial, hv.1, hv.2.1, hv.2.2.1, by rw [List.length_take]; omega⟩ : True ∧ a.okPath path ∧ a.offAt path = off ∧ lo + len ≤ ps.length ∧ (L.take len).length ≤ len), op_copy_gen (rd := []) (vs := True) ho hT hs hx hn ha fun g w v h1 _ _ => by
    rw [hy] at h1
    have hlen : (L.take len).length = len := by rw [List.length_take]; omega
    rcases V1_sl h1 with ⟨rfl, base, rfl⟩ | ⟨b, q, c, rfl, hc, hm, _⟩
    · refine ⟨0, by simp [Builtin.lenOf], by simp, [], by simpa using R.useqNil, ?_⟩
      cases base with
      | none => simp [Builtin.firstCells]
      | some a => simp [Builtin.firstCells, loadCells, loadCellsFrom]
    · obtain ⟨cs, k1, k2, _⟩ := (hm.mem_take len).mem_cells
      refine ⟨L.length, by simp [Builtin.lenOf], by rw [hlen]; exact Nat.min_eq_right hv.2.2.2, cs, k1, ?_⟩
      simp only [Builtin.firstCells]
      exact loadCells_row k2 _ k1.ulength.symm⟩

/-! ### bytes to text -/
theorem bytes_cells {g : G} {w : World} : ∀ {L : List AV} {cs : List Value}, R g w (.useq 1 L cs) → (∀ a ∈ L, isByte a) → ∃ xs : List Int, cs = xs.map (Value.int .u8) ∧ xs.map (fun n => UInt8.ofNat n.toNat) = L.map byteOf
  | [], cs, h, _ => by
    have := h.ulength
    have : cs = [] := List.eq_nil_of_length_eq_zero (by simpa using this)
    exact ⟨[], by rw [this]; rfl, rfl⟩
  | a :: L, cs, h, hb => by
    generalize hs : Sh.useq 1 (a :: L) cs = s at h
    cases h <;> simp at hs
    rename_i sz' a' L' c1 c2 h1 h2 h3
    obtain ⟨rfl, ⟨rfl, rfl⟩, rfl⟩ := hs
    obtain ⟨xs, q1, q2⟩ := bytes_cells h3 (fun x hx => hb x (List.mem_cons_of_mem _ hx))
    have ha := hb a List.mem_cons_self
    unfold isByte at ha
    split at ha
    · rename_i n
      generalize hs : Sh.one (.val (.int .u8 n)) c1 = s at h1
      cases h1 <;> simp at hs
      obtain ⟨rfl, rfl⟩ := hs
      exact ⟨n :: xs, by simp [q1], by simp [q2, byteOf]⟩
    · exact ha.elim

theorem op_bytesToString {S T e : TypeId} {x : Operand} {sz tok : Nat} {L : List AV} (ho : o.op = .convert S T x) (hx : evA env x = .sl sz L tok) (hS : tsl P S = some e) (he : tint P e = some .u8) (hT : tstr P T = some ()) :
    OpOK P o env H ⟨(sz = 1 ∨ L = []) ∧ ∀ a ∈ L, isByte a, .val (.string (bstr (L.map byteOf))), [], [], []⟩ := by
  refine .pure fun ρ g w hop _ hvc => ?_
  obtain ⟨v1, v2⟩ := hvc
  have h1 := hop x (by simp [Op.operands, ho])
  rw [hx] at h1
  refine ⟨_, ?_, V1_mk rfl⟩
  rcases V1_sl h1 with ⟨rfl, base, hv⟩ | ⟨b, q, c, hv, hc, hm, _⟩
  · cases base with
    | none =>
      simp [execOp, ho, hv, run_convert_bytes_nil w S e (tsl_und hS) (tint_und he) 0 0 T (tstr_und hT)]
      rfl
    | some a =>
      simp [execOp, ho, hv, run_convert_bytes_string w S T e (some a) 0 0 (tsl_und hS) (tint_und he) (tstr_und hT), Conv.bytesToString, loadCells, loadCellsFrom]
      rfl
  · rcases v1 with rfl | rfl
    · obtain ⟨cs, k1, k2, _⟩ := hm.mem_cells
      obtain ⟨xs, q1, q2⟩ := bytes_cells k1 v2
      have hl : xs.length = L.length := by have := congrArg List.length q2; simpa using this
      have := run_convert_bytes_arg w S e (tsl_und hS) (tint_und he) b q L.length c xs hl (fun i hi => by
        have : cs[i]? = some (.int .u8 (xs.getD i 0)) := by
          rw [q1, List.getElem?_map, List.getD_eq_getElem?_getD, List.getElem?_eq_getElem (by omega)]
          rfl
        exact k2 i _ this) T (tstr_und hT)
      simp only [execOp, ho, hv, Sem.run_bind, this, Result.andThen_ok, Sem.run_pure]
      have : strOfNums xs = bstr (L.map byteOf) := by rw [strOfNums, bstr, q2]
      rw [this]
    · have := run_convert_bytes_arg w S e (tsl_und hS) (tint_und he) b q 0 c [] rfl (fun i hi => by omega) T (tstr_und hT)
      simp only [List.length_nil] at hv
      simp only [execOp, ho, hv, Sem.run_bind, this, Result.andThen_ok, Sem.run_pure]
      rfl

/-- '[]byte(s)': a new row. -/
theorem op_stringToBytes {S T e : TypeId} {x : Operand} {s : ByteArray} (ho : o.op = .convert S T x) (hx : evA env x = .val (.string s)) (hS : tstr P S = some ()) (hT : tsl P T = some e) (he : tint P e = some .u8) :
    OpOK P o env H ⟨True, .sl 1 (s.data.toList.map fun b => AV.val (.int .u8 b.toNat)) 0, [], [], []⟩ := by
  intro ρ g w hc0 hop hi _ _ _
  have h1 := hop x (by simp [Op.operands, ho])
  rw [hx] at h1
  obtain ⟨hv, _⟩ := V1_val h1
  have hrun := run_bytes_of_string w S T e s (tstr_und hS) (tsl_und hT) (tint_und he)
  generalize hcap : grownCap w s.size 0 e = cap at hrun
  generalize hrow : bytesRow s cap = row at hrun
  have hle : s.size ≤ cap := by rw [← hcap]; exact grownCap_ge _ _ _ _
  have hd0 : Delta g w g w.drew (Blks g H (keys [])) (· ∈ keys ([] : Heap)) (· ∈ ([] : List Nat)) := ⟨⟨fun _ h => h, fun _ _ => Nat.le_refl _, fun _ _ _ _ => rfl, fun _ => Nat.le_refl _, fun _ _ _ => rfl⟩, rfl, rfl, rfl, Nat.le_refl _, fun _ _ _ => ⟨rfl, rfl⟩, fun _ h => .inl h, fun _ _ _ => rfl, fun h => h⟩
  have hd1 := hd0.trans (Delta.alloc (w := w.drew) hi (.cells row e (row.size, row.size + 1)) s.size (Blks g H (keys [])) (· ∈ keys ([] : Heap)) (· ∈ ([] : List Nat)))
  have hd := hd1.mono (D' := Blks g H (keys [])) (T' := (· ∈ keys ([] : Heap))) (N' := (· ∈ ([] : List Nat))) (fun _ _ h => h.elim id id) (fun _ _ h => h.elim id id) (fun _ h => h.elim id id)
  refine ⟨_, _, .slice (some ⟨w.heap.size, 0, none⟩) s.size cap, .inl ?_, ?_, ⟨hd, fun n r _ hn => by simp at hn, fun n n' r r' b hn => by simp at hn⟩⟩
  · simp only [execOp, ho, hv, Sem.run_bind, hrun, Result.andThen_ok, Sem.run_pure]
  · have hu : ∀ (g' : G) (w' : World) (l : List UInt8), R g' w' (.useq 1 (l.map fun b => AV.val (.int .u8 b.toNat)) (l.map fun b => Value.int .u8 b.toNat)) := by
      intro g' w' l
      induction l with
      | nil => exact .useqNil
      | cons b l ih => exact .useqCons (cs := [Value.int .u8 b.toNat]) (.val rfl) rfl ih
    have hlen : (s.data.toList.map fun b => Value.int .u8 b.toNat).length = s.size := by rw [List.length_map]; rfl
    have hat : RowAt (w.drew.alloc (.cells row e (row.size, row.size + 1))) w.heap.size 0 (s.data.toList.map fun b => Value.int .u8 b.toNat) := by
      have h0 := RowAt.of_heap (T := e) (fz := (row.size, row.size + 1)) (arr := row) (heap_alloc_new w.drew _)
      intro j v hj
      refine h0 j v ?_
      have hjl := (List.getElem?_eq_some_iff.1 hj).1
      rw [← hrow, bytesRow]
      simp only [Array.toList_append, Array.toList_map]
      rw [List.getElem?_append_left hjl]
      exact hj
    have hm : R (g.immSet w.heap.size s.size) (w.drew.alloc (.cells row e (row.size, row.size + 1))) (.mem 1 (s.data.toList.map fun b => AV.val (.int .u8 b.toNat)) w.heap.size 0) := by
      refine R.mem_of (hu _ _ _) hat ?_
      rw [hlen]
      simp [G.immSet]
    have hl2 : (s.data.toList.map fun b => AV.val (.int .u8 b.toNat)).length = s.size := by rw [List.length_map]; rfl
    have := R.sl (g := g.immSet w.heap.size s.size) (tok := 0) (c := cap) (by rw [hl2]; exact hle) hm trivial
    rw [hl2] at this
    exact V0.of_cell this rfl
end
end Go.AL

/-
  The layer AL, part 6f: maps: looked up, written, cleared of a key, counted.
-/
set_option linter.unusedSimpArgs false
set_option linter.unusedVariables false
namespace Go.AL
open Go

/-- what stands under a key -/
noncomputable def lookA (k : AV) : List (AV × AV) → Option AV
  | [] => none
  | (a, v) :: r => if eqB k a then some v else lookA k r
/-- a key is written -/
noncomputable def setA (k v : AV) : List (AV × AV) → List (AV × AV)
  | [] => [(k, v)]
  | (a, u) :: r => if eqB k a then (k, v) :: r else (a, u) :: setA k v r
/-- a key is cleared -/
noncomputable def delA (k : AV) : List (AV × AV) → List (AV × AV)
  | [] => []
  | (a, u) :: r => if eqB k a then r else (a, u) :: delA k r

/-- A key that the rules know: a whole number. -/
def keyOK (P : Program) (T : TypeId) (a : AV) : Prop :=
  match a with
  | .val (.int k _) => tint P T = some k
  | _ => False
theorem keyOK_inv {P : Program} {T : TypeId} {a : AV} (h : keyOK P T a) : ∃ k x, a = .val (.int k x) ∧ P.underlying T = some (.int k) := by
  unfold keyOK at h
  split at h
  · exact ⟨_, _, rfl, tint_und h⟩
  · exact h.elim

theorem MapR.length {g : G} {w : World} {es : List (AV × AV)} {L : List MapEntry} (h : MapR g w es L) : es.length = L.length := by
  induction h with
  | nil => rfl
  | cons _ _ _ ih => simp [ih]
theorem MapR.append {g : G} {w : World} {es fs : List (AV × AV)} {L M : List MapEntry} (h : MapR g w es L) (h2 : MapR g w fs M) : MapR g w (es ++ fs) (L ++ M) := by
  induction h with
  | nil => exact h2
  | cons k1 k2 _ ih => exact .cons k1 k2 ih

/-- how a key is found among whole numbers -/
theorem find_int {P : Program} {T : TypeId} {g : G} {w : World} {kd : IntKind} {x : Int} (hu : P.underlying T = some (.int kd)) : ∀ {es : List (AV × AV)} {L : List MapEntry} (j0 : Nat), MapR g w es L → (∀ p ∈ es, keyOK P T p.1) →
    (lookA (.val (.int kd x)) es = none ∧ Instr.findNow (.int kd) (.int kd x) L j0 = some none ∧ (∀ v, setA (.val (.int kd x)) v es = es ++ [(.val (.int kd x), v)]) ∧ delA (.val (.int kd x)) es = es) ∨
    (∃ j e v, lookA (.val (.int kd x)) es = some v ∧ Instr.findNow (.int kd) (.int kd x) L j0 = some (some (j0 + j, e.val)) ∧ L[j]? = some e ∧ e.key = .int kd x ∧ V0 g w v e.val ∧
      (∀ g' w' (a : AV) (v' : Value) (b : Nat), MapR g' w' es L → V0 g' w' a v' → MapR g' w' (setA (.val (.int kd x)) a es) (L.set j { e with key := .int kd x, val := v' })) ∧
      (∀ g' w', MapR g' w' es L → MapR g' w' (delA (.val (.int kd x)) es) (L.eraseIdx j)))
  | _, _, j0, .nil, _ => .inl ⟨rfl, rfl, fun _ => rfl, rfl⟩
  | _, _, j0, .cons (p := p) (es := es) (e := e) (L := L) h1 h2 h3, hk => by
    obtain ⟨kd', y, hp, hu'⟩ := keyOK_inv (hk p (by simp))
    rw [hu] at hu'; injection hu' with hu'; injection hu' with hu'; subst hu'
    obtain ⟨a, b⟩ := p
    simp only at hp; subst hp
    obtain ⟨he, _⟩ := V1_val (.of_V0 h1)
    by_cases e1 : x = y
    · subst e1
      have q : eqB (.val (.int kd x)) (.val (.int kd x)) = true := eqB_yes rfl
      refine .inr ⟨0, e, b, by simp [lookA, q], by simp [Instr.findNow, Instr.sameNow, he], rfl, he, h2, fun g' w' a v' _ hm ha => ?_, fun g' w' hm => ?_⟩
      · cases hm with
        | cons m1 m2 m3 =>
          simp only [setA, q, if_true, List.set_cons_zero]
          exact .cons (by simpa [he] using m1) ha m3
      · cases hm with
        | cons m1 m2 m3 =>
          simp only [delA, q, if_true, List.eraseIdx_cons_zero]
          exact m3
    · have q : eqB (.val (.int kd x)) (.val (.int kd y)) = false := eqB_no fun h => e1 (by injection h with h; injection h)
      have q2 : Instr.sameNow (.int kd) (.int kd x) e.key = some false := by simp [Instr.sameNow, he, e1]
      rcases find_int (x := x) hu (j0 + 1) h3 (fun p hp => hk p (by simp [hp])) with ⟨a1, a2, a3, a4⟩ | ⟨j, e', v, a1, a2, a3, a4, a5, a6, a7⟩
      · exact .inl ⟨by simp [lookA, q, a1], by simp [Instr.findNow, q2, a2], fun v => by simp [setA, q, a3], by simp [delA, q, a4]⟩
      · refine .inr ⟨j + 1, e', v, by simp [lookA, q, a1], by simp only [Instr.findNow, q2, a2]; congr 3; omega, by simpa using a3, a4, a5, fun g' w' a v' _ hm ha => ?_, fun g' w' hm => ?_⟩
        · cases hm with
          | cons m1 m2 m3 =>
            simp only [setA, q, Bool.false_eq_true, if_false, List.set_cons_succ]
            exact .cons m1 m2 (a6 g' w' a v' 0 m3 ha)
        · cases hm with
          | cons m1 m2 m3 =>
            simp only [delA, q, Bool.false_eq_true, if_false, List.eraseIdx_cons_succ]
            exact .cons m1 m2 (a7 g' w' m3)

section
variable {P : Program} {o : Oper} {env : Env} {H : Heap}

theorem mpRes {g : G} {w : World} {n : Nat} {es : List (AV × AV)} (hn : Res.mp? (H.get n) = some es) (h : ∀ r, H.get n = some r → resOK g w n r) : resOK g w n (.mp es) := by
  cases hr : H.get n with
  | none => simp [hr, Res.mp?] at hn
  | some r => cases r <;> simp [hr, Res.mp?] at hn <;> (subst hn; have h2 := h _ hr; exact h2)

theorem checkKey_int {w : World} {T : TypeId} {k : IntKind} {x : Int} (hu : P.underlying T = some (.int k)) (b : Bool) : (Instr.checkKey b 10000 T (.int k x)).run P w = .ok () w :=
  MapKept.run_checkKey hu (show MapKept.IsKey (.int k) (.int k x) from rfl) b 9999

theorem findKey_of {w : World} {T : TypeId} {d : TypeDesc} {k : Value} {es : List MapEntry} {r : Option (Nat × Value)} (hu : P.underlying T = some d) (h : Instr.findNow d k es 0 = some r) : (Instr.findKey T k es).run P w = .ok r w := by
  simp [Instr.findKey, run_underlying hu, h]

theorem op_lookup {T kt et : TypeId} {x y : Operand} {c : Bool} {n : Nat} {es : List (AV × AV)} {z : AV} (ho : o.op = .lookup T x y c) (hx : evA env x = .map n) (hn : Res.mp? (H.get n) = some es) (hT : tmap P T = some (kt, et)) (hz : ZeroOK P et z) :
    OpOK P o env H ⟨keyOK P kt (evA env y) ∧ ∀ p ∈ es, keyOK P kt p.1, if c then .tup [(lookA (evA env y) es).getD z, .val (.bool (lookA (evA env y) es).isSome)] else (lookA (evA env y) es).getD z, [n], [], []⟩ := by
  refine .pure fun ρ g w hop hrd hvc => ?_
  obtain ⟨v1, v2⟩ := hvc
  have h1 := hop x (by simp [Op.operands, ho])
  have h2 := hop y (by simp [Op.operands, ho])
  obtain ⟨kd, i, hy, hu⟩ := keyOK_inv v1
  rw [hx] at h1
  rw [hy] at h2 ⊢
  obtain ⟨b, y', hv, huse, hl⟩ := V1_map h1
  obtain ⟨hi, _⟩ := V1_val h2
  obtain ⟨_, b', x', arr, clk, hl', hb, hr, _⟩ := mpRes hn (hrd n (by simp))
  rw [hl] at hl'; simp at hl'; obtain ⟨rfl, rfl⟩ := hl'
  obtain ⟨zv, hz1, hz2⟩ := hz.run
  have hget := MapKept.run_getObj_map (P := P) hb
  have hck := checkKey_int (P := P) (w := w) (x := i) hu
  have fin : ∀ (a : AV) (v : Value) (s : Bool), V0 g w a v → lookA (.val (.int kd i)) es = (if s then some a else none) → (s = false → a = z) →
      V1 g w (if c then .tup [(lookA (.val (.int kd i)) es).getD z, .val (.bool (lookA (.val (.int kd i)) es).isSome)] else (lookA (.val (.int kd i)) es).getD z) (if c then .tuple #[v, .bool s] else v) := by
    intro a v s ha hs hsz
    have e1 : (lookA (.val (.int kd i)) es).getD z = a := by rw [hs]; cases s <;> simp [hsz]
    have e2 : (lookA (.val (.int kd i)) es).isSome = s := by rw [hs]; cases s <;> rfl
    rw [e1, e2]
    cases c with
    | false => exact .of_V0 ha
    | true =>
      refine ⟨_, rfl, rfl, fun j p q hp hq => ?_⟩
      match j, hp, hq with
      | 0, hp, hq => simp at hp hq; subst hp hq; exact .inr ha
      | 1, hp, hq =>
        simp at hp hq; subst hp hq
        exact .inr (V0.of_cell (.val rfl) rfl)
      | j + 2, hp, hq => simp at hp
  rcases find_int (x := i) hu 0 hr v2 with ⟨a1, a2, _⟩ | ⟨j, e, v, a1, a2, a3, a4, a5, _⟩
  · have hf := findKey_of (P := P) (w := w) hu a2
    refine ⟨_, ?_, fin z zv false (hz2 g w) (by rw [a1]; rfl) (fun _ => rfl)⟩
    simp [execOp, ho, hv, hi, Instr.lookup, run_underlying (tmap_und hT), hget, hck, hf, hz1]
  · have hf := findKey_of (P := P) (w := w) hu a2
    refine ⟨_, ?_, fin v e.val true a5 (by rw [a1]; rfl) (fun h => by cases h)⟩
    simp [execOp, ho, hv, hi, Instr.lookup, run_underlying (tmap_und hT), hget, hck, hf]

theorem op_lookup_nil {T kt et : TypeId} {x y : Operand} {c : Bool} {z : AV} (ho : o.op = .lookup T x y c) (hx : evA env x = .val (.map none)) (hT : tmap P T = some (kt, et)) (hz : ZeroOK P et z) :
    OpOK P o env H ⟨keyOK P kt (evA env y), if c then .tup [z, .val (.bool false)] else z, [], [], []⟩ := by
  refine .pure fun ρ g w hop hrd hvc => ?_
  have h1 := hop x (by simp [Op.operands, ho])
  have h2 := hop y (by simp [Op.operands, ho])
  obtain ⟨kd, i, hy, hu⟩ := keyOK_inv hvc
  rw [hx] at h1
  rw [hy] at h2
  obtain ⟨hv, _⟩ := V1_val h1
  obtain ⟨hi, _⟩ := V1_val h2
  obtain ⟨zv, hz1, hz2⟩ := hz.run
  have hck := checkKey_int (P := P) (w := w) (x := i) hu
  have hf : (Instr.findKey kt (.int kd i) []).run P w = .ok none w := findKey_of hu rfl
  refine ⟨if c then .tuple #[zv, .bool false] else zv, ?_, ?_⟩
  · simp [execOp, ho, hv, hi, Instr.lookup, run_underlying (tmap_und hT), hck, hf, hz1]
  · cases c with
    | false => exact .of_V0 (hz2 g w)
    | true =>
      refine ⟨_, rfl, rfl, fun j p q hp hq => ?_⟩
      match j, hp, hq with
      | 0, hp, hq => simp at hp hq; subst hp hq; exact .inr (hz2 g w)
      | 1, hp, hq =>
        simp at hp hq; subst hp hq
        exact .inr (V0.of_cell (.val rfl) rfl)
      | j + 2, hp, hq => simp at hp

theorem Delta.setMap {g : G} {w : World} {b : Nat} {ob ob' : Obj} (hb : w.heap[b]? = some ob) (him : g.imm b = 0) (D T N : Nat → Prop) (hD : D b) :
    Delta g w g { w with heap := w.heap.setIfInBounds b ob' } D T N := by
  have hold : ∀ k, k ≠ b → (w.heap.setIfInBounds b ob')[k]? = w.heap[k]? := fun k hk => by
    rw [Array.getElem?_setIfInBounds_ne (by omega)]
  refine ⟨⟨fun _ h => h, fun _ _ => Nat.le_refl _, fun _ _ _ _ => rfl, fun k => Nat.le_refl _, fun k q hq => ?_⟩, rfl, rfl, rfl, by simp, fun k hk hd => ⟨hold k (fun h => hd (by rw [h]; exact hD)), rfl⟩, fun _ h => .inl h, fun _ _ _ => rfl, fun hi k hk => hi k (by simpa using hk)⟩
  have hk : k ≠ b := fun h => by rw [h, him] at hq; omega
  simp [World.cell?, hold k hk]

theorem modify_set {arr : Array MapEntry} {j : Nat} {e : MapEntry} (f : MapEntry → MapEntry) (h : arr.toList[j]? = some e) : (arr.modify j f).toList = arr.toList.set j (f e) := by
  apply List.ext_getElem?
  intro k
  rw [Array.getElem?_toList, Array.getElem?_modify, List.getElem?_set]
  by_cases hk : j = k
  · subst hk
    rw [Array.getElem?_toList] at h
    have hlt : j < arr.size := by
      rcases Nat.lt_or_ge j arr.size with h' | h'
      · exact h'
      · rw [Array.getElem?_eq_none h'] at h; cases h
    obtain ⟨_, rfl⟩ := Array.getElem?_eq_some_iff.1 h
    simp [hlt]
  · simp [hk]

theorem op_mapUpdate {T kt et : TypeId} {x y v : Operand} {n : Nat} {es : List (AV × AV)} (ho : o.op = .mapUpdate T x y v ∨ o.op = .insert T x y v) (hx : evA env x = .map n) (hn : H.get n = some (.mp es)) (hT : tmap P T = some (kt, et)) :
    OpOK P o env H ⟨keyOK P kt (evA env y) ∧ (∀ p ∈ es, keyOK P kt p.1) ∧ (evA env v).good = true, .undef, [], [(n, some (.mp (setA (evA env y) (evA env v) es)))], []⟩ := by
  intro ρ g w hc0 hop hi hrd _ hvc
  obtain ⟨v1, v2, v3⟩ := hvc
  have hops : o.op.operands = #[x, y, v] := by rcases ho with ho | ho <;> simp [Op.operands, ho]
  have h1 := hop x (by simp [hops])
  have h2 := hop y (by simp [hops])
  have h3 := (hop v (by simp [hops])).toV0 v3
  obtain ⟨kd, i, hy, hu⟩ := keyOK_inv v1
  rw [hx] at h1
  rw [hy] at h2 ⊢
  obtain ⟨b, y', hv, huse, hl⟩ := V1_map h1
  obtain ⟨hi', _⟩ := V1_val h2
  obtain ⟨_, b', x', arr, clk, hl', hb, hr, him⟩ := hrd n (.inr (by simp [keys])) _ hn
  rw [hl] at hl'; simp at hl'; obtain ⟨rfl, rfl⟩ := hl'
  have hget := MapKept.run_getObj_map (P := P) hb
  have hset := fun o' => MapKept.run_setObj_map (P := P) o' hb
  have hck := checkKey_int (P := P) (w := w) (x := i) hu
  have hblk : Blks g H (keys [(n, some (Res.mp (setA (.val (.int kd i)) (evA env v) es)))]) b := ⟨n, _, by simp [keys], hn, by simp [blkOf, hl]⟩
  have fin : ∀ (arr' : Array MapEntry) (clk' : Nat), (execOp ρ o).run P w = .ok .skip { w with heap := w.heap.setIfInBounds b (.map arr' clk') } →
      (∀ w', Delta g w g w' (Blks g H (keys [(n, some (Res.mp (setA (.val (.int kd i)) (evA env v) es)))])) (· ∈ keys [(n, some (Res.mp (setA (.val (.int kd i)) (evA env v) es)))]) (· ∈ ([] : List Nat)) → MapR g w' (setA (.val (.int kd i)) (evA env v) es) arr'.toList) →
      ∃ g' w' u, ((execOp ρ o).run P w = .ok (.value u) w' ∨ ((execOp ρ o).run P w = .ok .skip w' ∧ u = Go.undef)) ∧ V1 g' w' .undef u ∧ StepPost g w H [(n, some (.mp (setA (.val (.int kd i)) (evA env v) es)))] [] g' w' := by
    intro arr' clk' hrun hm
    have hd := Delta.setMap (g := g) (ob' := .map arr' clk') hb him (Blks g H (keys [(n, some (Res.mp (setA (.val (.int kd i)) (evA env v) es)))])) (· ∈ keys [(n, some (Res.mp (setA (.val (.int kd i)) (evA env v) es)))]) (· ∈ ([] : List Nat)) hblk
    refine ⟨g, _, Go.undef, .inr ⟨hrun, rfl⟩, trivial, ⟨hd, fun k r hr' hk => ?_, fun k k' r r' b2 hk hk' _ _ _ _ => ?_⟩⟩
    · simp [keys] at hk; subst hk
      simp [Heap.get] at hr'; subst hr'
      have hlt : b < w.heap.size := by
        rcases Nat.lt_or_ge b w.heap.size with h' | h'
        · exact h'
        · rw [Array.getElem?_eq_none h'] at hb; cases hb
      refine ⟨⟨huse, b, y', arr', clk', hl, by simp [hlt], hm _ hd, him⟩, fun b2 hb2 => .inl ?_⟩
      simp [blkOf, hl] at hb2; subst hb2; exact hblk
    · simp [keys] at hk hk'; omega
  rcases find_int (x := i) hu 0 hr v2 with ⟨a1, a2, a3, _⟩ | ⟨j, e, u, a1, a2, a3, a4, a5, a6, _⟩
  · have hf := findKey_of (P := P) (w := w) hu a2
    refine fin (arr.push { key := .int kd i, val := ρ v, born := clk }) (clk + 1) ?_ fun w' hd => ?_
    · rcases ho with ho | ho <;> simp [execOp, ho, hv, hi', Instr.mapUpdate, run_underlying (tmap_und hT), hget, hck, hf, hset]
    · rw [a3, Array.toList_push]
      exact (hr.ext hd.ext).append (.cons (by simpa [hi'] using (V0.of_cell (.val rfl) rfl : V0 g w' (.val (.int kd i)) (.int kd i))) (h3.ext hd.ext) .nil)
  · have hf := findKey_of (P := P) (w := w) hu a2
    have hj : arr[j]? = some e := by rw [← Array.getElem?_toList]; exact a3
    have hks := MapKept.run_keyThatStays (P := P) (w := w) (d := .int kd) (k := .int kd i) (show MapKept.IsKey (.int kd) (.int kd i) from rfl)
    refine fin (arr.modify j fun e => { e with key := .int kd i, val := ρ v }) clk ?_ fun w' hd => ?_
    · rcases ho with ho | ho <;> simp [execOp, ho, hv, hi', Instr.mapUpdate, run_underlying (tmap_und hT), hget, hck, hf, hset, hj, a4, hks]
    · rw [modify_set _ a3]
      exact a6 g w' _ _ 0 (hr.ext hd.ext) (h3.ext hd.ext)
end
end Go.AL

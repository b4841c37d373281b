/-
  The layer AL, part 6e: slices made, copied; bytes and texts.
-/
import Derived.Test.YtaghcjbpjnpkbaaGreatAL6d
import Derived.Laws.IdiomStrings
set_option linter.unusedSimpArgs false
set_option linter.unusedVariables false
namespace Go.AL
open Go

section
variable {P : Program} {o : Oper} {env : Env} {H : Heap}

theorem useq_replicate {g : G} {w : World} {z : AV} {cs : List Value} (h : R g w (.one z cs)) : ∀ n : Nat, R g w (.useq cs.length (List.replicate n z) (List.replicate n cs).flatten)
  | 0 => .useqNil
  | n + 1 => by
    rw [List.replicate_succ, List.replicate_succ, List.flatten_cons]
    exact .useqCons h rfl (useq_replicate h n)

theorem flatten_replicate_get (cs : List Value) (hc : 0 < cs.length) : ∀ (n j : Nat), j < n * cs.length → (List.replicate n cs).flatten[j]? = cs[j % cs.length]?
  | 0, j, h => by omega
  | n + 1, j, h => by
    rw [List.replicate_succ, List.flatten_cons]
    by_cases hj : j < cs.length
    · rw [List.getElem?_append_left hj, Nat.mod_eq_of_lt hj]
    · rw [List.getElem?_append_right (by omega), flatten_replicate_get cs hc n (j - cs.length) (by rw [Nat.add_mul] at h; omega)]
      rw [← Nat.mod_eq_sub_mod (by omega)]

theorem madeCells_list (z : Array Value) (n : Nat) : (madeCells z (n * z.size)).toList = (List.replicate n z.toList).flatten := by
  have hl : (madeCells z (n * z.size)).toList.length = n * z.size := by simp [madeCells]
  have hl2 : (List.replicate n z.toList).flatten.length = n * z.size := by simp [List.length_flatten, Nat.mul_comm]
  apply List.ext_getElem?
  intro j
  rcases Nat.lt_or_ge j (n * z.size) with hj | hj
  · have hz : 0 < z.size := by
      rcases Nat.eq_zero_or_pos z.size with h | h
      · rw [h] at hj; omega
      · exact h
    rw [flatten_replicate_get z.toList (by simpa using hz) n j (by simpa using hj)]
    have hm : j % z.size < z.size := Nat.mod_lt _ hz
    simp [madeCells, hj, hm]
  · rw [List.getElem?_eq_none (by omega), List.getElem?_eq_none (by omega)]

theorem made_run {T e : TypeId} {size bz : Nat} {z : AV} {w : World} (hT : tsl P T = some e) (hs : tsz P e = some size) (hb : tby P e = some bz) (hz : ZeroOK P e z) (hzs : z.csize = size) {k k' : IntKind} {l c : Int} (h0 : 0 ≤ l) (hlc : l ≤ c) (hlim : bz * c.toNat ≤ 2 ^ 48) (h63 : c < 2 ^ 62) :
    ∃ cells : Array Value, (∀ g w, R g w (.useq size (List.replicate c.toNat z) cells.toList)) ∧ cells.size = c.toNat * size ∧
      (Instr.makeSlice T (.int k l) (.int k' c)).run P w = .ok (.slice (some ⟨w.heap.size, 0, none⟩) l.toNat c.toNat) (w.alloc (.cells cells e)) := by
  obtain ⟨zv, hz1, hz2⟩ := hz
  cases hq : P.info? e with
  | none => simp [hq] at hz1
  | some i =>
    simp [hq] at hz1
    have hsz : i.size = size := by simp [tsz, hq] at hs; exact hs
    have hbz : i.bytes = bz := by simp [tby, hq] at hb; exact hb
    have hzl : ∀ g w, zv.cells.toList.length = size := fun g w => by rw [(hz2 g w).1.length, hzs]
    have hzl' : zv.cells.size = size := by simpa using hzl ⟨fun _ => True, fun _ _ => none, fun _ => 0, fun _ => 0⟩ w
    refine ⟨madeCells zv.cells (c.toNat * i.size), fun g w => ?_, by simp [madeCells, hsz], ?_⟩
    · rw [hsz, ← hzl', madeCells_list]
      have := useq_replicate (hz2 g w).1 c.toNat
      simpa using this
    · refine run_make w T e i zv (tsl_und hT) hq hz1 k k' l c h0 hlc ?_ (by omega)
      rw [hbz]
      have : (bz : Int) * c = ((bz * c.toNat : Nat) : Int) := by
        rw [Int.natCast_mul, Int.toNat_of_nonneg (by omega)]
      rw [this]; omega

theorem op_makeSlice_obj {T e : TypeId} {x y : Operand} {size bz : Nat} {z : AV} {k k' : IntKind} {l c : Int} (n : Nat) (ho : o.op = .makeSlice T x y) (hT : tsl P T = some e) (hs : tsz P e = some size) (hb : tby P e = some bz) (hz : ZeroOK P e z)
    (hx : evA env x = .val (.int k l)) (hy : evA env y = .val (.int k' c)) :
    OpOK P o env H ⟨z.csize = size ∧ 0 ≤ l ∧ l ≤ c ∧ bz * c.toNat ≤ 2 ^ 48 ∧ c < 2 ^ 62, .aref n 0 [] size 0 l.toNat, [], [(n, some (.obj (.vec size (List.replicate c.toNat z))))], [n]⟩ := by
  intro ρ g w hc0 hop hi _ hn hvc
  obtain ⟨v1, v2, v3, v4, v5⟩ := hvc
  have h1 := hop x (by simp [Op.operands, ho])
  have h2 := hop y (by simp [Op.operands, ho])
  rw [hx] at h1; rw [hy] at h2
  obtain ⟨e1, _⟩ := V1_val h1
  obtain ⟨e2, _⟩ := V1_val h2
  obtain ⟨cells, c1, c2, c3⟩ := made_run (w := w) (k := k) (k' := k') hT hs hb hz v1 v2 v3 v4 v5
  obtain ⟨g', k1, k2⟩ := objNew (H := H) (T := e) (a := .vec size (List.replicate c.toNat z)) hi (hn n (by simp)) (.vec (c1 g w))
  refine ⟨g', _, _, .inl (by simp [execOp, ho, e1, e2, c3]; rfl), ?_, k2⟩
  obtain ⟨b, xx, q1, q2, q3⟩ := V1_ref k1
  simp at q1
  subst q1
  have h4 := R.aref (g := g') (w := w.alloc (.cells cells e)) (off := 0) (path := []) (sz := size) (lo := 0) (len := l.toNat) (c := c.toNat) q2 q3 (by omega)
  rw [Nat.zero_mul] at h4
  exact V0.of_cell h4 rfl

theorem op_makeSlice_tail {T e : TypeId} {x y : Operand} {size bz : Nat} {z : AV} {k k' : IntKind} {l c : Int} (n : Nat) (ho : o.op = .makeSlice T x y) (hT : tsl P T = some e) (hs : tsz P e = some size) (hb : tby P e = some bz) (hz : ZeroOK P e z)
    (hx : evA env x = .val (.int k l)) (hy : evA env y = .val (.int k' c)) :
    OpOK P o env H ⟨z.csize = size ∧ l = 0 ∧ 0 ≤ c ∧ bz * c.toNat ≤ 2 ^ 48 ∧ c < 2 ^ 62, .sl size [] (n + 2), [], [(n, some (.tail 0))], [n]⟩ := by
  intro ρ g w hc0 hop hi _ hn hvc
  obtain ⟨v1, rfl, v3, v4, v5⟩ := hvc
  have h1 := hop x (by simp [Op.operands, ho])
  have h2 := hop y (by simp [Op.operands, ho])
  rw [hx] at h1; rw [hy] at h2
  obtain ⟨e1, _⟩ := V1_val h1
  obtain ⟨e2, _⟩ := V1_val h2
  obtain ⟨cells, c1, c2, c3⟩ := made_run (w := w) (k := k) (k' := k') hT hs hb hz v1 (Int.le_refl 0) v3 v4 v5
  have hun := hn n (by simp)
  have hd1 := Delta.name (w := w) hun (fun e => if e = 0 then some (w.heap.size, 0, c.toNat * size) else none) 0 (Blks g H (keys [(n, some (Res.tail 0))])) (· ∈ keys [(n, some (Res.tail 0))]) (· ∈ [n]) (by simp)
  have hd0 := hd1.trans (Delta.alloc (o := .cells cells e) (hd1.inv hi) 0 (Blks g H (keys [(n, some (Res.tail 0))])) (· ∈ keys [(n, some (Res.tail 0))]) (· ∈ [n]))
  have hd := hd0.mono (D' := Blks g H (keys [(n, some (.tail 0))])) (T' := (· ∈ keys [(n, some (Res.tail 0))])) (N' := (· ∈ [n])) (fun _ _ h => h.elim id id) (fun _ _ h => h.elim id id) (fun _ h => h.elim id id)
  refine ⟨_, _, _, .inl (by simp [execOp, ho, e1, e2, c3]; rfl), ?_, ⟨hd, fun k r hr' hk => ?_, fun k k' r r' b hk hk' _ _ _ _ => ?_⟩⟩
  · refine V0.of_cell (R.sl (L := []) (b := w.heap.size) (o := 0) (c := c.toNat) (Nat.zero_le _) .memNil (.inr ⟨.inl rfl, Nat.zero_le _, ?_⟩)) rfl
    simp [G.immSet, G.newName]
  · simp [keys] at hk; subst hk
    simp [Heap.get] at hr'; subst hr'
    refine ⟨⟨.inl rfl, by simp [G.immSet, G.newName], fun b endc capc hl => ?_⟩, fun b hb => .inr ?_⟩
    · simp [G.immSet, G.newName] at hl
      obtain ⟨rfl, rfl, rfl⟩ := hl
      exact ⟨cells, e, heap_alloc_new w _, by simp [G.immSet], c2, Nat.zero_le _⟩
    · simp [blkOf, G.immSet, G.newName] at hb; omega
  · simp [keys] at hk hk'; omega

theorem op_makeSlice_imm {T e : TypeId} {x y : Operand} {size bz : Nat} {z : AV} {k k' : IntKind} {l c : Int} (ho : o.op = .makeSlice T x y) (hT : tsl P T = some e) (hs : tsz P e = some size) (hb : tby P e = some bz) (hz : ZeroOK P e z)
    (hx : evA env x = .val (.int k l)) (hy : evA env y = .val (.int k' c)) :
    OpOK P o env H ⟨z.csize = size ∧ 0 ≤ l ∧ l = c ∧ bz * c.toNat ≤ 2 ^ 48 ∧ c < 2 ^ 62, .sl size (List.replicate c.toNat z) 1, [], [], []⟩ := by
  intro ρ g w hc0 hop hi _ hn hvc
  obtain ⟨v1, v2, rfl, v4, v5⟩ := hvc
  have h1 := hop x (by simp [Op.operands, ho])
  have h2 := hop y (by simp [Op.operands, ho])
  rw [hx] at h1; rw [hy] at h2
  obtain ⟨e1, _⟩ := V1_val h1
  obtain ⟨e2, _⟩ := V1_val h2
  obtain ⟨cells, c1, c2, c3⟩ := made_run (w := w) (k := k) (k' := k') hT hs hb hz v1 v2 (Int.le_refl l) v4 v5
  have hd := Delta.alloc hi (.cells cells e) (l.toNat * size) (Blks g H (keys [])) (· ∈ keys ([] : Heap)) (· ∈ ([] : List Nat))
  refine ⟨_, _, _, .inl (by simp [execOp, ho, e1, e2, c3]; rfl), ?_, ⟨hd, fun n r _ hn => by simp at hn, fun n n' r r' b hn => by simp at hn⟩⟩
  refine V0.of_cell ?_ rfl
  have hlen : (List.replicate l.toNat z).length = l.toNat := List.length_replicate
  have hm : R (g.immSet w.heap.size (l.toNat * size)) (w.alloc (.cells cells e)) (.mem size (List.replicate l.toNat z) w.heap.size 0) := by
    refine R.mem_of ((c1 g w).ext hd.ext) (RowAt.of_heap (T := e) (fz := (0, 0)) (heap_alloc_new w _)) ?_
    simp [G.immSet, c2]
  have := R.sl (g := g.immSet w.heap.size (l.toNat * size)) (tok := 1) (L := List.replicate l.toNat z) (c := l.toNat) (by rw [hlen]; exact Nat.le_refl _) hm (by show l.toNat = _; rw [hlen])
  rw [hlen] at this
  exact this

/-! ### copy -/
def setRange (ps : List AV) (lo : Nat) (M : List AV) : List AV := ps.take lo ++ M ++ ps.drop (lo + M.length)

theorem useq_splice {g : G} {w : World} {sz : Nat} {ps M : List AV} {cs ms : List Value} (h : R g w (.useq sz ps cs)) (hm : R g w (.useq sz M ms)) {lo : Nat} (hl : lo + M.length ≤ ps.length) :
    R g w (.useq sz (setRange ps lo M) (splice cs (lo * sz) ms)) := by
  unfold setRange splice
  have e := hm.ulength
  refine R.useq_append (R.useq_append (R.useq_take lo h (by omega)) hm) ?_
  have := R.useq_drop (lo + M.length) h hl
  rw [Nat.add_mul] at this
  rw [e]; exact this

theorem OpOK.of_vc' {P : Program} {o : Oper} {env : Env} {H : Heap} {vc vc' : Prop} {av : AV} {rd : List Nat} {wr : Heap} {nw : List Nat} (h : vc' → vc ∧ OpOK P o env H ⟨vc, av, rd, wr, nw⟩) : OpOK P o env H ⟨vc', av, rd, wr, nw⟩ :=
  fun ρ g w h0 h1 h2 h3 h4 h5 => (h h5).2 ρ g w h0 h1 h2 h3 h4 (h h5).1
theorem op_copy_gen {T U e : TypeId} {x y : Operand} {a : AV} {n off sz lo len : Nat} {path : List Nat} {ps M : List AV} {rd : List Nat} {vs : Prop} (ho : o.op = .call ⟨.builtin .copy, #[x, y], #[T, U]⟩) (hT : tsl P T = some e) (hs : tsz P e = some sz)
    (hx : evA env x = .aref n off path sz lo len) (hn : H.get n = some (.obj a)) (ha : a.at_ path = .vec sz ps)
    (hsrc : ∀ (g : G) (w : World) (v : Value), V1 g w (evA env y) v → (∀ k ∈ rd, ∀ r, H.get k = some r → resOK g w k r) → vs → ∃ N : Nat, (Builtin.lenOf v).run P w = .ok N w ∧ Nat.min N len = M.length ∧ ∃ cs, R g w (.useq sz M cs) ∧ (Builtin.firstCells sz M.length v).run P w = .ok cs.toArray w) :
    OpOK P o env H ⟨vs ∧ a.okPath path ∧ a.offAt path = off ∧ lo + len ≤ ps.length ∧ M.length ≤ len, .val (.int .i64 M.length), rd, [(n, some (.obj (a.setAt path (.vec sz (setRange ps lo M)))))], []⟩ := by
  intro ρ g w hc0 hop hi hrd _ hvc
  obtain ⟨v0, v1, v2, v3, v4⟩ := hvc
  have h1 := hop x (by simp [Op.operands, ho, Call.operands])
  have h2 := hop y (by simp [Op.operands, ho, Call.operands])
  rw [hx] at h1
  obtain ⟨b, z, c, hv, hu, hloc, hc⟩ := V1_aref h1
  obtain ⟨N, s1, hmin, ms, s2, s3⟩ := hsrc g w _ h2 (fun k hk r hr => hrd k (.inl hk) r hr) v0
  obtain ⟨_, b', z', arr, T', hl', hb, hr, him⟩ := hrd n (.inr (by simp [keys])) _ hn
  rw [hloc] at hl'; simp at hl'; obtain ⟨rfl, rfl⟩ := hl'
  obtain ⟨m1, m2⟩ := hr.at_ v1
  rw [ha, v2] at m1 m2
  have hpu : R g w (.useq sz ps ((arr.toList.drop off).take (AV.csize (.vec sz ps)))) := by cases m1; assumption
  have hml := s2.ulength
  have hcs : AV.csize (.vec sz ps) = ps.length * sz := rfl
  rw [hcs] at m2 hpu
  have hle : lo * sz + M.length * sz ≤ ps.length * sz := by rw [← Nat.add_mul]; exact Nat.mul_le_mul_right _ (by omega)
  have hst := run_storeCells_at P b (off + lo * sz) T' ms 0 arr w hb (by simp at m2 ⊢; omega) (R.oneCells' s2)
  simp only [Nat.add_zero] at hst
  have hsp := useq_splice hpu s2 (lo := lo) (by omega)
  have hnew := (hr.setAt v1 (R.vec hsp) (by rw [ha]; simp [AV.csize, setRange]; congr 1; omega)).1
  rw [v2] at hnew
  have hcell : splice arr.toList off (splice ((arr.toList.drop off).take (ps.length * sz)) (lo * sz) ms) = splice arr.toList (off + lo * sz) ms := by
    have := splice_splice (cs := arr.toList) (o1 := off) (m := ps.length * sz) (o2 := lo * sz) (new := ms) m2 (by omega)
    exact this
  have hblk : Blks g H (keys [(n, some (Res.obj (a.setAt path (.vec sz (setRange ps lo M)))))]) b := ⟨n, _, by simp [keys], hn, by simp [blkOf, hloc]⟩
  have hd := Delta.setRow (g := g) (new := (splice arr.toList (off + lo * sz) ms).toArray) hb 0 (by omega) (fun j hj => by omega) (Blks g H (keys [(n, some (Res.obj (a.setAt path (.vec sz (setRange ps lo M)))))])) (· ∈ keys [(n, some (Res.obj (a.setAt path (.vec sz (setRange ps lo M)))))]) (· ∈ ([] : List Nat)) hblk
  refine ⟨_, _, _, .inl ?_, V1_mk rfl, ⟨hd, fun k r hr' hk => ?_, fun k k' r r' b hk hk' _ _ _ _ => ?_⟩⟩
  · simp [execOp, ho, resolve, invoke, builtin, Builtin.copy_, run_underlying (tsl_und hT), hv, s1, hmin, tsz_run hs, s3, hst, goInt, splice]
  · simp [keys] at hk; subst hk
    simp [Heap.get] at hr'; subst hr'
    refine ⟨⟨hu, b, z, _, T', hloc, setRow_heap w b arr _ T' (0, 0) hb, ?_, by simp [G.immSet]⟩, fun b2 hb2 => .inl ?_⟩
    · rw [hcell] at hnew
      simpa using hnew.ext hd.ext
    · simp [blkOf, G.immSet, hloc] at hb2; subst hb2; exact hblk
  · simp [keys] at hk hk'; omega

theorem op_copy {T U e : TypeId} {x y : Operand} {a : AV} {n off sz lo len : Nat} {path : List Nat} {ps M : List AV} {rd : List Nat} {vs : Prop} (ho : o.op = .call ⟨.builtin .copy, #[x, y], #[T, U]⟩) (hT : tsl P T = some e) (hs : tsz P e = some sz)
    (hx : evA env x = .aref n off path sz lo len) (hn : H.get n = some (.obj a)) (ha : a.at_ path = .vec sz ps)
    (hsrc : ∀ (g : G) (w : World) (v : Value), V1 g w (evA env y) v → (∀ k ∈ rd, ∀ r, H.get k = some r → resOK g w k r) → vs → SrcSem P g w v M sz) :
    OpOK P o env H ⟨vs ∧ a.okPath path ∧ a.offAt path = off ∧ lo + len ≤ ps.length ∧ M.length ≤ len, .val (.int .i64 M.length), rd, [(n, some (.obj (a.setAt path (.vec sz (setRange ps lo M)))))], []⟩ :=
  .of_vc' fun hv => ⟨hv, op_copy_gen ho hT hs hx hn ha fun g w v h1 h2 h3 => by
    obtain ⟨s1, ms, s2, s3⟩ := hsrc g w v h1 h2 h3
    exact ⟨_, s1 w rfl, Nat.min_eq_left hv.2.2.2.2, ms, s2, s3 w rfl⟩⟩
theorem op_copy_short {T U e : TypeId} {x y : Operand} {a : AV} {n off sz lo len tok : Nat} {path : List Nat} {ps L : List AV} (ho : o.op = .call ⟨.builtin .copy, #[x, y], #[T, U]⟩) (hT : tsl P T = some e) (hs : tsz P e = some sz)
    (hx : evA env x = .aref n off path sz lo len) (hy : evA env y = .sl sz L tok) (hn : H.get n = some (.obj a)) (ha : a.at_ path = .vec sz ps) :
    OpOK P o env H ⟨a.okPath path ∧ a.offAt path = off ∧ lo + len ≤ ps.length ∧ len ≤ L.length, .val (.int .i64 (L.take len).length), [], [(n, some (.obj (a.setAt path (.vec sz (setRange ps lo (L.take len))))))], []⟩ :=
  .of_vc' fun hv => ⟨(⟨trivial, hv.1, hv.2.1, hv.2.2.1, by rw [List.length_take]; omega⟩ : True ∧ a.okPath path ∧ a.offAt path = off ∧ lo + len ≤ ps.length ∧ (L.take len).length ≤ len), op_copy_gen (rd := []) (vs := True) ho hT hs hx hn ha fun g w v h1 _ _ => by
    rw [hy] at h1
    have hlen : (L.take len).length = len := by rw [List.length_take]; omega
    rcases V1_sl h1 with ⟨rfl, base, rfl⟩ | ⟨b, q, c, rfl, hc, hm, _⟩
    · refine ⟨0, by simp [Builtin.lenOf], by simp, [], by simpa using R.useqNil, ?_⟩
      cases base with
      | none => simp [Builtin.firstCells]
      | some a => simp [Builtin.firstCells, loadCells, loadCellsFrom]
    · obtain ⟨cs, k1, k2, _⟩ := (hm.mem_take len).mem_cells
      refine ⟨L.length, by simp [Builtin.lenOf], by rw [hlen]; exact Nat.min_eq_right hv.2.2.2, cs, k1, ?_⟩
      simp only [Builtin.firstCells]
      exact loadCells_row k2 _ k1.ulength.symm⟩

/-! ### bytes to text -/
theorem bytes_cells {g : G} {w : World} : ∀ {L : List AV} {cs : List Value}, R g w (.useq 1 L cs) → (∀ a ∈ L, isByte a) → ∃ xs : List Int, cs = xs.map (Value.int .u8) ∧ xs.map (fun n => UInt8.ofNat n.toNat) = L.map byteOf
  | [], cs, h, _ => by
    have := h.ulength
    have : cs = [] := List.eq_nil_of_length_eq_zero (by simpa using this)
    exact ⟨[], by rw [this]; rfl, rfl⟩
  | a :: L, cs, h, hb => by
    generalize hs : Sh.useq 1 (a :: L) cs = s at h
    cases h <;> simp at hs
    rename_i sz' a' L' c1 c2 h1 h2 h3
    obtain ⟨rfl, ⟨rfl, rfl⟩, rfl⟩ := hs
    obtain ⟨xs, q1, q2⟩ := bytes_cells h3 (fun x hx => hb x (List.mem_cons_of_mem _ hx))
    have ha := hb a List.mem_cons_self
    unfold isByte at ha
    split at ha
    · rename_i n
      generalize hs : Sh.one (.val (.int .u8 n)) c1 = s at h1
      cases h1 <;> simp at hs
      obtain ⟨rfl, rfl⟩ := hs
      exact ⟨n :: xs, by simp [q1], by simp [q2, byteOf]⟩
    · exact ha.elim

theorem op_bytesToString {S T e : TypeId} {x : Operand} {sz tok : Nat} {L : List AV} (ho : o.op = .convert S T x) (hx : evA env x = .sl sz L tok) (hS : tsl P S = some e) (he : tint P e = some .u8) (hT : tstr P T = some ()) :
    OpOK P o env H ⟨(sz = 1 ∨ L = []) ∧ ∀ a ∈ L, isByte a, .val (.string (bstr (L.map byteOf))), [], [], []⟩ := by
  refine .pure fun ρ g w hop _ hvc => ?_
  obtain ⟨v1, v2⟩ := hvc
  have h1 := hop x (by simp [Op.operands, ho])
  rw [hx] at h1
  refine ⟨_, ?_, V1_mk rfl⟩
  rcases V1_sl h1 with ⟨rfl, base, hv⟩ | ⟨b, q, c, hv, hc, hm, _⟩
  · cases base with
    | none =>
      simp [execOp, ho, hv, run_convert_bytes_nil w S e (tsl_und hS) (tint_und he) 0 0 T (tstr_und hT)]
      rfl
    | some a =>
      simp [execOp, ho, hv, run_convert_bytes_string w S T e (some a) 0 0 (tsl_und hS) (tint_und he) (tstr_und hT), Conv.bytesToString, loadCells, loadCellsFrom]
      rfl
  · rcases v1 with rfl | rfl
    · obtain ⟨cs, k1, k2, _⟩ := hm.mem_cells
      obtain ⟨xs, q1, q2⟩ := bytes_cells k1 v2
      have hl : xs.length = L.length := by have := congrArg List.length q2; simpa using this
      have := run_convert_bytes_arg w S e (tsl_und hS) (tint_und he) b q L.length c xs hl (fun i hi => by
        have : cs[i]? = some (.int .u8 (xs.getD i 0)) := by
          rw [q1, List.getElem?_map, List.getD_eq_getElem?_getD, List.getElem?_eq_getElem (by omega)]
          rfl
        exact k2 i _ this) T (tstr_und hT)
      simp only [execOp, ho, hv, Sem.run_bind, this, Result.andThen_ok, Sem.run_pure]
      have : strOfNums xs = bstr (L.map byteOf) := by rw [strOfNums, bstr, q2]
      rw [this]
    · have := run_convert_bytes_arg w S e (tsl_und hS) (tint_und he) b q 0 c [] rfl (fun i hi => by omega) T (tstr_und hT)
      simp only [List.length_nil] at hv
      simp only [execOp, ho, hv, Sem.run_bind, this, Result.andThen_ok, Sem.run_pure]
      rfl

theorem op_stringToBytes {S T e : TypeId} {x : Operand} {s : ByteArray} (ho : o.op = .convert S T x) (hx : evA env x = .val (.string s)) (hS : tstr P S = some ()) (hT : tsl P T = some e) (he : tint P e = some .u8) :
    OpOK P o env H ⟨True, .sl 1 (s.data.toList.map fun b => AV.val (.int .u8 b.toNat)) 0, [], [], []⟩ := by
  intro ρ g w hc0 hop hi _ _ _
  have h1 := hop x (by simp [Op.operands, ho])
  rw [hx] at h1
  obtain ⟨hv, _⟩ := V1_val h1
  have hrun := run_bytes_of_string w S T e s (tstr_und hS) (tsl_und hT) (tint_und he)
  generalize hcap : grownCap w s.size 0 e = cap at hrun
  generalize hrow : bytesRow s cap = row at hrun
  have hle : s.size ≤ cap := by rw [← hcap]; exact grownCap_ge _ _ _ _
  have hd0 : Delta g w g w.drew (Blks g H (keys [])) (· ∈ keys ([] : Heap)) (· ∈ ([] : List Nat)) := ⟨⟨fun _ h => h, fun _ _ => Nat.le_refl _, fun _ _ _ _ => rfl, fun _ => Nat.le_refl _, fun _ _ _ => rfl⟩, rfl, rfl, rfl, Nat.le_refl _, fun _ _ _ => ⟨rfl, rfl⟩, fun _ h => .inl h, fun _ _ _ => rfl, fun h => h⟩
  have hd1 := hd0.trans (Delta.alloc (w := w.drew) hi (.cells row e (row.size, row.size + 1)) s.size (Blks g H (keys [])) (· ∈ keys ([] : Heap)) (· ∈ ([] : List Nat)))
  have hd := hd1.mono (D' := Blks g H (keys [])) (T' := (· ∈ keys ([] : Heap))) (N' := (· ∈ ([] : List Nat))) (fun _ _ h => h.elim id id) (fun _ _ h => h.elim id id) (fun _ h => h.elim id id)
  refine ⟨_, _, .slice (some ⟨w.heap.size, 0, none⟩) s.size cap, .inl ?_, ?_, ⟨hd, fun n r _ hn => by simp at hn, fun n n' r r' b hn => by simp at hn⟩⟩
  · simp only [execOp, ho, hv, Sem.run_bind, hrun, Result.andThen_ok, Sem.run_pure]
  · have hu : ∀ (g' : G) (w' : World) (l : List UInt8), R g' w' (.useq 1 (l.map fun b => AV.val (.int .u8 b.toNat)) (l.map fun b => Value.int .u8 b.toNat)) := by
      intro g' w' l
      induction l with
      | nil => exact .useqNil
      | cons b l ih => exact .useqCons (cs := [Value.int .u8 b.toNat]) (.val rfl) rfl ih
    have hlen : (s.data.toList.map fun b => Value.int .u8 b.toNat).length = s.size := by rw [List.length_map]; rfl
    have hat : RowAt (w.drew.alloc (.cells row e (row.size, row.size + 1))) w.heap.size 0 (s.data.toList.map fun b => Value.int .u8 b.toNat) := by
      have h0 := RowAt.of_heap (T := e) (fz := (row.size, row.size + 1)) (arr := row) (heap_alloc_new w.drew _)
      intro j v hj
      refine h0 j v ?_
      have hjl := (List.getElem?_eq_some_iff.1 hj).1
      rw [← hrow, bytesRow]
      simp only [Array.toList_append, Array.toList_map]
      rw [List.getElem?_append_left hjl]
      exact hj
    have hm : R (g.immSet w.heap.size s.size) (w.drew.alloc (.cells row e (row.size, row.size + 1))) (.mem 1 (s.data.toList.map fun b => AV.val (.int .u8 b.toNat)) w.heap.size 0) := by
      refine R.mem_of (hu _ _ _) hat ?_
      rw [hlen]
      simp [G.immSet]
    have hl2 : (s.data.toList.map fun b => AV.val (.int .u8 b.toNat)).length = s.size := by rw [List.length_map]; rfl
    have := R.sl (g := g.immSet w.heap.size s.size) (tok := 0) (c := cap) (by rw [hl2]; exact hle) hm trivial
    rw [hl2] at this
    exact V0.of_cell this rfl
end
end Go.AL

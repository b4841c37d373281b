/-
  The layer AL, part 6g: a map's entry is cleared, entries are counted, and walked over.
-/
import Derived.Test.YtaghcjbpjnpkbaaGreatAL6f
set_option linter.unusedSimpArgs false
set_option linter.unusedVariables false
namespace Go.AL
open Go
section
variable {P : Program} {o : Oper} {env : Env} {H : Heap}

theorem op_delete {c : Call} {T U kt et : TypeId} {x y : Operand} {n : Nat} {es : List (AV × AV)} (ho : o.op = .call c) (hc : c = ⟨.builtin .delete, #[x, y], #[T, U]⟩) (hx : evA env x = .map n) (hn : H.get n = some (.mp es)) (hT : tmap P T = some (kt, et)) :
    OpOK P o env H ⟨keyOK P kt (evA env y) ∧ (∀ p ∈ es, keyOK P kt p.1), .tup [], [], [(n, some (.mp (delA (evA env y) es)))], []⟩ := by
  subst hc
  intro ρ g w hc0 hop hi hrd _ hvc
  obtain ⟨v1, v2⟩ := hvc
  have h1 := hop x (by simp [Op.operands, ho, Call.operands])
  have h2 := (hop y (by simp [Op.operands, ho, Call.operands])).toV0 (keyOK_good v1)
  rw [hx] at h1
  obtain ⟨b, y', hv, huse, hl⟩ := V1_map h1
  obtain ⟨_, b', x', arr, clk, hl', hb, ⟨⟨es', hp, hr⟩, hnd, hbo⟩, him⟩ := hrd n (.inr (by simp [keys])) _ hn
  rw [hl] at hl'; simp at hl'; obtain ⟨rfl, rfl⟩ := hl'
  have v2' : ∀ p ∈ es', keyOK P kt p.1 := fun p hp' => v2 p (hp.mem_iff.1 hp')
  have hnd' : (es'.map (·.1)).Nodup := (hp.map _).nodup_iff.2 hnd
  have hget := MapKept.run_getObj_map (P := P) hb
  have hset := fun o' => MapKept.run_setObj_map (P := P) o' hb
  have hck := fun em => keyOK_ck (P := P) (w := w) v1 h2 em
  generalize evA env y = ky at *
  rcases find_key v1 h2 hr v2' with ⟨a1, a2, _, a3⟩ | ⟨j, e, u, a1, a2, a3, _, a5, _, a6⟩
  · refine ⟨g, _, .tuple #[], .inl ?_, ⟨#[], rfl, by simp, fun j p q hp => by simp at hp⟩, map_done (arr' := arr) (clk' := clk) hn huse hl hb him fun w' hd => ⟨⟨_, delA_perm (k := ky) hp hnd', ?_⟩, delA_nodup hnd, hbo⟩⟩
    · simp [execOp, ho, resolve, invoke, builtin, Builtin.delete_, hv, run_underlying (tmap_und hT), hget, hck, a2, hset]
    · rw [a3]; exact hr.ext hd.ext
  · have hjl : j < arr.toList.length := (List.getElem?_eq_some_iff.1 a3).1
    have hjs : j < arr.size := by simpa using hjl
    have hsub : (arr.eraseIdxIfInBounds j).toList = arr.toList.eraseIdx j := by
      unfold Array.eraseIdxIfInBounds
      rw [dif_pos hjs]
      simp
    refine ⟨g, _, .tuple #[], .inl ?_, ⟨#[], rfl, by simp, fun j p q hp => by simp at hp⟩, map_done (arr' := arr.eraseIdxIfInBounds j) (clk' := clk) hn huse hl hb him fun w' hd => ⟨⟨_, delA_perm (k := ky) hp hnd', ?_⟩, delA_nodup hnd, ?_⟩⟩
    · simp [execOp, ho, resolve, invoke, builtin, Builtin.delete_, hv, run_underlying (tmap_und hT), hget, hck, a2, hset]
    · rw [hsub]; exact a6 g w' (hr.ext hd.ext)
    · rw [hsub]
      have hs := List.eraseIdx_sublist arr.toList j
      exact ⟨hbo.1.sublist (hs.map _), fun e he => hbo.2 e (hs.subset he)⟩

theorem op_lenMap {c : Call} {T kt et : TypeId} {x : Operand} {n : Nat} {es : List (AV × AV)} (ho : o.op = .call c) (hc : c = ⟨.builtin .len, #[x], #[T]⟩) (hx : evA env x = .map n) (hn : Res.mp? (H.get n) = some es) (hT : tmap P T = some (kt, et)) :
    OpOK P o env H ⟨True, .val (.int .i64 es.length), [n], [], []⟩ := by
  subst hc
  refine .pure fun ρ g w hop hrd hvc => ?_
  have h1 := hop x (by simp [Op.operands, ho, Call.operands])
  rw [hx] at h1
  obtain ⟨b, y', hv, huse, hl⟩ := V1_map h1
  obtain ⟨_, b', x', arr, clk, hl', hb, ⟨⟨es', hp, hr⟩, hnd, _⟩, _⟩ := mpRes hn (hrd n (by simp))
  rw [hl] at hl'; simp at hl'; obtain ⟨rfl, rfl⟩ := hl'
  have hlen : es.length = arr.size := by rw [← hp.length_eq, hr.length]; simp
  rw [hlen]
  exact ⟨_, by simp [execOp, ho, resolve, invoke, builtin, Builtin.len_, run_underlying (tmap_und hT), hv, MapKept.run_getObj_map (P := P) hb, goInt], V1_mk rfl⟩

theorem op_range {T kt et : TypeId} {x : Operand} {n m : Nat} {es : List (AV × AV)} {bs : List Nat} {clk : Nat} (ho : o.op = .range T x) (hx : evA env x = .map m) (hn : H.get m = some (.xmp es bs clk)) (hT : tmap P T = some (kt, et)) :
    OpOK P o env H ⟨True, .ref n 0 [], [m], [(n, some (.itr m bs clk []))], [n]⟩ := by
  intro ρ g w hc0 hop hi hrd hnw _
  have h0 := hop x (by simp [Op.operands, ho])
  rw [hx] at h0
  obtain ⟨mb, y', hv, huse, hl⟩ := V1_map h0
  obtain ⟨_, b', x', arr, hl', hb, _, _⟩ := hrd m (.inl (by simp)) _ hn
  rw [hl] at hl'; simp at hl'; obtain ⟨rfl, rfl⟩ := hl'
  have hne : m ≠ n := fun e => hnw n (by simp) (e ▸ huse)
  let r : Res := .itr m bs clk []
  have h1 := Delta.name (w := w) (hnw n (by simp)) (fun _ => some (w.heap.size, 0, 0)) 0 (Blks g H (keys [(n, some r)])) (· ∈ keys [(n, some r)]) (· ∈ [n]) (by simp)
  have hd0 := h1.trans (Delta.alloc (o := .mapIter (some mb) clk #[] clk) (h1.inv hi) 0 (Blks g H (keys [(n, some r)])) (· ∈ keys [(n, some r)]) (· ∈ [n]))
  have hd := hd0.mono (D' := Blks g H (keys [(n, some r)])) (T' := (· ∈ keys [(n, some r)])) (N' := (· ∈ [n])) (fun _ _ h => h.elim id id) (fun _ _ h => h.elim id id) (fun _ h => h.elim id id)
  refine ⟨(g.newName n (fun _ => some (w.heap.size, 0, 0)) 0).immSet w.heap.size 0, w.alloc (.mapIter (some mb) clk #[] clk), .pointer (some ⟨w.heap.size, 0, none⟩), .inl ?_, V0.of_cell (.ref (x := (0, 0)) (.inl rfl) (by simp [G.immSet, G.newName])) rfl, ⟨hd, fun k r' hr' hk => ?_, fun k k' r r' b hk hk' _ _ _ _ => ?_⟩⟩
  · simp [execOp, ho, Instr.range, hv, run_underlying (tmap_und hT), MapKept.run_getObj_map (P := P) hb]
  · simp [keys] at hk; subst hk
    simp [Heap.get] at hr'; subst hr'
    refine ⟨⟨⟨.inl rfl, .inr huse⟩, w.heap.size, (0, 0), mb, y', by simp [G.immSet, G.newName], heap_alloc_new w _, by simp [G.immSet, G.newName, hne, hl], by simp [G.immSet]⟩, fun b hb => .inr ?_⟩
    simp [r, blkOf, G.immSet, G.newName] at hb; omega
  · simp [keys] at hk hk'; omega

theorem iter_get {w : World} {b : Nat} {m : Option Nat} {s l : Nat} {a : Array Nat} (h : w.heap[b]? = some (.mapIter m s a l)) : (getObj b).run P w = .ok (.mapIter m s a l) w := by
  simp [getObj, Sem.run, h]
theorem iter_set {w : World} {b : Nat} {m : Option Nat} {s l : Nat} {a : Array Nat} (o' : Obj) (h : w.heap[b]? = some (.mapIter m s a l)) : (setObj b o').run P w = .ok () { w with heap := w.heap.setIfInBounds b o' } := by
  simp [setObj, Sem.run, h]

theorem op_entry {x : Operand} {n m i : Nat} {es : List (AV × AV)} {bs bs' se : List Nat} {clk clk' : Nat} (ho : o.op = .entry x) (hx : evA env x = .ref n 0 []) (hn : H.get n = some (.itr m bs' clk' (i :: se))) (hm : H.get m = some (.xmp es bs clk)) :
    OpOK P o env H ⟨bs' = bs ∧ clk' = clk ∧ i < es.length, .tup [(es.getD i (.undef, .undef)).1, (es.getD i (.undef, .undef)).2], [n, m], [], []⟩ := by
  refine .pure fun ρ g w hop hrd hvc => ?_
  obtain ⟨rfl, rfl, hi⟩ := hvc
  have h0 := hop x (by simp [Op.operands, ho])
  rw [hx] at h0
  obtain ⟨b, y', hv, huse, hl⟩ := V1_ref h0
  obtain ⟨_, b', x', mb, y, hl', hb, hlm, _⟩ := hrd n (by simp) _ hn
  rw [hl] at hl'; simp at hl'; obtain ⟨rfl, rfl⟩ := hl'
  obtain ⟨_, mb', x2, arr, hlm', hmb, ⟨hr, _, hbo, hbs⟩, _⟩ := hrd m (by simp) _ hm
  rw [hlm] at hlm'; simp at hlm'; obtain ⟨rfl, rfl⟩ := hlm'
  have hlen : es.length = arr.size := by rw [hr.length]; simp
  have hi' : i < arr.size := by omega
  have hei : arr[i]? = some arr[i] := Array.getElem?_eq_getElem hi'
  have hbi : bs'.getD i 0 = arr[i].born := by rw [← hbs]; simp [List.getD_eq_getElem?_getD, hei]
  have hfind : arr.find? (fun e => e.born == bs'.getD i 0) = some arr[i] := by
    rw [hbi, ← Array.find?_toList]
    have key : ∀ (L : List MapEntry) (i : Nat) (e : MapEntry), (L.map (·.born)).Nodup → L[i]? = some e → L.find? (fun x => x.born == e.born) = some e := by
      intro L
      induction L with
      | nil => intro i e _ h; simp at h
      | cons a L ih =>
        intro i e hn h
        simp only [List.map_cons, List.nodup_cons] at hn
        cases i with
        | zero => simp at h; subst h; simp
        | succ i =>
          simp at h
          have hne : a.born ≠ e.born := fun q => hn.1 (List.mem_map.2 ⟨e, List.mem_of_getElem? h, q.symm⟩)
          have : (a.born == e.born) = false := by simpa using hne
          simp only [List.find?_cons, this]
          exact ih i e hn.2 h
    exact key _ i _ hbo.1 (by rw [Array.getElem?_toList]; exact hei)
  have hent : ∀ (es : List (AV × AV)) (L : List MapEntry) (i : Nat) (e : MapEntry), MapR g w es L → L[i]? = some e → V0 g w (es.getD i (.undef, .undef)).1 e.key ∧ V0 g w (es.getD i (.undef, .undef)).2 e.val := by
    intro es L i e h
    induction h generalizing i with
    | nil => intro q; simp at q
    | cons h1 h2 _ ih =>
      intro q
      cases i with
      | zero => simp at q; subst q; simpa using ⟨h1, h2⟩
      | succ i => simp at q; simpa using ih i q
  obtain ⟨e1, e2⟩ := hent es arr.toList i arr[i] hr (by rw [Array.getElem?_toList]; exact hei)
  refine ⟨.tuple #[arr[i].key, arr[i].val], ?_, ⟨_, rfl, rfl, fun j p q hp hq => ?_⟩⟩
  · have hback : ((((i :: se).reverse.map (bs'.getD · 0)).toArray).back?) = some (bs'.getD i 0) := by simp
    rw [List.getD_eq_getElem?_getD] at hfind
    simp [execOp, ho, Instr.entry, hv, iter_get hb, MapKept.run_getObj_map (P := P) hmb, hback, hfind, -List.reverse_cons, -List.map_reverse, -List.map_append]
  · match j, hp, hq with
    | 0, hp, hq => simp at hp hq; subst hp hq; exact .inr e1
    | 1, hp, hq => simp at hp hq; subst hp hq; exact .inr e2
    | j + 2, hp, hq => simp at hp

end
theorem next_run {P : Program} {w : World} {T : TypeId} {b mb clk : Nat} {arr : Array MapEntry} {bs seen : List Nat} (hb : w.heap[b]? = some (.mapIter (some mb) clk (seen.reverse.map (bs.getD · 0)).toArray clk)) (hm : w.heap[mb]? = some (.map arr clk)) (hbo : BornOK arr.toList clk)
    (hbs : arr.toList.map (·.born) = bs) (hlt : ∀ j ∈ seen, j < arr.size) :
    ((∀ i, i < arr.size → i ∈ seen) ∧ ∃ d, (Instr.next (.pointer (some ⟨b, 0, none⟩)) false T).run P w = .ok (.tuple #[.bool false]) { w with drawn := d }) ∨
    (∃ i e d, arr.toList[i]? = some e ∧ i ∉ seen ∧ (Instr.next (.pointer (some ⟨b, 0, none⟩)) false T).run P w = .ok (.tuple #[.bool true, e.key, e.val]) { w with drawn := d, heap := w.heap.setIfInBounds b (.mapIter (some mb) clk ((i :: seen).reverse.map (bs.getD · 0)).toArray clk) }) := by
  have hlen : bs.length = arr.size := by rw [← hbs]; simp
  have hset := fun o' => iter_set (P := P) o' hb
  have hget := iter_get (P := P) hb
  have hgm := MapKept.run_getObj_map (P := P) hm
  generalize hS : (seen.reverse.map (bs.getD · 0)).toArray = S at *
  have hmemS : ∀ i e, arr.toList[i]? = some e → i ∈ seen → e.born ∈ S := by
    intro i e hie his
    rw [← hS]
    simp only [List.mem_toArray, List.mem_map, List.mem_reverse]
    refine ⟨i, his, ?_⟩
    rw [← hbs, List.getD_eq_getElem?_getD, List.getElem?_map, hie]; rfl
  have hmemS' : ∀ i e, arr.toList[i]? = some e → e.born ∈ S → i ∈ seen := by
    intro i e hie hS'
    rw [← hS] at hS'
    simp only [List.mem_toArray, List.mem_map, List.mem_reverse] at hS'
    obtain ⟨j, hj, hje⟩ := hS'
    have hj' := hlt j hj
    have hjL : j < arr.toList.length := by simpa using hj'
    have h1 : bs.getD j 0 = (arr.toList[j]).born := by rw [← hbs, List.getD_eq_getElem?_getD, List.getElem?_map, List.getElem?_eq_getElem hjL]; rfl
    rw [h1] at hje
    have hiL : i < arr.toList.length := (List.getElem?_eq_some_iff.1 hie).1
    have he : arr.toList[i] = e := (List.getElem?_eq_some_iff.1 hie).2
    have : i = j := by
      have h2 := (List.getElem_inj (h₀ := by simpa using hiL) (h₁ := by simpa using hjL) hbo.1).1 (show (arr.toList.map (·.born))[i]'(by simpa using hiL) = (arr.toList.map (·.born))[j]'(by simpa using hjL) by simp [← Array.getElem_toList, he, hje])
      exact h2
    rw [this]; exact hj
  let left := arr.filter fun e => !S.contains e.born
  have hold : left.filter (fun e => decide (e.born < clk)) = left := by
    rw [Array.filter_eq_self]
    intro e he
    simpa using hbo.2 e (by have := (Array.mem_filter.1 he).1; simpa using this)
  have hnew : left.filter (fun e => decide (e.born ≥ clk)) = #[] := by
    rw [Array.filter_eq_empty_iff]
    intro e he
    have := hbo.2 e (by have := (Array.mem_filter.1 he).1; simpa using this)
    simp; omega
  have hguard : (!S.isEmpty && !arr.isEmpty && arr.all (fun e => decide (e.born ≥ clk))) = false := by
    cases he : arr.isEmpty with
    | true => simp
    | false =>
      have h0 : 0 < arr.size := by
        rcases Nat.eq_zero_or_pos arr.size with h | h
        · rw [Array.isEmpty, h] at he; simp at he
        · exact h
      have : arr.all (fun e => decide (e.born ≥ clk)) = false := by
        rw [Array.all_eq_false]
        refine ⟨0, h0, ?_⟩
        have := hbo.2 arr[0] (by simp)
        simp; omega
      simp [this]
  have hrun : ∀ r, (do
      let candidates := (if left.isEmpty then #[none] else #[]) ++ (left ++ #[]).map some
      match candidates[← choose (.mapNext candidates.size)]? with
      | some (some e) =>
        setObj b (.mapIter (some mb) clk (S.push e.born) clk)
        pure (Value.tuple #[.bool true, e.key, e.val])
      | some none => pure (Value.tuple #[.bool false])
      | none => stuck "Next: no such candidate" : Sem Value).run P w = r → (Instr.next (.pointer (some ⟨b, 0, none⟩)) false T).run P w = r := by
    intro r h
    rw [← h]
    simp only [Instr.next, Sem.run_bind, hget, hgm, Result.andThen_ok, hguard, Bool.false_eq_true, if_false]
    simp only [left] at hold hnew ⊢
    rw [hold, hnew]
    rfl
  by_cases hl : left.isEmpty = true
  · have he : left = #[] := Array.isEmpty_iff.1 hl
    refine .inl ⟨fun i hi => ?_, w.drawn, hrun _ ?_⟩
    · have hi' : i < arr.toList.length := by simpa using hi
      refine hmemS' i arr.toList[i] (List.getElem?_eq_getElem hi') ?_
      rcases Classical.em (arr.toList[i].born ∈ S) with h | h
      · exact h
      · have : arr.toList[i] ∈ left := Array.mem_filter.2 ⟨by rw [← Array.mem_toList_iff]; exact List.getElem_mem hi', by simpa using h⟩
        rw [he] at this; simp at this
    · rw [he]
      simp [Question.forced]
  · have hne : left.size ≠ 0 := fun h => hl (by simp [Array.isEmpty, h])
    let k := if left.size ≤ 1 then 0 else w.tape w.drawn (.mapNext left.size) % left.size
    have hk : k < left.size := by
      simp only [k]; split
      · omega
      · exact Nat.mod_lt _ (by omega)
    let d := if left.size ≤ 1 then w.drawn else w.drawn + 1
    have hch : (choose (.mapNext left.size)).run P w = .ok k { w with drawn := d } := by
      simp only [choose, Sem.run, Question.forced, k, d, Question.cut]
      by_cases h : left.size ≤ 1 <;> simp [h]
    have hmem : left[k] ∈ left := Array.getElem_mem hk
    obtain ⟨m1, m2⟩ := Array.mem_filter.1 hmem
    obtain ⟨i, hi, hie⟩ := List.getElem_of_mem (Array.mem_toList_iff.2 m1)
    have hie' : arr.toList[i]? = some left[k] := by rw [List.getElem?_eq_getElem hi, hie]
    have hns : i ∉ seen := fun h => by
      have := hmemS i _ hie' h
      simp [this] at m2
    have hbi : bs.getD i 0 = left[k].born := by rw [← hbs, List.getD_eq_getElem?_getD, List.getElem?_map, hie']; rfl
    refine .inr ⟨i, left[k], d, hie', hns, hrun _ ?_⟩
    have hS2 : ((i :: seen).reverse.map (bs.getD · 0)).toArray = S.push left[k].born := by
      rw [← hS, List.reverse_cons, List.map_append, List.map_singleton, hbi]; simp
    rw [hS2]
    have hset2 : ∀ o', (setObj b o').run P { w with drawn := d } = .ok () { w with drawn := d, heap := w.heap.setIfInBounds b o' } := fun o' => iter_set (P := P) (w := { w with drawn := d }) o' hb
    simp only [hl, Bool.false_eq_true, if_false, Array.empty_append, Array.append_empty, Array.size_map, Sem.run_bind, hch, Result.andThen_ok, Array.getElem?_map, Array.getElem?_eq_getElem hk, Option.map_some, hset2, Sem.run_pure]
end Go.AL

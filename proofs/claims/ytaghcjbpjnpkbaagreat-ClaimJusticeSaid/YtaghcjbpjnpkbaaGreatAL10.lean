/-
  The layer AL, part 10: operations, computed; a region, computed.
-/
import Derived.Test.YtaghcjbpjnpkbaaGreatAL9
import Derived.Test.YtaghcjbpjnpkbaaGreatAL6g
import Derived.Lib.LazyBuf
import Derived.WalkSpells
set_option linter.unusedSimpArgs false
set_option linter.unusedVariables false
namespace Go.AL
open Go

structure An where
  mt : List Nat := []
  tk : List (Nat × List (List Nat × Nat)) := []
  cut : List Nat := []
  jn : List Nat := []
  rj : List Nat := []
  nxt : List Nat := []
  vw : List Nat := []
  fg : List Nat := []

def lookTk : List (Nat × List (List Nat × Nat)) → Nat → List (List Nat × Nat)
  | [], _ => []
  | (k, ps) :: r, t => if k = t then ps else lookTk r t
def An.toks (an : An) : Option Nat → List (List Nat × Nat)
  | some t => lookTk an.tk t
  | none => []

structure Cx where
  P : Program
  zt : TypeId → Option AV
  hz : ∀ T z, zt T = some z → ZeroOK P T z

theorem OpOK.of_vc {P : Program} {o : Oper} {env : Env} {H : Heap} {vc vc' : Prop} {av : AV} {rd : List Nat} {wr : Heap} {nw : List Nat} (h : vc' → vc ∧ OpOK P o env H ⟨vc, av, rd, wr, nw⟩) : OpOK P o env H ⟨vc', av, rd, wr, nw⟩ :=
  fun ρ g w h0 h1 h2 h3 h4 h5 => (h h5).2 ρ g w h0 h1 h2 h3 h4 (h h5).1

noncomputable def binSem (P : Program) (op : BinOp) (T : TypeId) (x y : AV) : Option Out :=
  match x, y with
  | .val (.int k a), .val (.int k' b) =>
    match intOp op k a b with
    | some (vc, r) => some ⟨(op = .shl ∨ op = .shr ∨ k = k') ∧ vc, .val r, [], [], []⟩
    | none => none
  | .val (.string a), .val (.string b) =>
    match strOp op a b with
    | some (vc, r) => some ⟨vc, .val r, [], [], []⟩
    | none => none
  | .val (.bool a), .val (.bool b) =>
    match op with
    | .eql => some ⟨tbool P T = some (), .val (.bool (a == b)), [], [], []⟩
    | .neq => some ⟨tbool P T = some (), .val (.bool !(a == b)), [], [], []⟩
    | _ => none
  | .agg n ps, .agg m qs =>
    match op with
    | .eql => some ⟨teq P T = true ∧ cmpOK P 8 T (.agg n ps) ∧ cmpOK P 8 T (.agg m qs), .val (.bool (eqB (.agg n ps) (.agg m qs))), [], [], []⟩
    | .neq => some ⟨teq P T = true ∧ cmpOK P 8 T (.agg n ps) ∧ cmpOK P 8 T (.agg m qs), .val (.bool !(eqB (.agg n ps) (.agg m qs))), [], [], []⟩
    | _ => none
  | .vec n ps, .vec m qs =>
    match op with
    | .eql => some ⟨teq P T = true ∧ cmpOK P 8 T (.vec n ps) ∧ cmpOK P 8 T (.vec m qs), .val (.bool (eqB (.vec n ps) (.vec m qs))), [], [], []⟩
    | .neq => some ⟨teq P T = true ∧ cmpOK P 8 T (.vec n ps) ∧ cmpOK P 8 T (.vec m qs), .val (.bool !(eqB (.vec n ps) (.vec m qs))), [], [], []⟩
    | _ => none
  | .ref _ _ _, .val (.pointer none) | .cref _, .val (.pointer none) =>
    match op with
    | .eql => some ⟨(tptr P T).isSome = true, .val (.bool false), [], [], []⟩
    | .neq => some ⟨(tptr P T).isSome = true, .val (.bool true), [], [], []⟩
    | _ => none
  | .val (.pointer none), .val (.pointer none) =>
    match op with
    | .eql => some ⟨(tptr P T).isSome = true, .val (.bool true), [], [], []⟩
    | .neq => some ⟨(tptr P T).isSome = true, .val (.bool false), [], [], []⟩
    | _ => none
  | .map _, .val (.map none) =>
    match op with
    | .eql => some ⟨(tmap P T).isSome = true, .val (.bool false), [], [], []⟩
    | .neq => some ⟨(tmap P T).isSome = true, .val (.bool true), [], [], []⟩
    | _ => none
  | .val (.map none), .val (.map none) =>
    match op with
    | .eql => some ⟨(tmap P T).isSome = true, .val (.bool true), [], [], []⟩
    | .neq => some ⟨(tmap P T).isSome = true, .val (.bool false), [], [], []⟩
    | _ => none
  | _, _ => none

def nilSem (P : Program) (op : BinOp) (T : TypeId) (x : AV) (y : Operand) : Option Out :=
  match y with
  | .const (.slice none 0 0) =>
    match op with
    | .eql => match x with
      | .sl _ (_ :: _) _ => some ⟨(tsl P T).isSome = true, .val (.bool false), [], [], []⟩
      | .val (.slice b _ _) => some ⟨(tsl P T).isSome = true, .val (.bool b.isNone), [], [], []⟩
      | _ => none
    | .neq => match x with
      | .sl _ (_ :: _) _ => some ⟨(tsl P T).isSome = true, .val (.bool true), [], [], []⟩
      | .val (.slice b _ _) => some ⟨(tsl P T).isSome = true, .val (.bool !b.isNone), [], [], []⟩
      | _ => none
    | _ => none
  | _ => none
def orSem : Option Out → Option Out → Option Out
  | some a, _ => some a
  | none, b => b

def unSem (op : UnOp) (x : AV) : Option Out :=
  match op, x with
  | .not, .val (.bool b) => some ⟨True, .val (.bool !b), [], [], []⟩
  | .neg, .val (.int k n) => some ⟨True, .val (.int k (k.wrap (0 - n))), [], [], []⟩
  | .xor, .val (.int k n) => some ⟨True, .val (.int k (k.wrap (BitVec.ofInt k.bits (if k.signed then -1 else k.max) ^^^ BitVec.ofInt k.bits n).toNat)), [], [], []⟩
  | _, _ => none

def loadSem (P : Program) (H : Heap) (T : TypeId) (x : AV) : Option Out :=
  match x with
  | .cref a => some ⟨tsz P T = some a.csize ∧ tagg P T = some a.isAgg, a, [], [], []⟩
  | .ref n off path =>
    match Res.obj? (H.get n) with
    | some a => some ⟨a.okPath path ∧ a.offAt path = off ∧ tsz P T = some (a.at_ path).csize ∧ tagg P T = some (a.at_ path).isAgg, a.at_ path, [n], [], []⟩
    | none => none
  | _ => none

def storeSem (P : Program) (H : Heap) (T : TypeId) (x y : AV) : Option Out :=
  match x with
  | .ref n off path =>
    match H.get n with
    | some (.obj a) => some ⟨y.good = true ∧ a.okPath path ∧ a.offAt path = off ∧ tsz P T = some y.csize ∧ y.csize = (a.at_ path).csize, .undef, [], [(n, some (.obj (a.setAt path y)))], []⟩
    | _ => none
  | _ => none

def fieldAddrSem (P : Program) (T : TypeId) (x : AV) (i : Nat) : Option Out :=
  match tfld P T i with
  | some (fo, ft) =>
    match x with
    | .ref n off path => some ⟨tpos P ft = true, .ref n (off + fo) (path ++ [i]), [], [], []⟩
    | .cref a => some ⟨tpos P ft = true ∧ i < a.parts.length ∧ a.partOff i = fo, .cref (a.parts.getD i .undef), [], [], []⟩
    | _ => none
  | none => none

def indexAddrSem (P : Program) (T : TypeId) (x y : AV) : Option Out :=
  match y with
  | .val (.int _ i) =>
    match x with
    | .sl sz L _ => match tsl P T with
      | some e => some ⟨(0 ≤ i ∧ i < L.length) ∧ tsz P e = some sz, .cref (L.getD i.toNat .undef), [], [], []⟩
      | none => none
    | .aref n off path sz lo len => match tsl P T with
      | some e => some ⟨(0 ≤ i ∧ i < len) ∧ tsz P e = some sz, .ref n (off + (lo + i.toNat) * sz) (path ++ [lo + i.toNat]), [], [], []⟩
      | none => none
    | .ref n off path => match tarr P T with
      | some (len, e) => match tsz P e with
        | some sz => some ⟨0 ≤ i ∧ i < len, .ref n (off + i.toNat * sz) (path ++ [i.toNat]), [], [], []⟩
        | none => none
      | none => none
    | .cref a => match tarr P T with
      | some (len, e) => match tsz P e with
        | some sz => some ⟨(0 ≤ i ∧ i < len) ∧ i.toNat < a.parts.length ∧ a.partOff i.toNat = i.toNat * sz, .cref (a.parts.getD i.toNat .undef), [], [], []⟩
        | none => none
      | none => none
    | _ => none
  | _ => none

def fieldSem (P : Program) (T : TypeId) (a : AV) (i : Nat) : Option Out :=
  match tfld P T i with
  | some (fo, ft) => some ⟨a.isAgg = true ∧ i < a.parts.length ∧ a.partOff i = fo ∧ tsz P ft = some (a.parts.getD i .undef).csize ∧ tagg P ft = some (a.parts.getD i .undef).isAgg, a.parts.getD i .undef, [], [], []⟩
  | none => none

def indexSem (P : Program) (T : TypeId) (a y : AV) : Option Out :=
  match y with
  | .val (.int _ i) =>
    match a with
    | .val (.string s) => some ⟨(tstr P T).isSome = true ∧ 0 ≤ i ∧ i < s.size, .val (.int .u8 ((s.data.toList.getD i.toNat 0).toNat : Int)), [], [], []⟩
    | a => match tarr P T with
      | some (len, e) => match tsz P e with
        | some sz => some ⟨a.isAgg = true ∧ (0 ≤ i ∧ i < len) ∧ i.toNat < a.parts.length ∧ a.partOff i.toNat = i.toNat * sz ∧ sz = (a.parts.getD i.toNat .undef).csize ∧ tagg P e = some (a.parts.getD i.toNat .undef).isAgg, a.parts.getD i.toNat .undef, [], [], []⟩
        | none => none
      | none => none
  | _ => none

def lenSem (P : Program) (H : Heap) (T : TypeId) (x : AV) : Option Out :=
  match x with
  | .map n => match Res.mp? (H.get n) with
    | some es => some ⟨(tmap P T).isSome = true, .val (.int .i64 es.length), [n], [], []⟩
    | none => none
  | .sl _ L _ => some ⟨(tsl P T).isSome = true, .val (.int .i64 L.length), [], [], []⟩
  | .aref _ _ _ _ _ len => some ⟨(tsl P T).isSome = true, .val (.int .i64 len), [], [], []⟩
  | .val (.string s) => some ⟨(tstr P T).isSome = true, .val (.int .i64 s.size), [], [], []⟩
  | _ => none

def srcA (P : Program) (H : Heap) (U : TypeId) (size : Nat) (y : AV) : Option (Prop × List AV × List Nat) :=
  match y with
  | .sl sz M _ => some ((tsl P U).isSome = true ∧ (sz = size ∨ M = []), M, [])
  | .val (.string s) => some ((tstr P U).isSome = true ∧ size = 1, s.data.toList.map (fun b => AV.val (.int .u8 b.toNat)), [])
  | .val (.slice (some _) 0 _) => some ((tsl P U).isSome = true, [], [])
  | .aref n off path sz lo len =>
    match Res.obj? (H.get n) with
    | some a => match a.at_ path with
      | .vec sz' ps => some ((tsl P U).isSome = true ∧ a.okPath path ∧ a.offAt path = off ∧ sz' = sz ∧ lo + len ≤ ps.length ∧ sz = size, (ps.drop lo).take len, [n])
      | _ => none
    | none => none
  | _ => none

def appendSem (cx : Cx) (H : Heap) (nm : Nat) (T U : TypeId) (x y : AV) : Option Out :=
  match tsl cx.P T with
  | some e =>
    match tsz cx.P e, tby cx.P e, cx.zt e with
    | some size, some bz, some z =>
      match srcA cx.P H U size y, x with
      | some (vs, M, rd), .sl sz L 1 => some ⟨(z.csize = size ∧ bz ≠ 0) ∧ vs ∧ (sz = size ∨ L = []) ∧ (L.length + M.length) * bz ≤ 2 ^ 46, .sl size (L ++ M) (nm + 2), rd, [(nm, some (.tail (L.length + M.length)))], [nm]⟩
      | some (vs, M, rd), .sl sz L (n + 2) =>
        match H.get n with
        | some (.tail q) => some ⟨(z.csize = size ∧ bz ≠ 0) ∧ vs ∧ q = L.length ∧ sz = size ∧ (L.length + M.length) * bz ≤ 2 ^ 46, .sl size (L ++ M) (n + 2), rd, [(n, some (.tail (L.length + M.length)))], []⟩
        | _ => none
      | _, _ => none
    | _, _, _ => none
  | none => none

def buildSem (cx : Cx) (T : TypeId) (ps : List (Nat × AV)) : Option Out :=
  match cx.zt T with
  | some z =>
    match tarr cx.P T with
    | some (_, e) => match tsz cx.P e with
      | some sz => some ⟨z.isAgg = true ∧ buildVC (fun i => some (i * sz, sz)) z ps, buildA z ps, [], [], []⟩
      | none => none
    | none => some ⟨tflds cx.P T = true ∧ z.isAgg = true ∧ buildVC (tplace cx.P T) z ps, buildA z ps, [], [], []⟩
  | none => none

def buildSliceSem (cx : Cx) (T : TypeId) (n : Nat) (ps : List (Nat × AV)) : Option Out :=
  match tsl cx.P T with
  | some e =>
    match tsz cx.P e, cx.zt e with
    | some sz, some z => some ⟨isRange 0 (ps.map (·.1)) n ∧ z.csize = sz ∧ sz ≠ 0 ∧ n * sz ≤ 2 ^ 24 ∧ ∀ u ∈ ps.map (·.2), u.good = true ∧ u.csize = sz, .sl sz (ps.map (·.2)) 1, [], [], []⟩
    | _, _ => none
  | none => none

def sliceSem (P : Program) (env : Env) (T : TypeId) (x : AV) (lo hi mx : Option Operand) : Option Out :=
  match x with
  | .sl sz L tok =>
    match tsl P T with
    | some e => match tsz P e, bndA env lo 0, bndA env hi L.length, bndA env mx L.length with
      | some size, some l, some h, some m => some ⟨(mx.isSome = true → hi.isSome = true) ∧ 0 ≤ l ∧ l ≤ h ∧ h ≤ m ∧ m ≤ L.length ∧ (sz = size ∨ L = []), .sl sz ((L.take h.toNat).drop l.toNat) (slTok tok lo hi mx h m), [], [], []⟩
      | _, _, _, _ => none
    | none => none
  | .val (.string s) =>
    match mx, bndA env lo 0, bndA env hi s.size with
    | none, some l, some h => some ⟨(tstr P T).isSome = true ∧ 0 ≤ l ∧ l ≤ h ∧ h ≤ s.size, .val (.string (s.extract l.toNat h.toNat)), [], [], []⟩
    | _, _, _ => none
  | .cref (.vec sz ps) =>
    match tarr P T with
    | some (n, e) => match bndA env lo 0, bndA env hi n, bndA env mx n with
      | some l, some h, some m => some ⟨tsz P e = some sz ∧ (mx.isSome = true → hi.isSome = true) ∧ 0 ≤ l ∧ l ≤ h ∧ h ≤ m ∧ m ≤ n ∧ ps.length = n, .sl sz ((ps.take h.toNat).drop l.toNat) (if h = m then 1 else 0), [], [], []⟩
      | _, _, _ => none
    | none => none
  | .ref nn off path =>
    match tarr P T with
    | some (n, e) => match tsz P e, bndA env lo 0, bndA env hi n, bndA env mx n with
      | some sz, some l, some h, some m => some ⟨(mx.isSome = true → hi.isSome = true) ∧ 0 ≤ l ∧ l ≤ h ∧ h ≤ m ∧ m ≤ n ∧ (l < m ∨ l = 0), .aref nn off path sz l.toNat (h.toNat - l.toNat), [], [], []⟩
      | _, _, _, _ => none
    | none => none
  | .aref nn off path sz lo0 len =>
    match tsl P T with
    | some e => match mx, bndA env lo 0, bndA env hi len with
      | none, some l, some h => some ⟨tsz P e = some sz ∧ 0 ≤ l ∧ l ≤ h ∧ h ≤ len ∧ (l < len ∨ l = 0), .aref nn off path sz (lo0 + l.toNat) (h.toNat - l.toNat), [], [], []⟩
      | _, _, _ => none
    | none => none
  | _ => none

def makeSliceSem (cx : Cx) (mut_ : Bool) (nm : Nat) (T : TypeId) (x y : AV) : Option Out :=
  match x, y, tsl cx.P T with
  | .val (.int _ l), .val (.int _ c), some e =>
    match tsz cx.P e, tby cx.P e, cx.zt e with
    | some size, some bz, some z =>
      if mut_ then some ⟨z.csize = size ∧ 0 ≤ l ∧ l ≤ c ∧ bz * c.toNat ≤ 2 ^ 48 ∧ c < 2 ^ 62, .aref nm 0 [] size 0 l.toNat, [], [(nm, some (.obj (.vec size (List.replicate c.toNat z))))], [nm]⟩
      else if l = 0 then some ⟨z.csize = size ∧ l = 0 ∧ 0 ≤ c ∧ bz * c.toNat ≤ 2 ^ 48 ∧ c < 2 ^ 62, .sl size [] (nm + 2), [], [(nm, some (.tail 0))], [nm]⟩
      else some ⟨z.csize = size ∧ 0 ≤ l ∧ l = c ∧ bz * c.toNat ≤ 2 ^ 48 ∧ c < 2 ^ 62, .sl size (List.replicate c.toNat z) 1, [], [], []⟩
    | _, _, _ => none
  | _, _, _ => none

def copySem (P : Program) (H : Heap) (T U : TypeId) (x y : AV) : Option Out :=
  match x, tsl P T with
  | .aref n off path sz lo len, some e =>
    match H.get n with
    | some (.obj a) => match a.at_ path, srcA P H U sz y with
      | .vec sz' ps, some (vs, M, rd) => some ⟨(tsz P e = some sz ∧ sz' = sz) ∧ vs ∧ a.okPath path ∧ a.offAt path = off ∧ lo + len ≤ ps.length ∧ M.length ≤ len, .val (.int .i64 M.length), rd, [(n, some (.obj (a.setAt path (.vec sz' (setRange ps lo M)))))], []⟩
      | _, _ => none
    | _ => none
  | _, _ => none

def copyShort (P : Program) (H : Heap) (T : TypeId) (x y : AV) : Option Out :=
  match x, y, tsl P T with
  | .aref n off path sz lo len, .sl szs L _, some e =>
    match H.get n with
    | some (.obj a) => match a.at_ path with
      | .vec sz' ps => some ⟨(tsz P e = some sz ∧ sz' = sz ∧ szs = sz) ∧ a.okPath path ∧ a.offAt path = off ∧ lo + len ≤ ps.length ∧ len ≤ L.length, .val (.int .i64 (L.take len).length), [], [(n, some (.obj (a.setAt path (.vec sz' (setRange ps lo (L.take len))))))], []⟩
      | _ => none
    | _ => none
  | _, _, _ => none
def copyPart (P : Program) (H : Heap) (T : TypeId) (x y : AV) : Option Out :=
  match x, y, tsl P T with
  | .aref n off path sz lo len, .aref n2 off2 path2 sz2 lo2 len2, some e =>
    match H.get n, Res.obj? (H.get n2) with
    | some (.obj a), some a2 => match a.at_ path, a2.at_ path2 with
      | .vec sz' ps, .vec sz3 qs => some ⟨(tsz P e = some sz ∧ sz' = sz ∧ sz3 = sz ∧ sz2 = sz) ∧ (a2.okPath path2 ∧ a2.offAt path2 = off2 ∧ lo2 + len2 ≤ qs.length) ∧ a.okPath path ∧ a.offAt path = off ∧ lo + len ≤ ps.length, .val (.int .i64 (((qs.drop lo2).take len2).take len).length), [n2], [(n, some (.obj (a.setAt path (.vec sz' (setRange ps lo (((qs.drop lo2).take len2).take len))))))], []⟩
      | _, _ => none
    | _, _ => none
  | _, _, _ => none
def copySel (b : Bool) (P : Program) (H : Heap) (T U : TypeId) (x y : AV) : Option Out :=
  match b with
  | true => orSem (copyShort P H T x y) (copyPart P H T x y)
  | false => copySem P H T U x y

def convSem (P : Program) (S T : TypeId) (x : AV) : Option Out :=
  match x with
  | .val (.int _ n) => match tint P T with
    | some k => some ⟨(P.underlying S).isSome = true, .val (.int k (k.wrap n)), [], [], []⟩
    | none => none
  | .sl sz L _ => match tsl P S with
    | some e => some ⟨tint P e = some .u8 ∧ (tstr P T).isSome = true ∧ (sz = 1 ∨ L = []) ∧ ∀ a ∈ L, isByte a, .val (.string (bstr (L.map byteOf))), [], [], []⟩
    | none => none
  | .val (.string s) => match tsl P T with
    | some e => some ⟨tint P e = some .u8 ∧ (tstr P S).isSome = true, .sl 1 (s.data.toList.map fun b => AV.val (.int .u8 b.toNat)) 0, [], [], []⟩
    | none => none
  | _ => none

def pairA (c : Bool) (v : AV) (b : Bool) : AV :=
  match c with
  | true => .tup [v, .val (.bool b)]
  | false => v
theorem pairA_if (c : Bool) (v : AV) (b : Bool) : (if c then AV.tup [v, .val (.bool b)] else v) = pairA c v b := by cases c <;> rfl
noncomputable def lookSem (cx : Cx) (H : Heap) (T : TypeId) (x y : AV) (c : Bool) : Option Out :=
  match tmap cx.P T with
  | some (kt, et) =>
    match cx.zt et with
    | some z =>
      match x with
      | .map n => match Res.mp? (H.get n) with
        | some es => some ⟨keyOK cx.P kt y ∧ ∀ p ∈ es, keyOK cx.P kt p.1, pairA c ((lookA y es).getD z) (lookA y es).isSome, [n], [], []⟩
        | none => none
      | .val (.map none) => some ⟨keyOK cx.P kt y, pairA c z false, [], [], []⟩
      | _ => none
    | none => none
  | none => none
noncomputable def updSem (P : Program) (H : Heap) (T : TypeId) (x y v : AV) : Option Out :=
  match tmap P T with
  | some (kt, _) =>
    match x with
    | .map n => match H.get n with
      | some (.mp es) => some ⟨keyOK P kt y ∧ (∀ p ∈ es, keyOK P kt p.1) ∧ v.good = true, .undef, [], [(n, some (.mp (setA y v es)))], []⟩
      | _ => none
    | _ => none
  | none => none

noncomputable def delSem (P : Program) (H : Heap) (T : TypeId) (x y : AV) : Option Out :=
  match tmap P T with
  | some (kt, _) =>
    match x with
    | .map n => match H.get n with
      | some (.mp es) => some ⟨keyOK P kt y ∧ (∀ p ∈ es, keyOK P kt p.1), .tup [], [], [(n, some (.mp (delA y es)))], []⟩
      | _ => none
    | _ => none
  | none => none
def rangeSem (P : Program) (H : Heap) (nm : Nat) (T : TypeId) (x : AV) : Option Out :=
  match x with
  | .map m => match H.get m with
    | some (.xmp _ bs clk) => some ⟨(tmap P T).isSome = true, .ref nm 0 [], [m], [(nm, some (.itr m bs clk []))], [nm]⟩
    | _ => none
  | _ => none
def entrySem (H : Heap) (x : AV) : Option Out :=
  match x with
  | .ref n 0 [] => match H.get n with
    | some (.itr m bs' clk' (i :: _)) => match H.get m with
      | some (.xmp es bs clk) => some ⟨bs' = bs ∧ clk' = clk ∧ i < es.length, .tup [(es.getD i (.undef, .undef)).1, (es.getD i (.undef, .undef)).2], [n, m], [], []⟩
      | _ => none
    | _ => none
  | _ => none

def isMut (mt : List Nat) : Option Nat → Bool
  | some t => mt.contains t
  | none => false

noncomputable def opSem0 (cx : Cx) (mt : List Nat) (nm : Nat) (o : Oper) (env : Env) (H : Heap) : Option Out :=
  match o.op with
  | .move x | .assign x => some ⟨True, evA env x, [], [], []⟩
  | .pick c x y => match evA env c with
    | .val (.bool b) => some ⟨True, pickA b (evA env x) (evA env y), [], [], []⟩
    | _ => none
  | .unOp op _ x => unSem op (evA env x)
  | .binOp op T x y _ => orSem (nilSem cx.P op T (evA env x) y) (binSem cx.P op T (evA env x) (evA env y))
  | .convert S T x => convSem cx.P S T (evA env x)
  | .slice T x lo hi mx => sliceSem cx.P env T (evA env x) lo hi mx
  | .makeSlice T x y => makeSliceSem cx (isMut mt o.dst) nm T (evA env x) (evA env y)
  | .makeFunc (.func f) fs cs => match fs.toList with
    | [] => some ⟨∀ x ∈ cs.toList.map (evA env), x.good = true ∧ x.isAgg = false, .clos f (cs.toList.map (evA env)), [], [], []⟩
    | _ => none
  | .nilCheck x => match evA env x with
    | .ref n off path => some ⟨True, .ref n off path, [], [], []⟩
    | .cref a => some ⟨True, .cref a, [], [], []⟩
    | _ => none
  | .box T x =>
    if isMut mt o.dst then some ⟨(evA env x).good = true, .ref nm 0 [], [], [(nm, some (.obj (evA env x)))], [nm]⟩
    else some ⟨(evA env x).good = true, .cref (evA env x), [], [], []⟩
  | .alloc T => match cx.zt T with
    | some z => some ⟨True, .ref nm 0 [], [], [(nm, some (.obj z))], [nm]⟩
    | none => none
  | .makeMap _ r => match r with
    | none => some ⟨True, .map nm, [], [(nm, some (.mp []))], [nm]⟩
    | some _ => none
  | .lookup T x y c => lookSem cx H T (evA env x) (evA env y) c
  | .mapUpdate T x y v | .insert T x y v => updSem cx.P H T (evA env x) (evA env y) (evA env v)
  | .range T x => rangeSem cx.P H nm T (evA env x)
  | .entry x => entrySem H (evA env x)
  | .load T x => loadSem cx.P H T (evA env x)
  | .store T x y => storeSem cx.P H T (evA env x) (evA env y)
  | .fieldAddr T x i => fieldAddrSem cx.P T (evA env x) i
  | .indexAddr T x y => indexAddrSem cx.P T (evA env x) (evA env y)
  | .field T x i => fieldSem cx.P T (evA env x) i
  | .index T x y => indexSem cx.P T (evA env x) (evA env y)
  | .build T ps => buildSem cx T (ps.toList.map fun p => (p.1, evA env p.2))
  | .buildSlice T n ps => buildSliceSem cx T n (ps.toList.map fun p => (p.1, evA env p.2))
  | .extract x i => match evA env x with
    | .tup as => some ⟨i < as.length, as.getD i .undef, [], [], []⟩
    | _ => none
  | .call ⟨.builtin b, args, ts⟩ =>
    match b, args.toList, ts.toList with
    | .len, [x], [T] => lenSem cx.P H T (evA env x)
    | .delete, [x, y], [T, _] => delSem cx.P H T (evA env x) (evA env y)
    | .append, [x, y], [T, U] => appendSem cx H nm T U (evA env x) (evA env y)
    | .copy, [x, y], [T, U] => copySel (isMut mt o.dst) cx.P H T U (evA env x) (evA env y)
    | .max, [x, y], [_, _] => match evA env x, evA env y with
      | .val (.int k a), .val (.int _ b) => some ⟨True, .val (.int k (max a b)), [], [], []⟩
      | _, _ => none
    | .min, [x, y], [_, _] => match evA env x, evA env y with
      | .val (.int k a), .val (.int _ b) => some ⟨True, .val (.int k (min a b)), [], [], []⟩
      | _, _ => none
    | _, _, _ => none
  | _ => none

def tkOp : Op → Bool
  | .alloc _ => true
  | .build _ _ => true
  | .buildSlice _ _ _ => true
  | .assign (.const _) => true
  | .move (.const _) => true
  | _ => false

def fgE : AV → AV
  | .sl sz L _ => .sl sz L 0
  | a => a
def fgA : AV → AV
  | .sl sz L _ => .sl sz L 0
  | .agg n ps => .agg n (ps.map fgE)
  | a => a
theorem fgE_R {g : G} {w : World} (a : AV) {cs : List Value} (h : R g w (.one a cs)) : R g w (.one (fgE a) cs) := by
  unfold fgE
  split
  · rename_i sz L tok
    obtain ⟨v, rfl, _⟩ := h.single rfl
    rcases V1_sl (show V1 g w (.sl sz L tok) v from V0.of_cell h rfl) with ⟨rfl, _, rfl⟩ | ⟨bb, q, c, rfl, k1, k2, k3⟩
    · exact .slNil
    · exact .sl k1 k2 trivial
  · exact h
theorem fgE_seq {g : G} {w : World} : ∀ (as : List AV) {cs : List Value}, R g w (.seq as cs) → R g w (.seq (as.map fgE) cs)
  | [], _, h => h
  | a :: as, _, h => by
    cases h with
    | seqCons k1 k2 => exact .seqCons (fgE_R a k1) (fgE_seq as k2)
def Out.fg : Bool → Out → Out
  | true, out => ⟨out.vc, fgA out.av, out.rd, out.wr, out.nw⟩
  | false, out => out
theorem fgA_V1 {g : G} {w : World} {a : AV} {v : Value} (h : V1 g w a v) : V1 g w (fgA a) v := by
  unfold fgA
  split
  · rcases V1_sl h with ⟨rfl, base, rfl⟩ | ⟨b, o, c, rfl, h1, h2, _⟩
    · exact V0.of_cell .slNil rfl
    · exact V0.of_cell (.sl h1 h2 trivial) rfl
  · rename_i n ps
    have h0 := h.toV0 rfl
    refine .of_V0 ⟨?_, h0.2⟩
    cases h0.1 with
    | agg k1 k2 => exact .agg (fgE_seq _ k1) k2
  · exact h
theorem Out.fg_ok {P : Program} {o : Oper} {env : Env} {H : Heap} {out : Out} (b : Bool) (h : OpOK P o env H out) : OpOK P o env H (out.fg b) := by
  cases b with
  | false => exact h
  | true =>
    intro ρ g w h0 h1 h2 h3 h4 h5
    obtain ⟨g', w', v, k1, k2, k3⟩ := h ρ g w h0 h1 h2 h3 h4 h5
    exact ⟨g', w', v, k1, fgA_V1 k2, k3⟩
theorem Out.fg_nw (b : Bool) (out : Out) : (out.fg b).nw = out.nw ∧ (out.fg b).wr = out.wr := by cases b <;> exact ⟨rfl, rfl⟩

noncomputable def opSem (cx : Cx) (an : An) (nm : Nat) (o : Oper) (env : Env) (H : Heap) : Option Out :=
  match opSem0 cx an.mt nm o env H with
  | some out => if tkOp o.op = true then out.toks nm 1 (an.toks o.dst) else some (out.fg (isMut an.fg o.dst))
  | none => none

section
variable {cx : Cx} {mt : List Nat} {nm : Nat} {o : Oper} {env : Env} {H : Heap} {out : Out}

theorem nilSem_ok {op : BinOp} {T U : TypeId} {x y : Operand} (ho : o.op = .binOp op T x y U) (h : nilSem cx.P op T (evA env x) y = some out) : OpOK cx.P o env H out := by
  have key : ∀ b : Bool, y = .const (.slice none 0 0) → (∀ (g : G) (w : World) v, V1 g w (evA env x) v → ∃ a n c, v = .slice a n c ∧ a.isNone = b) →
      (op = .eql → OpOK cx.P o env H ⟨(tsl cx.P T).isSome = true, .val (.bool b), [], [], []⟩) ∧ (op = .neq → OpOK cx.P o env H ⟨(tsl cx.P T).isSome = true, .val (.bool !b), [], [], []⟩) := by
    intro b hy hx
    subst hy
    refine ⟨fun he => ?_, fun he => ?_⟩
    all_goals
      subst he
      intro ρ g w hc0 hop hi hrd hnw hvc
      obtain ⟨e, he⟩ := Option.isSome_iff_exists.1 hvc
      obtain ⟨a, n, c, hv, hb⟩ := hx g w _ (hop x (by simp [Op.operands, ho]))
      refine ⟨g, w, _, .inl ?_, V1_mk rfl, StepPost.same g w H []⟩
    · have := Go.run_eql_slice_nil (P := cx.P) w T e a n c (tsl_und he)
      subst hb
      simp [execOp, ho, hv, hc0, eqGuard, this]
    · have := run_neq_slice_nil_any (P := cx.P) w T e a n c 0 0 (tsl_und he)
      subst hb
      simp [execOp, ho, hv, hc0, eqGuard, this]
  have hsl : ∀ {sz tok : Nat} {a : AV} {L : List AV}, evA env x = .sl sz (a :: L) tok → ∀ (g : G) (w : World) v, V1 g w (evA env x) v → ∃ a n c, v = .slice a n c ∧ a.isNone = false := by
    intro sz tok a L hx g w v hv
    rw [hx] at hv
    rcases V1_sl hv with ⟨h0, _⟩ | ⟨b, q, c, rfl, _⟩
    · cases h0
    · exact ⟨_, _, _, rfl, rfl⟩
  have hex : ∀ {b : Option Addr} {n c : Nat}, evA env x = .val (.slice b n c) → ∀ (g : G) (w : World) v, V1 g w (evA env x) v → ∃ a n c, v = .slice a n c ∧ a.isNone = b.isNone := by
    intro b n c hx g w v hv
    rw [hx] at hv
    obtain ⟨rfl, _⟩ := V1_val hv
    exact ⟨_, _, _, rfl, rfl⟩
  unfold nilSem at h
  split at h
  · split at h
    · split at h
      · injection h with h; subst h; exact (key false rfl (hsl (by assumption))).1 rfl
      · injection h with h; subst h; exact (key _ rfl (hex (by assumption))).1 rfl
      · cases h
    · split at h
      · injection h with h; subst h; exact (key false rfl (hsl (by assumption))).2 rfl
      · injection h with h; subst h; exact (key _ rfl (hex (by assumption))).2 rfl
      · cases h
    · cases h
  · cases h

theorem binSem_ok {op : BinOp} {T U : TypeId} {x y : Operand} (ho : o.op = .binOp op T x y U) (h : binSem cx.P op T (evA env x) (evA env y) = some out) : OpOK cx.P o env H out := by
  have nilcase : ∀ b, (∀ (g : G) (w : World) v, V1 g w (evA env x) v → if b then v = .pointer none else ∃ a, v = .pointer (some a)) → evA env y = .val (.pointer none) →
      (op = .eql → OpOK cx.P o env H ⟨(tptr cx.P T).isSome = true, .val (.bool b), [], [], []⟩) ∧ (op = .neq → OpOK cx.P o env H ⟨(tptr cx.P T).isSome = true, .val (.bool !b), [], [], []⟩) := by
    intro b hx hy
    refine ⟨fun he => .of_vc fun hv => ⟨hv, ?_⟩, fun he => .of_vc fun hv => ⟨hv, ?_⟩⟩
    · obtain ⟨p, hp⟩ := Option.isSome_iff_exists.1 hv
      subst he
      exact .of_vc fun _ => ⟨trivial, op_eqNil (neg := false) (by simpa using ho) hp b hx hy⟩
    · obtain ⟨p, hp⟩ := Option.isSome_iff_exists.1 hv
      subst he
      exact .of_vc fun _ => ⟨trivial, op_eqNil (neg := true) (by simpa using ho) hp b hx hy⟩
  have mapcase : ∀ b, (∀ (g : G) (w : World) v, V1 g w (evA env x) v → ∃ m : Option Nat, v = .map m ∧ m.isNone = b) → evA env y = .val (.map none) →
      (op = .eql → OpOK cx.P o env H ⟨(tmap cx.P T).isSome = true, .val (.bool b), [], [], []⟩) ∧ (op = .neq → OpOK cx.P o env H ⟨(tmap cx.P T).isSome = true, .val (.bool !b), [], [], []⟩) := by
    intro b hx hy
    refine ⟨fun he => .of_vc fun hv => ⟨hv, ?_⟩, fun he => .of_vc fun hv => ⟨hv, ?_⟩⟩
    · obtain ⟨p, hp⟩ := Option.isSome_iff_exists.1 hv
      subst he
      exact .of_vc fun _ => ⟨trivial, op_eqMapNil (neg := false) (by simpa using ho) (k := p.1) (e := p.2) hp b hx hy⟩
    · obtain ⟨p, hp⟩ := Option.isSome_iff_exists.1 hv
      subst he
      exact .of_vc fun _ => ⟨trivial, op_eqMapNil (neg := true) (by simpa using ho) (k := p.1) (e := p.2) hp b hx hy⟩
  unfold binSem at h
  split at h
  · rename_i k a k' b hx hy
    split at h
    · rename_i vc r hr
      injection h with h; subst h
      exact .of_vc fun hv => ⟨hv.2, op_int ho hx hy hv.1 hr⟩
    · cases h
  · rename_i a b hx hy
    split at h
    · rename_i vc r hr
      injection h with h; subst h
      exact op_str ho hx hy hr
    · cases h
  · rename_i a b hx hy
    split at h
    · injection h with h; subst h; exact op_eqBool (neg := false) (by simpa using ho) hx hy
    · injection h with h; subst h; exact op_eqBool (neg := true) (by simpa using ho) hx hy
    · cases h
  · rename_i n ps m qs hx hy
    split at h
    · injection h with h; subst h; rw [← hx, ← hy]; exact op_eqAV (neg := false) (by simpa using ho) (by rw [hx]; rfl) (by rw [hy]; rfl)
    · injection h with h; subst h; rw [← hx, ← hy]; exact op_eqAV (neg := true) (by simpa using ho) (by rw [hx]; rfl) (by rw [hy]; rfl)
    · cases h
  · rename_i n ps m qs hx hy
    split at h
    · injection h with h; subst h; rw [← hx, ← hy]; exact op_eqAV (neg := false) (by simpa using ho) (by rw [hx]; rfl) (by rw [hy]; rfl)
    · injection h with h; subst h; rw [← hx, ← hy]; exact op_eqAV (neg := true) (by simpa using ho) (by rw [hx]; rfl) (by rw [hy]; rfl)
    · cases h
  · rename_i hx hy
    obtain ⟨n1, n2⟩ := nilcase false (fun g w v hv => by rw [hx] at hv; obtain ⟨b, z, rfl, _⟩ := V1_ref hv; exact ⟨_, rfl⟩) hy
    split at h <;> first | (injection h with h; subst h; exact n1 rfl) | (injection h with h; subst h; exact n2 rfl) | cases h
  · rename_i hx hy
    obtain ⟨n1, n2⟩ := nilcase false (fun g w v hv => by rw [hx] at hv; obtain ⟨b, o', cs, rfl, _⟩ := V1_cref hv; exact ⟨_, rfl⟩) hy
    split at h <;> first | (injection h with h; subst h; exact n1 rfl) | (injection h with h; subst h; exact n2 rfl) | cases h
  · rename_i hx hy
    obtain ⟨n1, n2⟩ := nilcase true (fun g w v hv => by rw [hx] at hv; exact (V1_val hv).1) hy
    split at h <;> first | (injection h with h; subst h; exact n1 rfl) | (injection h with h; subst h; exact n2 rfl) | cases h
  · rename_i hx hy
    obtain ⟨n1, n2⟩ := mapcase false (fun g w v hv => by rw [hx] at hv; obtain ⟨b, z, rfl, _⟩ := V1_map hv; exact ⟨_, rfl, rfl⟩) hy
    split at h <;> first | (injection h with h; subst h; exact n1 rfl) | (injection h with h; subst h; exact n2 rfl) | cases h
  · rename_i hx hy
    obtain ⟨n1, n2⟩ := mapcase true (fun g w v hv => by rw [hx] at hv; exact ⟨none, (V1_val hv).1, rfl⟩) hy
    split at h <;> first | (injection h with h; subst h; exact n1 rfl) | (injection h with h; subst h; exact n2 rfl) | cases h
  · cases h

theorem unSem_ok {op : UnOp} {T : TypeId} {x : Operand} (ho : o.op = .unOp op T x) (h : unSem op (evA env x) = some out) : OpOK cx.P o env H out := by
  unfold unSem at h
  split at h <;> first | (injection h with h; subst h) | cases h
  · exact op_not ho (by assumption)
  · exact op_neg ho (by assumption)
  · exact op_xor1 ho (by assumption)

theorem loadSem_ok {T : TypeId} {x : Operand} (ho : o.op = .load T x) (h : loadSem cx.P H T (evA env x) = some out) : OpOK cx.P o env H out := by
  unfold loadSem at h
  split at h
  · injection h with h; subst h; exact op_load_cref ho (by assumption)
  · split at h
    · injection h with h; subst h; exact op_load_ref ho (by assumption) (by assumption)
    · cases h
  · cases h

theorem storeSem_ok {T : TypeId} {x y : Operand} (ho : o.op = .store T x y) (h : storeSem cx.P H T (evA env x) (evA env y) = some out) : OpOK cx.P o env H out := by
  unfold storeSem at h
  split at h
  · split at h
    · injection h with h; subst h
      exact .of_vc fun hv => ⟨hv.2, op_store ho (by assumption) (by assumption) hv.1⟩
    · cases h
  · cases h

theorem fieldAddrSem_ok {T : TypeId} {x : Operand} {i : Nat} (ho : o.op = .fieldAddr T x i) (h : fieldAddrSem cx.P T (evA env x) i = some out) : OpOK cx.P o env H out := by
  unfold fieldAddrSem at h
  split at h
  · split at h
    · injection h with h; subst h
      refine .of_vc (vc := True) fun hv => ⟨trivial, ?_⟩
      obtain ⟨s, hs⟩ := tpos_ok hv
      exact op_fieldAddr_ref ho (by assumption) (by assumption) hs
    · injection h with h; subst h
      refine .of_vc fun hv => ⟨hv.2, ?_⟩
      obtain ⟨s, hs⟩ := tpos_ok hv.1
      exact op_fieldAddr_cref ho (by assumption) (by assumption) hs
    · cases h
  · cases h

theorem indexAddrSem_ok {T : TypeId} {x y : Operand} (ho : o.op = .indexAddr T x y) (h : indexAddrSem cx.P T (evA env x) (evA env y) = some out) : OpOK cx.P o env H out := by
  unfold indexAddrSem at h
  split at h
  · split at h
    · split at h
      · injection h with h; subst h; exact op_indexAddr_sl ho (by assumption) (by assumption) (by assumption)
      · cases h
    · split at h
      · injection h with h; subst h; exact op_indexAddr_aref ho (by assumption) (by assumption) (by assumption)
      · cases h
    · split at h
      · split at h
        · injection h with h; subst h; exact op_indexAddr_arr_ref ho (by assumption) (by assumption) (by assumption) (by assumption)
        · cases h
      · cases h
    · split at h
      · split at h
        · injection h with h; subst h; exact op_indexAddr_arr_cref ho (by assumption) (by assumption) (by assumption) (by assumption)
        · cases h
      · cases h
    · cases h
  · cases h

theorem fieldSem_ok {T : TypeId} {x : Operand} {i : Nat} (ho : o.op = .field T x i) (h : fieldSem cx.P T (evA env x) i = some out) : OpOK cx.P o env H out := by
  unfold fieldSem at h
  split at h
  · injection h with h; subst h
    exact .of_vc fun hv => ⟨hv.2, op_field ho rfl hv.1 (by assumption)⟩
  · cases h

theorem indexSem_ok {T : TypeId} {x y : Operand} (ho : o.op = .index T x y) (h : indexSem cx.P T (evA env x) (evA env y) = some out) : OpOK cx.P o env H out := by
  unfold indexSem at h
  split at h
  · split at h
    · injection h with h; subst h
      exact .of_vc fun hv => ⟨hv.2, op_index_str ho (by assumption) (by assumption) (by
        obtain ⟨u, hu⟩ := Option.isSome_iff_exists.1 hv.1; cases u; exact hu)⟩
    · split at h
      · split at h
        · injection h with h; subst h
          exact .of_vc fun hv => ⟨hv.2, op_index_arr ho rfl hv.1 (by assumption) (by assumption) (by assumption)⟩
        · cases h
      · cases h
  · cases h

theorem lenSem_ok {T : TypeId} {x : Operand} (ho : o.op = .call ⟨.builtin .len, #[x], #[T]⟩) (h : lenSem cx.P H T (evA env x) = some out) : OpOK cx.P o env H out := by
  unfold lenSem at h
  split at h
  · split at h
    · injection h with h; subst h
      exact .of_vc fun hv => ⟨hv, by obtain ⟨⟨kt, et⟩, he⟩ := Option.isSome_iff_exists.1 hv; exact .of_vc fun _ => ⟨trivial, op_lenMap ho rfl (by assumption) (by assumption) he⟩⟩
    · cases h
  · injection h with h; subst h
    exact .of_vc fun hv => ⟨hv, by obtain ⟨e, he⟩ := Option.isSome_iff_exists.1 hv; exact .of_vc fun _ => ⟨trivial, op_len_sl ho rfl (by assumption) he⟩⟩
  · injection h with h; subst h
    exact .of_vc fun hv => ⟨hv, by obtain ⟨e, he⟩ := Option.isSome_iff_exists.1 hv; exact .of_vc fun _ => ⟨trivial, op_len_aref ho rfl (by assumption) he⟩⟩
  · injection h with h; subst h
    exact .of_vc fun hv => ⟨hv, by obtain ⟨e, he⟩ := Option.isSome_iff_exists.1 hv; cases e; exact .of_vc fun _ => ⟨trivial, op_len_str ho rfl (by assumption) he⟩⟩
  · cases h

theorem srcA_ok {U : TypeId} {size : Nat} {y : Operand} {vs : Prop} {M : List AV} {rd : List Nat} (h : srcA cx.P H U size (evA env y) = some (vs, M, rd)) :
    (vs → ∃ d, cx.P.underlying U = some d ∧ (match d with | .int _ => true | _ => false) = false) ∧
      ∀ (g : G) (w : World) (v : Value), V1 g w (evA env y) v → (∀ k ∈ rd, ∀ r, H.get k = some r → resOK g w k r) → vs → SrcSem cx.P g w v M size := by
  unfold srcA at h
  split at h
  · rename_i hy
    simp only [Option.some.injEq, Prod.mk.injEq] at h
    obtain ⟨rfl, rfl, rfl⟩ := h
    refine ⟨fun hv => ?_, fun g w v hv _ hvs => src_sl (by rw [hy] at hv; exact hv) hvs.2⟩
    obtain ⟨e, he⟩ := Option.isSome_iff_exists.1 hv.1
    exact ⟨_, tsl_und he, rfl⟩
  · rename_i s hy
    simp only [Option.some.injEq, Prod.mk.injEq] at h
    obtain ⟨rfl, rfl, rfl⟩ := h
    refine ⟨fun hv => ?_, fun g w v hv _ hvs => ?_⟩
    · obtain ⟨e, he⟩ := Option.isSome_iff_exists.1 hv.1
      cases e
      exact ⟨_, tstr_und he, rfl⟩
    · rw [hvs.2]; exact src_str (by rw [hy] at hv; exact hv)
  · rename_i b c hy
    simp only [Option.some.injEq, Prod.mk.injEq] at h
    obtain ⟨rfl, rfl, rfl⟩ := h
    refine ⟨fun hv => ?_, fun g w v hv _ hvs => ?_⟩
    · obtain ⟨e, he⟩ := Option.isSome_iff_exists.1 hv
      exact ⟨_, tsl_und he, rfl⟩
    · rw [hy] at hv
      obtain ⟨rfl, _⟩ := V1_val hv
      exact ⟨fun w' _ => by simp [Builtin.lenOf], [], .useqNil, fun w' _ => by simp [Builtin.firstCells, loadCells, loadCellsFrom]⟩
  · rename_i hy
    split at h
    · rename_i a ha
      split at h
      · rename_i sz' ps hat
        simp only [Option.some.injEq, Prod.mk.injEq] at h
        obtain ⟨rfl, rfl, rfl⟩ := h
        refine ⟨fun hv => ?_, fun g w v hv hrd hvs => ?_⟩
        · obtain ⟨e, he⟩ := Option.isSome_iff_exists.1 hv.1
          exact ⟨_, tsl_und he, rfl⟩
        · obtain ⟨_, h2, h3, h4, h5, h6⟩ := hvs
          subst h4
          exact src_aref (by rw [hy] at hv; exact hv) (objRes ha (hrd _ (by simp))) h2 h3 hat h5 h6
      · cases h
    · cases h
  · cases h

theorem appendSem_ok {T U : TypeId} {x y : Operand} (ho : o.op = .call ⟨.builtin .append, #[x, y], #[T, U]⟩) (h : appendSem cx H nm T U (evA env x) (evA env y) = some out) : OpOK cx.P o env H out := by
  unfold appendSem at h
  split at h
  · rename_i e he
    split at h
    · rename_i size bz z hs hb hz
      split at h
      · rename_i vs M rd sz L hsrc hx
        injection h with h; subst h
        obtain ⟨k1, k2⟩ := srcA_ok hsrc
        exact .of_vc fun hv => ⟨hv.2, op_append_new nm ho ⟨he, hs, hb, hv.1.2, k1 hv.2.1, cx.hz _ _ hz, hv.1.1⟩ hx k2⟩
      · rename_i vs M rd sz L n hsrc hx
        split at h
        · rename_i q hq
          injection h with h; subst h
          obtain ⟨k1, k2⟩ := srcA_ok hsrc
          exact .of_vc fun hv => ⟨hv.2, op_append_tail ho ⟨he, hs, hb, hv.1.2, k1 hv.2.1, cx.hz _ _ hz, hv.1.1⟩ hx hq k2⟩
        · cases h
      · cases h
    · cases h
  · cases h

theorem buildSem_ok {T : TypeId} {ps : Array (Nat × Operand)} (ho : o.op = .build T ps) (h : buildSem cx T (ps.toList.map fun p => (p.1, evA env p.2)) = some out) : OpOK cx.P o env H out := by
  unfold buildSem at h
  split at h
  · rename_i z hz
    split at h
    · split at h
      · injection h with h; subst h; exact op_build_array ho (cx.hz _ _ hz) (by assumption) (by assumption)
      · cases h
    · injection h with h; subst h
      exact .of_vc fun hv => ⟨hv.2, op_build_struct ho (cx.hz _ _ hz) hv.1⟩
  · cases h

theorem buildSliceSem_ok {T : TypeId} {n : Nat} {ps : Array (Nat × Operand)} (ho : o.op = .buildSlice T n ps) (h : buildSliceSem cx T n (ps.toList.map fun p => (p.1, evA env p.2)) = some out) : OpOK cx.P o env H out := by
  unfold buildSliceSem at h
  split at h
  · split at h
    · rename_i sz z hs hz
      injection h with h; subst h
      have e1 : (ps.toList.map fun p => (p.1, evA env p.2)).map (·.1) = ps.toList.map (·.1) := by rw [List.map_map]; rfl
      have e2 : (ps.toList.map fun p => (p.1, evA env p.2)).map (·.2) = ps.toList.map fun p => evA env p.2 := by rw [List.map_map]; rfl
      rw [e1, e2]
      exact .of_vc fun hv => ⟨hv.2, op_buildSlice ho (cx.hz _ _ hz) (by assumption) hs hv.1⟩
    · cases h
  · cases h

theorem sliceSem_ok {T : TypeId} {x : Operand} {lo hi mx : Option Operand} (ho : o.op = .slice T x lo hi mx) (h : sliceSem cx.P env T (evA env x) lo hi mx = some out) : OpOK cx.P o env H out := by
  unfold sliceSem at h
  split at h
  · split at h
    · split at h
      · injection h with h; subst h
        exact .of_vc fun hv => ⟨hv.2, op_slice_sl ho (by assumption) (by assumption) (by assumption) (by assumption) (by assumption) (by assumption) hv.1⟩
      · cases h
    · cases h
  · split at h
    · injection h with h; subst h
      refine .of_vc fun hv => ⟨hv.2, ?_⟩
      obtain ⟨e, he⟩ := Option.isSome_iff_exists.1 hv.1
      cases e
      exact op_slice_str ho (by assumption) he (by assumption) (by assumption)
    · cases h
  · split at h
    · split at h
      · injection h with h; subst h
        exact .of_vc fun hv => ⟨hv.2.2, op_slice_cref ho (by assumption) (by assumption) hv.1 (by assumption) (by assumption) (by assumption) hv.2.1⟩
      · cases h
    · cases h
  · split at h
    · split at h
      · injection h with h; subst h
        exact .of_vc fun hv => ⟨hv.2, op_slice_ref ho (by assumption) (by assumption) (by assumption) (by assumption) (by assumption) (by assumption) hv.1⟩
      · cases h
    · cases h
  · split at h
    · split at h
      · injection h with h; subst h
        exact .of_vc fun hv => ⟨hv.2, op_slice_aref ho (by assumption) (by assumption) hv.1 (by assumption) (by assumption)⟩
      · cases h
    · cases h
  · cases h

theorem makeSliceSem_ok {mut_ : Bool} {T : TypeId} {x y : Operand} (ho : o.op = .makeSlice T x y) (h : makeSliceSem cx mut_ nm T (evA env x) (evA env y) = some out) : OpOK cx.P o env H out := by
  unfold makeSliceSem at h
  split at h
  · split at h
    · split at h
      · injection h with h; subst h
        exact op_makeSlice_obj nm ho (by assumption) (by assumption) (by assumption) (cx.hz _ _ (by assumption)) (by assumption) (by assumption)
      · split at h
        · injection h with h; subst h
          exact op_makeSlice_tail nm ho (by assumption) (by assumption) (by assumption) (cx.hz _ _ (by assumption)) (by assumption) (by assumption)
        · injection h with h; subst h
          exact op_makeSlice_imm ho (by assumption) (by assumption) (by assumption) (cx.hz _ _ (by assumption)) (by assumption) (by assumption)
    · cases h
  · cases h

theorem copySem_ok {T U : TypeId} {x y : Operand} (ho : o.op = .call ⟨.builtin .copy, #[x, y], #[T, U]⟩) (h : copySem cx.P H T U (evA env x) (evA env y) = some out) : OpOK cx.P o env H out := by
  unfold copySem at h
  split at h
  · split at h
    · split at h
      · rename_i hat hsrc
        injection h with h; subst h
        refine .of_vc fun hv => ⟨hv.2, ?_⟩
        obtain ⟨⟨v1, v2⟩, _⟩ := hv
        subst v2
        exact op_copy ho (by assumption) v1 (by assumption) (by assumption) hat (srcA_ok hsrc).2
      · cases h
    · cases h
  · cases h

theorem aref_part {g : G} {w : World} {n off sz lo len : Nat} {path : List Nat} {v : Value} {a : AV} {ps : List AV} (h : V1 g w (.aref n off path sz lo len) v) (hn : resOK g w n (.obj a)) (hp : a.okPath path) (ho : a.offAt path = off)
    (ha : a.at_ path = .vec sz ps) (hl : lo + len ≤ ps.length) (k : Nat) (hk : k ≤ len) :
    ∃ b c cs, v = .slice (some ⟨b, off + lo * sz, none⟩) len c ∧ R g w (.useq sz (((ps.drop lo).take len).take k) cs) ∧ RowAt w b (off + lo * sz) cs ∧ cs.length = k * sz := by
  obtain ⟨b, c, cs, hv, k1, k2, k3⟩ := aref_row h hn hp ho ha hl
  have hkl : k * sz ≤ len * sz := Nat.mul_le_mul_right _ hk
  refine ⟨b, c, cs.take (k * sz), hv, R.useq_take k k1 (by simp; omega), ?_, by rw [List.length_take, k3]; exact Nat.min_eq_left hkl⟩
  have h2 := k2.sub 0 (k * sz)
  simpa using h2
theorem op_copy_part {T U e : TypeId} {x y : Operand} {a a2 : AV} {n off sz lo len n2 off2 lo2 len2 : Nat} {path path2 : List Nat} {ps qs : List AV} (ho : o.op = .call ⟨.builtin .copy, #[x, y], #[T, U]⟩) (hT : tsl cx.P T = some e) (hs : tsz cx.P e = some sz)
    (hx : evA env x = .aref n off path sz lo len) (hy : evA env y = .aref n2 off2 path2 sz lo2 len2) (hn : H.get n = some (.obj a)) (hn2 : Res.obj? (H.get n2) = some a2) (ha : a.at_ path = .vec sz ps) (ha2 : a2.at_ path2 = .vec sz qs) :
    OpOK cx.P o env H ⟨(a2.okPath path2 ∧ a2.offAt path2 = off2 ∧ lo2 + len2 ≤ qs.length) ∧ a.okPath path ∧ a.offAt path = off ∧ lo + len ≤ ps.length, .val (.int .i64 (((qs.drop lo2).take len2).take len).length), [n2], [(n, some (.obj (a.setAt path (.vec sz (setRange ps lo (((qs.drop lo2).take len2).take len))))))], []⟩ :=
  .of_vc' fun hv => ⟨(⟨hv.1, hv.2.1, hv.2.2.1, hv.2.2.2, by rw [List.length_take]; omega⟩ : (a2.okPath path2 ∧ a2.offAt path2 = off2 ∧ lo2 + len2 ≤ qs.length) ∧ a.okPath path ∧ a.offAt path = off ∧ lo + len ≤ ps.length ∧ (((qs.drop lo2).take len2).take len).length ≤ len),
    op_copy_gen (rd := [n2]) (vs := a2.okPath path2 ∧ a2.offAt path2 = off2 ∧ lo2 + len2 ≤ qs.length) ho hT hs hx hn ha fun g w v h1 h2 h3 => by
      rw [hy] at h1
      have hlen : ((qs.drop lo2).take len2).length = len2 := by rw [List.length_take, List.length_drop]; omega
      have hk : (((qs.drop lo2).take len2).take len).length = min len len2 := by rw [List.length_take, hlen]
      obtain ⟨b, c, cs, rfl, k1, k2, k3⟩ := aref_part h1 (objRes hn2 (h2 _ (by simp))) h3.1 h3.2.1 ha2 h3.2.2 (min len len2) (Nat.min_le_right _ _)
      have e0 : ∀ L : List AV, L.length = len2 → L.take (min len len2) = L.take len := fun L hL => by
        by_cases q : len ≤ len2
        · rw [Nat.min_eq_left q]
        · rw [Nat.min_eq_right (by omega), List.take_of_length_le (by omega), List.take_of_length_le (by omega)]
      have e := e0 _ hlen
      rw [e] at k1
      refine ⟨len2, by simp [Builtin.lenOf], by rw [hk]; exact Nat.min_comm _ _, cs, k1, ?_⟩
      rw [hk]
      simp only [Builtin.firstCells]
      exact loadCells_row k2 _ k3.symm⟩

theorem copySel_ok {b : Bool} {T U : TypeId} {x y : Operand} (ho : o.op = .call ⟨.builtin .copy, #[x, y], #[T, U]⟩) (h : copySel b cx.P H T U (evA env x) (evA env y) = some out) : OpOK cx.P o env H out := by
  cases b with
  | false => exact copySem_ok ho h
  | true =>
    simp only [copySel] at h
    have short : ∀ {out : Out}, copyShort cx.P H T (evA env x) (evA env y) = some out → OpOK cx.P o env H out := by
      intro out h
      unfold copyShort at h
      split at h
      · split at h
        · split at h
          · rename_i hat
            injection h with h; subst h
            refine .of_vc fun hv => ⟨hv.2, ?_⟩
            obtain ⟨⟨v1, v2, v3⟩, _⟩ := hv
            subst v2 v3
            exact op_copy_short ho (by assumption) v1 (by assumption) (by assumption) (by assumption) hat
          · cases h
        · cases h
      · cases h
    have part : ∀ {out : Out}, copyPart cx.P H T (evA env x) (evA env y) = some out → OpOK cx.P o env H out := by
      intro out h
      unfold copyPart at h
      split at h
      · split at h
        · split at h
          · rename_i hat1 hat2
            injection h with h; subst h
            refine .of_vc fun hv => ⟨hv.2, ?_⟩
            obtain ⟨⟨v1, v2, v3, v4⟩, _⟩ := hv
            subst v2 v3 v4
            exact op_copy_part ho (by assumption) v1 (by assumption) (by assumption) (by assumption) (by assumption) hat1 hat2
          · cases h
        · cases h
      · cases h
    cases hc : copyShort cx.P H T (evA env x) (evA env y) with
    | some o1 => rw [hc] at h; injection h with h; subst h; exact short hc
    | none => rw [hc] at h; exact part h

theorem convSem_ok {S T : TypeId} {x : Operand} (ho : o.op = .convert S T x) (h : convSem cx.P S T (evA env x) = some out) : OpOK cx.P o env H out := by
  unfold convSem at h
  split at h
  · split at h
    · injection h with h; subst h
      exact .of_vc fun hv => ⟨hv, .of_vc fun _ => ⟨trivial, op_convInt ho (by assumption) hv (by assumption)⟩⟩
    · cases h
  · split at h
    · injection h with h; subst h
      refine .of_vc fun hv => ⟨hv.2.2, ?_⟩
      obtain ⟨e, he⟩ := Option.isSome_iff_exists.1 hv.2.1
      cases e
      exact op_bytesToString ho (by assumption) (by assumption) hv.1 he
    · cases h
  · split at h
    · injection h with h; subst h
      refine .of_vc (vc := True) fun hv => ?_
      obtain ⟨e, he⟩ := Option.isSome_iff_exists.1 hv.2
      cases e
      exact ⟨trivial, op_stringToBytes ho (by assumption) he (by assumption) hv.1⟩
    · cases h
  · cases h

theorem lookSem_ok {T : TypeId} {x y : Operand} {c : Bool} (ho : o.op = .lookup T x y c) (h : lookSem cx H T (evA env x) (evA env y) c = some out) : OpOK cx.P o env H out := by
  unfold lookSem at h
  split at h
  · split at h
    · split at h
      · split at h
        · injection h with h; subst h
          rw [← pairA_if]
          exact op_lookup ho (by assumption) (by assumption) (by assumption) (cx.hz _ _ (by assumption))
        · cases h
      · injection h with h; subst h
        rw [← pairA_if]
        exact op_lookup_nil ho (by assumption) (by assumption) (cx.hz _ _ (by assumption))
      · cases h
    · cases h
  · cases h

theorem updSem_ok {T : TypeId} {x y v : Operand} (ho : o.op = .mapUpdate T x y v ∨ o.op = .insert T x y v) (h : updSem cx.P H T (evA env x) (evA env y) (evA env v) = some out) : OpOK cx.P o env H out := by
  unfold updSem at h
  split at h
  · split at h
    · split at h
      · injection h with h; subst h
        exact op_mapUpdate ho (by assumption) (by assumption) (by assumption)
      · cases h
    · cases h
  · cases h

theorem delSem_ok {T U : TypeId} {x y : Operand} (ho : o.op = .call ⟨.builtin .delete, #[x, y], #[T, U]⟩) (h : delSem cx.P H T (evA env x) (evA env y) = some out) : OpOK cx.P o env H out := by
  unfold delSem at h
  split at h
  · split at h
    · split at h
      · injection h with h; subst h
        exact op_delete ho rfl (by assumption) (by assumption) (by assumption)
      · cases h
    · cases h
  · cases h
theorem rangeSem_ok {T : TypeId} {x : Operand} (ho : o.op = .range T x) (h : rangeSem cx.P H nm T (evA env x) = some out) : OpOK cx.P o env H out := by
  unfold rangeSem at h
  split at h
  · split at h
    · injection h with h; subst h
      exact .of_vc fun hv => ⟨hv, by obtain ⟨⟨kt, et⟩, he⟩ := Option.isSome_iff_exists.1 hv; exact .of_vc fun _ => ⟨trivial, op_range ho (by assumption) (by assumption) he⟩⟩
    · cases h
  · cases h
theorem entrySem_ok {x : Operand} (ho : o.op = .entry x) (h : entrySem H (evA env x) = some out) : OpOK cx.P o env H out := by
  unfold entrySem at h
  split at h
  · split at h
    · split at h
      · injection h with h; subst h
        exact op_entry ho (by assumption) (by assumption) (by assumption)
      · cases h
    · cases h
  · cases h

theorem opSem0_ok (h : opSem0 cx mt nm o env H = some out) : OpOK cx.P o env H out := by
  unfold opSem0 at h
  split at h
  · rename_i ho; injection h with h; subst h; exact op_move (.inl ho)
  · rename_i ho; injection h with h; subst h; exact op_move (.inr ho)
  · rename_i ho; split at h
    · injection h with h; subst h; exact op_pick ho (by assumption)
    · cases h
  · rename_i ho; exact unSem_ok ho h
  · rename_i ho
    unfold orSem at h
    split at h
    · rename_i a b hn
      injection h with h; subst h
      exact nilSem_ok ho hn
    · exact binSem_ok ho h
  · rename_i ho; exact convSem_ok ho h
  · rename_i ho; exact sliceSem_ok ho h
  · rename_i ho; exact makeSliceSem_ok ho h
  · rename_i f fs cs ho; split at h
    · rename_i hfs
      injection h with h; subst h
      have : fs = #[] := by rw [← Array.toArray_toList (xs := fs), hfs]
      subst this
      exact .of_vc fun hv => ⟨trivial, op_makeFunc ho fun x hx => hv _ (List.mem_map.2 ⟨x, Array.mem_toList_iff.2 hx, rfl⟩)⟩
    · cases h
  · rename_i ho; split at h
    · injection h with h; subst h; exact op_nilCheck_ref ho (by assumption)
    · injection h with h; subst h; exact op_nilCheck_cref ho (by assumption)
    · cases h
  · rename_i ho; split at h
    · injection h with h; subst h; exact .of_vc fun hv => ⟨hv, .of_vc fun _ => ⟨trivial, op_box_obj nm ho hv⟩⟩
    · injection h with h; subst h; exact .of_vc fun hv => ⟨hv, .of_vc fun _ => ⟨trivial, op_box_cref ho hv⟩⟩
  · rename_i ho; split at h
    · rename_i z hz; injection h with h; subst h; exact op_alloc nm ho (cx.hz _ _ hz)
    · cases h
  · rename_i ho; split at h
    · injection h with h; subst h; exact op_makeMap nm ho
    · cases h
  · rename_i ho; exact lookSem_ok ho h
  · rename_i ho; exact updSem_ok (.inl ho) h
  · rename_i ho; exact updSem_ok (.inr ho) h
  · rename_i ho; exact rangeSem_ok ho h
  · rename_i ho; exact entrySem_ok ho h
  · rename_i ho; exact loadSem_ok ho h
  · rename_i ho; exact storeSem_ok ho h
  · rename_i ho; exact fieldAddrSem_ok ho h
  · rename_i ho; exact indexAddrSem_ok ho h
  · rename_i ho; exact fieldSem_ok ho h
  · rename_i ho; exact indexSem_ok ho h
  · rename_i ho; exact buildSem_ok ho h
  · rename_i ho; exact buildSliceSem_ok ho h
  · rename_i ho; split at h
    · injection h with h; subst h; exact op_extract ho (by assumption)
    · cases h
  · rename_i b args ts ho
    split at h
    · rename_i x T ha ht
      have ea : args = #[x] := by rw [← Array.toArray_toList (xs := args), ha]
      have et : ts = #[T] := by rw [← Array.toArray_toList (xs := ts), ht]
      subst ea et
      exact lenSem_ok ho h
    · rename_i x y T U ha ht
      have ea : args = #[x, y] := by rw [← Array.toArray_toList (xs := args), ha]
      have et : ts = #[T, U] := by rw [← Array.toArray_toList (xs := ts), ht]
      subst ea et
      exact delSem_ok ho h
    · rename_i x y T U ha ht
      have ea : args = #[x, y] := by rw [← Array.toArray_toList (xs := args), ha]
      have et : ts = #[T, U] := by rw [← Array.toArray_toList (xs := ts), ht]
      subst ea et
      exact appendSem_ok ho h
    · rename_i x y T U ha ht
      have ea : args = #[x, y] := by rw [← Array.toArray_toList (xs := args), ha]
      have et : ts = #[T, U] := by rw [← Array.toArray_toList (xs := ts), ht]
      subst ea et
      exact copySel_ok ho h
    · rename_i x y T U ha ht
      have ea : args = #[x, y] := by rw [← Array.toArray_toList (xs := args), ha]
      have et : ts = #[T, U] := by rw [← Array.toArray_toList (xs := ts), ht]
      subst ea et
      split at h
      · injection h with h; subst h; exact op_minmax (mx := true) ho rfl (by assumption) (by assumption)
      · cases h
    · rename_i x y T U ha ht
      have ea : args = #[x, y] := by rw [← Array.toArray_toList (xs := args), ha]
      have et : ts = #[T, U] := by rw [← Array.toArray_toList (xs := ts), ht]
      subst ea et
      split at h
      · injection h with h; subst h; exact op_minmax (mx := false) ho rfl (by assumption) (by assumption)
      · cases h
    · cases h
  · cases h

theorem opSem_ok {an : An} (h : opSem cx an nm o env H = some out) : OpOK cx.P o env H out := by
  unfold opSem at h
  split at h
  · split at h
    · exact Out.toks_ok (opSem0_ok (by assumption)) h
    · injection h with h; subst h; exact Out.fg_ok _ (opSem0_ok (by assumption))
  · cases h
end
end Go.AL

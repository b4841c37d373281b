/-
  The types of this seat, told to the rules.
-/
import Derived.Test.YtaghcjbpjnpkbaaGreatET
import Derived.Test.YtaghcjbpjnpkbaaGreatAL25
import Derived.Laws.Bits64
set_option linter.unusedSimpArgs false
set_option linter.unusedVariables false
set_option maxRecDepth 100000
set_option maxHeartbeats 8000000
namespace Go.Proofs.YtaghcjbpjnpkbaaGreat.T
open Go Go.AL
attribute [go_sem] cxP t2 t3 t4 t5 t9 t20 t22 t23 t24 t25 t26 t28 t29 t30 t34 t35 t37 t38 t40 t41 t45 t47 t51 t55 t59 t66 t68 t70 t72 t74 t76 t84 t86 t87 t88 t90 t91 t92 t93 t94 t96 t99 t101 t102 t104 t109 t116 t126 t129 t133 t145 t146 t153 t156 t161 t165 t167 t176 t177 t180 t181 t183 t184 t185 t187 t194 t197 t200 t219 t220 t239 t245 t249 t258 t260 t262 t265 t268 t273 t282 t283 t286
end Go.Proofs.YtaghcjbpjnpkbaaGreat.T

namespace Go.Proofs.YtaghcjbpjnpkbaaGreat
open Go Go.AL Go.Proofs.YtaghcjbpjnpkbaaGreat.T
abbrev n64 (n : Int) : AV := .val (.int .i64 n)

abbrev u32A (n : Int) : AV := .val (.int .u32 n)
theorem nn64 (n : Int) : (0 ≤ IntKind.u64.wrap n) = True := by simp only [eq_iff_iff, iff_true]; rw [IntKind.wrap_u64]; omega
def vals (k : IntKind) (l : List Int) : List AV := l.map fun n => .val (.int k n)
theorem vals_len (k : IntKind) (l : List Int) : (vals k l).length = l.length := by simp [vals]
theorem vals_get {k : IntKind} {l : List Int} {i : Nat} (h : i < l.length) : (vals k l).getD i .undef = .val (.int k (l.getD i 0)) := by
 simp only [vals, List.getD_eq_getElem?_getD, List.getElem?_map, List.getElem?_eq_getElem h]; rfl
theorem vals_set {k : IntKind} {l : List Int} {i : Nat} {n : Int} : (vals k l).set i (.val (.int k n)) = vals k (l.set i n) := by
 simp only [vals, List.map_set]
theorem nb_vals {m : Nat} (k : IntKind) (l : List Int) : AV.nbs m (vals k l) = True := by simp only [eq_iff_iff, iff_true]; exact nbs_map (fun x => by simp [AV.nb]) _
theorem vals_rep (k : IntKind) (n : Nat) : List.replicate n (.val (.int k 0)) = vals k (List.replicate n 0) := by simp [vals]
theorem u8s_get {l : List UInt8} {i : Nat} (h : i < l.length) : (u8s l).getD i .undef = .val (.int .u8 ((l.getD i 0).toNat : Int)) := by
 simp only [u8s, List.getD_eq_getElem?_getD, List.getElem?_map, List.getElem?_eq_getElem h]; rfl

def runS (g : List Int → Nat → Int) (i0 : Nat) (w : List Int) : Nat → List Int
 | 0 => w
 | k + 1 => (runS g i0 w k).set (i0 + k) (g (runS g i0 w k) (i0 + k))
theorem runS_len (g : List Int → Nat → Int) (i0 : Nat) (w : List Int) : ∀ k, (runS g i0 w k).length = w.length
 | 0 => rfl
 | k + 1 => by rw [runS, List.length_set, runS_len g i0 w k]

attribute [local go_sem] nb_vals nb_u8s vals_len u8s_length
noncomputable def rot_ex : { f : Int → Int → Int // ∀ nx x k, FnSpec Tryz.prog 173 nx [u32A x, .val (.int .i64 k)] [] (u32A (f x k)) [] 0 } := ⟨_, fun nx x k => by
 refine FnSpec.of_code (cx := cx) (an := {}) (rs := [.tmp 4]) mo Tryz.func173 rfl rfl (by kernel_rfl) (by kernel_rfl) (by show 2 ≤ _; decide) (.inl rfl) (by simp [allWr, keys, Res.wr]) ?_
 simp -dsimp -implicitDefEqProofs only [go_sem, nn64]
 rfl⟩
noncomputable def rot32 : Int → Int → Int := rot_ex.1
theorem rot_spec (nx : Nat) (x k : Int) : FnSpec Tryz.prog 173 nx [u32A x, .val (.int .i64 k)] [] (u32A (rot32 x k)) [] 0 := rot_ex.2 nx x k

theorem wrapE {x : Int} {n : Nat} (h : x = (n : Int)) (hn : n < 2 ^ 63) : IntKind.i64.wrap x = (n : Int) := by rw [IntKind.wrap_i64]; omega

abbrev orx (a b : Int) : Int := IntKind.u32.wrap ((BitVec.ofInt IntKind.u32.bits a ||| BitVec.ofInt IntKind.u32.bits b).toNat : Int)
abbrev xorx (a b : Int) : Int := IntKind.u32.wrap ((BitVec.ofInt IntKind.u32.bits a ^^^ BitVec.ofInt IntKind.u32.bits b).toNat : Int)
abbrev andx (a b : Int) : Int := IntKind.u32.wrap ((BitVec.ofInt IntKind.u32.bits a &&& BitVec.ofInt IntKind.u32.bits b).toNat : Int)
abbrev addx (a b : Int) : Int := IntKind.u32.wrap (a + b)
abbrev shlx (a : Int) (k : Nat) : Int := IntKind.u32.wrap (a * 2 ^ k)
abbrev shrs (a : Int) (k : Nat) : Int := a.fdiv (2 ^ k)
def g1 (b : List UInt8) (_ : List Int) (i : Nat) : Int :=
 orx (orx (orx (shlx (IntKind.u32.wrap ((b.getD (4 * i) 0).toNat : Int)) 24) (shlx (IntKind.u32.wrap ((b.getD (4 * i + 1) 0).toNat : Int)) 16)) (shlx (IntKind.u32.wrap ((b.getD (4 * i + 2) 0).toNat : Int)) 8)) (IntKind.u32.wrap ((b.getD (4 * i + 3) 0).toNat : Int))
noncomputable def g2' (w : List Int) (i : Nat) : Int :=
 addx (addx (addx (w.getD i 0) (xorx (xorx (rot32 (w.getD (1 + i) 0) (-7)) (rot32 (w.getD (1 + i) 0) (-18))) (shrs (w.getD (1 + i) 0) 3))) (w.getD (9 + i) 0))
  (xorx (xorx (rot32 (w.getD (14 + i) 0) (-17)) (rot32 (w.getD (14 + i) 0) (-19))) (shrs (w.getD (14 + i) 0) 10))
noncomputable def g2 (w : List Int) (j : Nat) : Int := g2' w (j - 16)
noncomputable def sprd (b : List UInt8) : List Int := runS g2 16 (runS (g1 b) 0 (List.replicate 64 0) 16) 48

theorem spread_spec (nx tok : Nat) (b : List UInt8) (hb : b.length = 64) (ht : tok < 2 ∨ tok - 2 < nx) : FnSpec Tryz.prog 172 nx [.sl 1 (u8s b) tok] [] (.vec 1 (vals .u32 (sprd b))) [] 0 := by
 refine FnSpec.of_code (cx := cx) (an := {}) (rs := [.cell 2 262]) mo Tryz.func172 rfl rfl (by kernel_rfl) (by kernel_rfl) (by show 1 ≤ _; decide) (.inl rfl) (by simp [allWr, keys, Res.wr]) ?_
 simp -dsimp -implicitDefEqProofs only [go_sem, vals_rep]
 apply loop_keep [0, 2, 3] (fun i : { i : Nat // i ≤ 16 } => [(10, .val (.int .i64 i.1))])
  (fun i => [(nx, some (.obj (.vec 1 (vals .u32 (List.replicate 64 0))))), (nx + 8, some (.obj (.vec 1 (vals .u32 (runS (g1 b) 0 (List.replicate 64 0) i.1)))))]) (fun i => 16 - i.1) ⟨0, Nat.zero_le _⟩
 ·simp -dsimp -implicitDefEqProofs only [go_sem]; rfl
 ·simp -dsimp -implicitDefEqProofs only [go_sem]
 ·simp -dsimp -implicitDefEqProofs only [go_sem]
  rfl
 ·intro s
  simp -dsimp -implicitDefEqProofs only [go_sem]
  omega
 ·as_aux_lemma =>
  rintro ⟨i, hi⟩
  have hw : IntKind.i64.wrap ((i : Int) + 1) = ((i + 1 : Nat) : Int) := wrapE (by omega) (by omega)
  have h4 : IntKind.i64.wrap (4 * (i : Int)) = ((4 * i : Nat) : Int) := wrapE (by omega) (by omega)
  have h41 : IntKind.i64.wrap (((4 * i : Nat) : Int) + 1) = ((4 * i + 1 : Nat) : Int) := wrapE (by omega) (by omega)
  have h42 : IntKind.i64.wrap (((4 * i : Nat) : Int) + 2) = ((4 * i + 2 : Nat) : Int) := wrapE (by omega) (by omega)
  have h43 : IntKind.i64.wrap (((4 * i : Nat) : Int) + 3) = ((4 * i + 3 : Nat) : Int) := wrapE (by omega) (by omega)
  have hr : runS (g1 b) 0 (List.replicate 64 0) (i + 1) = (runS (g1 b) 0 (List.replicate 64 0) i).set i (g1 b (runS (g1 b) 0 (List.replicate 64 0) i) i) := by simp only [runS, Nat.zero_add]
  have hl : (runS (g1 b) 0 (List.replicate 64 0) i).length = 64 := by rw [runS_len]; simp
  simp -dsimp -implicitDefEqProofs only [go_sem]
  refine brT (fun h => ?_) (fun h => ?_)
  ·as_aux_lemma =>
   generalize runS (g1 b) 0 (List.replicate 64 0) i = w at *
   have hi : i < 16 := by omega
   simp -dsimp -implicitDefEqProofs only [go_sem, hw, h4, h41, h42, h43, u8s_get (show 4 * i < b.length by omega), u8s_get (show 4 * i + 1 < b.length by omega), u8s_get (show 4 * i + 2 < b.length by omega), u8s_get (show 4 * i + 3 < b.length by omega), hb, hl, vals_get (show i < w.length by omega), vals_set]
   refine ⟨by omega, by omega, by omega, by omega, by omega, by omega, ⟨i + 1, hi⟩, by show 16 - (i + 1) < 16 - i; omega, rfl, ?_⟩
   rw [hr]
   rfl
  ·have e : i = 16 := by omega
   subst e
   clear hr hw h4 h41 h42 h43 h
   simp -dsimp -implicitDefEqProofs only [go_sem]
   generalize hw0 : runS (g1 b) 0 (List.replicate 64 0) 16 = w0 at *
   apply loop_keep [2, 3] (fun i : { i : Nat // i ≤ 48 } => [(5, .val (.int .i64 ((16 + i.1 : Nat) : Int)))])
    (fun i => [(nx, some (.obj (.vec 1 (vals .u32 (List.replicate 64 0))))), (nx + 8, some (.obj (.vec 1 (vals .u32 (runS g2 16 w0 i.1)))))]) (fun i => 48 - i.1) ⟨0, Nat.zero_le _⟩
   ·simp -dsimp -implicitDefEqProofs only [go_sem]; rfl
   ·simp -dsimp -implicitDefEqProofs only [go_sem]
   ·simp -dsimp -implicitDefEqProofs only [go_sem]
    rfl
   ·intro s
    simp -dsimp -implicitDefEqProofs only [go_sem]
    omega
   ·as_aux_lemma =>
    rintro ⟨i, hi⟩
    have hr : runS g2 16 w0 (i + 1) = (runS g2 16 w0 i).set (16 + i) (g2 (runS g2 16 w0 i) (16 + i)) := by simp only [runS]
    have hl : (runS g2 16 w0 i).length = 64 := by rw [runS_len]; exact hl
    simp -dsimp -implicitDefEqProofs only [go_sem]
    refine brT (fun h => ?_) (fun h => ?_)
    ·as_aux_lemma =>
     have hi : i < 48 := by omega
     generalize runS g2 16 w0 i = w at *
     have hw : IntKind.i64.wrap (((16 + i : Nat) : Int) + 1) = ((16 + (i + 1) : Nat) : Int) := wrapE (by omega) (by omega)
     have h1 : IntKind.i64.wrap (((16 + i : Nat) : Int) - 15) = ((1 + i : Nat) : Int) := wrapE (by omega) (by omega)
     have h2 : IntKind.i64.wrap (((16 + i : Nat) : Int) - 2) = ((14 + i : Nat) : Int) := wrapE (by omega) (by omega)
     have h3 : IntKind.i64.wrap (((16 + i : Nat) : Int) - 16) = ((i : Nat) : Int) := wrapE (by omega) (by omega)
     have h4 : IntKind.i64.wrap (((16 + i : Nat) : Int) - 7) = ((9 + i : Nat) : Int) := wrapE (by omega) (by omega)
     have q1 := vals_get (k := .u32) (show 1 + i < w.length by omega)
     have q2 := vals_get (k := .u32) (show 14 + i < w.length by omega)
     have q3 := vals_get (k := .u32) (show i < w.length by omega)
     have q4 := vals_get (k := .u32) (show 9 + i < w.length by omega)
     have q5 := vals_get (k := .u32) (show 16 + i < w.length by omega)
     simp -dsimp -implicitDefEqProofs only [go_sem, hw, h1, h2, h3, h4, hl, q1, q2, q3, q4, q5, vals_set]
     refine ⟨by omega, by omega, by omega, by omega, callK_by (rot_spec _ _ _) ?_⟩
     simp -dsimp -implicitDefEqProofs only [go_sem, hw, h1, h2, h3, h4, hl, q1, q2, q3, q4, q5, vals_set]
     refine callK_by (rot_spec _ _ _) ?_
     simp -dsimp -implicitDefEqProofs only [go_sem, hw, h1, h2, h3, h4, hl, q1, q2, q3, q4, q5, vals_set]
     refine callK_by (rot_spec _ _ _) ?_
     simp -dsimp -implicitDefEqProofs only [go_sem, hw, h1, h2, h3, h4, hl, q1, q2, q3, q4, q5, vals_set]
     refine callK_by (rot_spec _ _ _) ?_
     simp -dsimp -implicitDefEqProofs only [go_sem, hw, h1, h2, h3, h4, hl, q1, q2, q3, q4, q5, vals_set]
     repeat' (first | omega | (with_reducible refine And.intro ?_ ?_) | rfl)
     refine ⟨⟨i + 1, hi⟩, by show 48 - (i + 1) < 48 - i; omega, rfl, ?_⟩
     rw [hr]
     show _ = some (Res.obj (AV.vec 1 (vals .u32 (w.set (16 + i) (g2' w (16 + i - 16))))))
     rw [show 16 + i - 16 = i by omega]
     rfl
    ·simp -dsimp -implicitDefEqProofs only [go_sem, hl]
     have e : i = 48 := by omega
     subst e
     refine ⟨by simp, ?_⟩
     rw [← hw0]; rfl
theorem sprd_len (b : List UInt8) : (sprd b).length = 64 := by simp [sprd, runS_len]

theorem vals_take (k : IntKind) (l : List Int) (n : Nat) : (vals k l).take n = vals k (l.take n) := by simp [vals, List.map_take]
theorem vals_drop (k : IntKind) (l : List Int) (n : Nat) : (vals k l).drop n = vals k (l.drop n) := by simp [vals, List.map_drop]
theorem vals_app (k : IntKind) (l m : List Int) : vals k l ++ vals k m = vals k (l ++ m) := by simp [vals]

theorem vals_setRange (k : IntKind) (l M : List Int) (lo : Nat) : setRange (vals k l) lo (vals k M) = vals k (l.take lo ++ M ++ l.drop (lo + M.length)) := by
 simp only [setRange, vals_take, vals_drop, vals_app, vals_len]
theorem min78 : min 7 8 = 7 := rfl
def slideI (v : List Int) : List Int := v.take 1 ++ v.take 7 ++ v.drop 8
theorem slide_fold (v : List Int) : v.take 1 ++ v.take 7 ++ v.drop 8 = slideI v := rfl
theorem slide_len {v : List Int} (h : v.length = 8) : (slideI v).length = 8 := by simp [slideI, h]
theorem vals_csize (k : IntKind) (l : List Int) (i : Nat) : ((vals k l).getD i .undef).csize = 1 := by
 by_cases h : i < l.length
 ·rw [vals_get h]; rfl
 ·rw [List.getD_eq_getElem?_getD, List.getElem?_eq_none (by rw [vals_len]; omega)]; rfl
theorem vals_isAgg (k : IntKind) (l : List Int) (i : Nat) : ((vals k l).getD i .undef).isAgg = false := by
 by_cases h : i < l.length
 ·rw [vals_get h]; rfl
 ·rw [List.getD_eq_getElem?_getD, List.getElem?_eq_none (by rw [vals_len]; omega)]; rfl
abbrev notx (n : Int) : Int := IntKind.u32.wrap ((BitVec.ofInt IntKind.u32.bits (if IntKind.u32.signed then -1 else IntKind.u32.max) ^^^ BitVec.ofInt IntKind.u32.bits n).toNat : Int)
noncomputable def rndT (w k : List Int) (i : Nat) (v : List Int) : Int :=
 addx (addx (addx (addx (v.getD 7 0) (xorx (xorx (rot32 (v.getD 4 0) (-6)) (rot32 (v.getD 4 0) (-11))) (rot32 (v.getD 4 0) (-25)))) (xorx (andx (v.getD 4 0) (v.getD 5 0)) (andx (notx (v.getD 4 0)) (v.getD 6 0)))) (k.getD i 0)) (w.getD i 0)
noncomputable def rndU (v : List Int) : Int :=
 addx (xorx (xorx (rot32 (v.getD 0 0) (-2)) (rot32 (v.getD 0 0) (-13))) (rot32 (v.getD 0 0) (-22))) (xorx (xorx (andx (v.getD 0 0) (v.getD 1 0)) (andx (v.getD 0 0) (v.getD 2 0))) (andx (v.getD 1 0) (v.getD 2 0)))
noncomputable def rnd (w k : List Int) (i : Nat) (v : List Int) : List Int :=
 ((slideI v).set 4 (addx ((slideI v).getD 4 0) (rndT w k i v))).set 0 (addx (rndT w k i v) (rndU v))
noncomputable def rounds (w k : List Int) : Nat → List Int → List Int
 | 0, v => v
 | n + 1, v => rnd w k n (rounds w k n v)
theorem rounds_len (w k : List Int) (v : List Int) (h : v.length = 8) : ∀ n, (rounds w k n v).length = 8
 | 0 => h
 | n + 1 => by have := rounds_len w k v h n; simp only [rounds, rnd]; simp [slide_len this]
def addAll (h v : List Int) (n : Nat) : List Int := runS (fun s i => addx (s.getD i 0) (v.getD i 0)) 0 h n

theorem block_spec (nx m mk tok : Nat) (hs ks : List Int) (b : List UInt8) (hb : b.length = 64) (hh : hs.length = 8) (hk : ks.length = 64) (ht : tok < 2 ∨ tok - 2 < nx) (hm : m < nx) (hmk : mk < nx) (hne : m ≠ mk) :
  FnSpec Tryz.prog 151 nx [.ref m 0 [], .sl 1 (u8s b) tok, .ref mk 0 []] [(m, some (.obj (.vec 1 (vals .u32 hs)))), (mk, some (.robj (.vec 1 (vals .u32 ks))))] (.tup [])
   [(m, some (.obj (.vec 1 (vals .u32 (addAll hs (rounds (sprd b) ks 64 hs) 8)))))] 0 := by
 have x1 := fun k => lt_nx hm k
 have x2 := fun k => nx_gt hm k
 have x3 := lt_nx0 hm
 have x4 := nx_gt0 hm
 have y1 := fun k => lt_nx hmk k
 have y2 := fun k => nx_gt hmk k
 have y3 := lt_nx0 hmk
 have y4 := nx_gt0 hmk
 have z1 : (m = mk) = False := by simp [hne]
 have z2 : (mk = m) = False := by simp [Ne.symm hne]
 refine FnSpec.of_code (cx := cx) (an := {}) (rs := []) mo Tryz.func151 rfl rfl (by kernel_rfl) (by kernel_rfl) (by show 3 ≤ _; decide) (.inr ⟨_, rfl, by simp [AV.good]⟩) (by simp [allWr, keys, Res.wr]) ?_
 simp -dsimp -implicitDefEqProofs only [go_sem, x1, x2, x3, x4, y1, y2, y3, y4, z1, z2]
 refine callK_by (spread_spec _ tok b hb (by omega)) ?_
 simp -dsimp -implicitDefEqProofs only [go_sem, x1, x2, x3, x4, y1, y2, y3, y4, z1, z2, hh, sprd_len]
 refine ⟨by simp, by simp, ?_⟩
 apply loop_keep [0, 2, 6, 7] (fun i : { i : Nat // i ≤ 64 } => [(20, .val (.int .i64 i.1))])
  (fun i => [(m, some (.obj (.vec 1 (vals .u32 hs)))), (mk, some (.robj (.vec 1 (vals .u32 ks)))), (nx + 16, some (.obj (.vec 1 (vals .u32 (sprd b))))), (nx + 56, some (.obj (.vec 1 (vals .u32 (rounds (sprd b) ks i.1 hs)))))]) (fun i => 64 - i.1) ⟨0, Nat.zero_le _⟩
 ·simp -dsimp -implicitDefEqProofs only [go_sem]; rfl
 ·simp -dsimp -implicitDefEqProofs only [go_sem]
 ·simp -dsimp -implicitDefEqProofs only [go_sem, x1, x2, x3, x4, y1, y2, y3, y4, z1, z2]
  rfl
 ·intro s
  simp -dsimp -implicitDefEqProofs only [go_sem]
  omega
 ·as_aux_lemma =>
  rintro ⟨i, hi⟩
  have hw : IntKind.i64.wrap ((i : Int) + 1) = ((i + 1 : Nat) : Int) := wrapE (by omega) (by omega)
  have hl : (rounds (sprd b) ks i hs).length = 8 := rounds_len _ _ _ hh i
  have hr : rounds (sprd b) ks (i + 1) hs = rnd (sprd b) ks i (rounds (sprd b) ks i hs) := rfl
  simp -dsimp -implicitDefEqProofs only [go_sem, x1, x2, x3, x4, y1, y2, y3, y4, z1, z2]
  refine brT (fun h => ?_) (fun h => ?_)
  ·as_aux_lemma =>
   have hi : i < 64 := by omega
   have hsl := sprd_len b
   generalize rounds (sprd b) ks i hs = v at *
   generalize sprd b = w at *
   have v0 := vals_get (k := .u32) (show 0 < v.length by omega)
   have v1 := vals_get (k := .u32) (show 1 < v.length by omega)
   have v2 := vals_get (k := .u32) (show 2 < v.length by omega)
   have v4 := vals_get (k := .u32) (show 4 < v.length by omega)
   have v5 := vals_get (k := .u32) (show 5 < v.length by omega)
   have v6 := vals_get (k := .u32) (show 6 < v.length by omega)
   have v7 := vals_get (k := .u32) (show 7 < v.length by omega)
   have sl := slide_len hl
   have s4 := vals_get (k := .u32) (show 4 < (slideI v).length by omega)
   have ki := vals_get (k := .u32) (show i < ks.length by omega)
   have wi := vals_get (k := .u32) (show i < w.length by omega)
   repeat' (first | (simp -dsimp -implicitDefEqProofs only [go_sem, x1, x2, x3, x4, y1, y2, y3, y4, z1, z2, hw, hl, hk, hsl, v0, v1, v2, v4, v5, v6, v7, ki, wi, vals_take, vals_drop, vals_setRange, vals_set, Nat.sub_zero, Nat.reduceSub, List.length_take, min78, slide_fold, sl, s4, vals_csize, vals_isAgg, List.length_set]) | omega | (with_reducible refine And.intro ?_ ?_) | (refine callK_by (rot_spec _ _ _) ?_) | rfl)
   refine ⟨⟨i + 1, hi⟩, by show 64 - (i + 1) < 64 - i; omega, rfl, ?_⟩
   rw [hr]
   rfl
  ·have e : i = 64 := by omega
   subst e
   simp -dsimp -implicitDefEqProofs only [go_sem, x1, x2, x3, x4, y1, y2, y3, y4, z1, z2]
   generalize rounds (sprd b) ks 64 hs = v at *
   apply loop_keep [0, 7] (fun i : { i : Nat // i ≤ 8 } => [(98, .val (.int .i64 i.1))])
    (fun i => [(m, some (.obj (.vec 1 (vals .u32 (addAll hs v i.1))))), (nx + 56, some (.obj (.vec 1 (vals .u32 v))))]) (fun i => 8 - i.1) ⟨0, Nat.zero_le _⟩
   ·simp -dsimp -implicitDefEqProofs only [go_sem]; rfl
   ·simp -dsimp -implicitDefEqProofs only [go_sem]
   ·simp -dsimp -implicitDefEqProofs only [go_sem, x1, x2, x3, x4, y1, y2, y3, y4, z1, z2]
    rfl
   ·intro s
    simp -dsimp -implicitDefEqProofs only [go_sem]
    omega
   ·as_aux_lemma =>
    rintro ⟨i, hi⟩
    have hw : IntKind.i64.wrap ((i : Int) + 1) = ((i + 1 : Nat) : Int) := wrapE (by omega) (by omega)
    have hl2 : (addAll hs v i).length = 8 := by rw [addAll, runS_len]; exact hh
    have hr : addAll hs v (i + 1) = (addAll hs v i).set i (addx ((addAll hs v i).getD i 0) (v.getD i 0)) := by simp only [addAll, runS, Nat.zero_add]
    simp -dsimp -implicitDefEqProofs only [go_sem, x1, x2, x3, x4, y1, y2, y3, y4, z1, z2]
    refine brT (fun h => ?_) (fun h => ?_)
    ·as_aux_lemma =>
     have hi : i < 8 := by omega
     generalize addAll hs v i = s at *
     have q1 := vals_get (k := .u32) (show i < s.length by omega)
     have q2 := vals_get (k := .u32) (show i < v.length by omega)
     repeat' (first | (simp -dsimp -implicitDefEqProofs only [go_sem, x1, x2, x3, x4, y1, y2, y3, y4, z1, z2, hw, hl, hl2, q1, q2, vals_set]) | omega | (with_reducible refine And.intro ?_ ?_) | rfl)
     refine ⟨⟨i + 1, hi⟩, by show 8 - (i + 1) < 8 - i; omega, rfl, ?_⟩
     rw [hr]
    ·simp -dsimp -implicitDefEqProofs only [go_sem, x1, x2, x3, x4, y1, y2, y3, y4, z1, z2]
     have e : i = 8 := by omega
     subst e
     exact ⟨rfl, hm⟩

/-! ### bytes -/
def b8 (n : Int) : UInt8 := UInt8.ofNat (n % 256).toNat
theorem u8_wrap (n : Int) : AV.val (.int .u8 (IntKind.u8.wrap n)) = u8 (b8 n) := by
 have h : (b8 n).toNat = (n % 256).toNat := by
  simp only [b8, UInt8.toNat_ofNat']
  omega
 simp only [u8, h, IntKind.wrap_u8]
 congr 2
 omega
theorem u8s_snoc (l : List UInt8) (c : UInt8) : u8s l ++ [u8 c] = u8s (l ++ [c]) := by simp [u8s]
theorem u8_128 : AV.val (.int .u8 128) = u8 128 := rfl
theorem u8_0 : AV.val (.int .u8 0) = u8 0 := rfl
theorem u8_cs (c : UInt8) : (u8 c).csize = 1 := rfl
theorem u8_gd (c : UInt8) : (u8 c).good = true := rfl
theorem u8_ag (c : UInt8) : (u8 c).isAgg = false := rfl
theorem u8_nb (c : UInt8) (m : Nat) : (u8 c).nb m = True := by simp [u8, AV.nb]
--LOCAL2
theorem tmodN (a b : Nat) : ((a : Nat) : Int).tmod b = ((a % b : Nat) : Int) := by
 rw [Int.tmod_eq_emod_of_nonneg (by omega)]; omega

def zeros (l : Nat) : Nat := if (l + 1) % 64 ≤ 56 then 56 - (l + 1) % 64 else 120 - (l + 1) % 64
def pad1 (b : List UInt8) (n : Nat) : List UInt8 := b ++ [128] ++ List.replicate n 0
theorem pad1_len (b : List UInt8) (n : Nat) : (pad1 b n).length = b.length + 1 + n := by simp [pad1]; omega
theorem pad1_succ (b : List UInt8) (n : Nat) : pad1 b n ++ [0] = pad1 b (n + 1) := by simp [pad1, List.replicate_succ']
def lenBs (n : Int) (k : Nat) : List UInt8 := (List.range k).map fun j => b8 (n.fdiv (2 ^ (56 - 8 * j)))
theorem lenBs_succ (n : Int) (k : Nat) : lenBs n k ++ [b8 (n.fdiv (2 ^ (56 - 8 * k)))] = lenBs n (k + 1) := by simp [lenBs, List.range_succ]
theorem lenBs_len (n : Int) (k : Nat) : (lenBs n k).length = k := by simp [lenBs]
def bitsOf (b : List UInt8) : Int := IntKind.u64.wrap (IntKind.u64.wrap b.length * 8)
def padL (b : List UInt8) : List UInt8 := pad1 b (zeros b.length) ++ lenBs (bitsOf b) 8
theorem padL_len (b : List UInt8) : (padL b).length = b.length + 1 + zeros b.length + 8 := by simp [padL, pad1_len, lenBs_len]

theorem padded_spec (nx tok : Nat) (b : List UInt8) (hb : b.length < 2 ^ 40) (ht : tok < 2 ∨ tok - 2 < nx) : FnSpec Tryz.prog 150 nx [.sl 1 (u8s b) tok] [] (.sl 1 (u8s (padL b)) (nx + 58)) [(nx + 56, some (.tail (padL b).length))] 57 := by
 refine FnSpec.of_code (cx := cx) (an := {}) (rs := [.tmp 2]) mo Tryz.func150 rfl rfl (by kernel_rfl) (by kernel_rfl) (by show 1 ≤ _; decide) (.inl rfl) (by simp [allWr, keys, Res.wr]) ?_
 simp -dsimp -implicitDefEqProofs only [go_sem, u8_cs, u8_gd, u8_ag, u8_nb, u8_128, u8s_snoc]
 repeat' (first | omega | (with_reducible refine And.intro ?_ ?_) | rfl)
 have hz : zeros b.length < 64 := by simp only [zeros]; split <;> omega
 apply loop_keep [3] (fun i : { i : Nat // i ≤ zeros b.length } => [(4, .sl 1 (u8s (pad1 b i.1)) (nx + 58))])
  (fun i => [(nx + 56, some (.tail (pad1 b i.1).length))]) (fun i => zeros b.length - i.1) ⟨0, Nat.zero_le _⟩
 ·simp -dsimp -implicitDefEqProofs only [go_sem]; rfl
 ·simp -dsimp -implicitDefEqProofs only [go_sem]
  simp [pad1]
 ·simp -dsimp -implicitDefEqProofs only [go_sem]
  simp [pad1]
 ·intro s
  simp -dsimp -implicitDefEqProofs only [go_sem]
  omega
 ·as_aux_lemma =>
  rintro ⟨n, hn⟩
  have hl := pad1_len b n
  simp -dsimp -implicitDefEqProofs only [go_sem, u8_cs, u8_gd, u8_ag, u8_nb, hl]
  refine brF (fun h => ?_) (fun h => ?_)
  ·as_aux_lemma =>
   have hn2 : n < zeros b.length := by
    by_cases hc : n < zeros b.length
    ·exact hc
    ·exfalso
     apply h
     have : n = zeros b.length := by omega
     subst this
     have e : ((b.length + (1 + zeros b.length) : Nat) : Int).tmod 64 = (((b.length + (1 + zeros b.length)) % 64 : Nat) : Int) := tmodN _ 64
     rw [e]
     simp only [zeros]
     split <;> omega
   simp -dsimp -implicitDefEqProofs only [go_sem, u8_cs, u8_gd, u8_ag, u8_nb, hl, u8_0, u8s_snoc, pad1_succ, pad1_len]
   repeat' (first | omega | (with_reducible refine And.intro ?_ ?_) | rfl)
   refine ⟨⟨n + 1, hn2⟩, by show zeros b.length - (n + 1) < zeros b.length - n; omega, rfl, ?_⟩
   rfl
  ·as_aux_lemma =>
   have hn2 : n = zeros b.length := by
    have e : ((b.length + (1 + n) : Nat) : Int).tmod 64 = (((b.length + (1 + n)) % 64 : Nat) : Int) := tmodN _ 64
    rw [e] at h
    simp only [zeros] at hn ⊢
    split at hn <;> rename_i hq <;> simp only [hq, if_true, if_false] <;> omega
   subst hn2
   simp -dsimp -implicitDefEqProofs only [go_sem, u8_cs, u8_gd, u8_ag, u8_nb]
   apply loop_keep [3] (fun i : { i : Nat // i ≤ 8 } => [(4, .sl 1 (u8s (pad1 b (zeros b.length) ++ lenBs (bitsOf b) i.1)) (nx + 58)), (5, .val (.int .i64 (56 - 8 * i.1)))])
    (fun i => [(nx + 56, some (.tail (pad1 b (zeros b.length) ++ lenBs (bitsOf b) i.1).length))]) (fun i => 8 - i.1) ⟨0, Nat.zero_le _⟩
   ·simp -dsimp -implicitDefEqProofs only [go_sem]; rfl
   ·simp -dsimp -implicitDefEqProofs only [go_sem]
    simp [lenBs]
   ·simp -dsimp -implicitDefEqProofs only [go_sem]
    simp [lenBs, hl]; omega
   ·intro s
    simp -dsimp -implicitDefEqProofs only [go_sem]
    omega
   ·as_aux_lemma =>
    rintro ⟨k, hk⟩
    have hl := pad1_len b (zeros b.length)
    have hl2 : (pad1 b (zeros b.length) ++ lenBs (bitsOf b) k).length = b.length + 1 + zeros b.length + k := by rw [List.length_append, hl, lenBs_len]
    simp -dsimp -implicitDefEqProofs only [go_sem, u8_cs, u8_gd, u8_ag, u8_nb]
    refine brT (fun h => ?_) (fun h => ?_)
    ·as_aux_lemma =>
     have hk2 : k < 8 := by omega
     have hs : (56 - 8 * (k : Int)).toNat = 56 - 8 * k := by omega
     have hm : min (56 - 8 * k) 64 = 56 - 8 * k := by omega
     have hw : IntKind.i64.wrap (56 - 8 * (k : Int) - 8) = 56 - 8 * ((k + 1 : Nat) : Int) := by rw [IntKind.wrap_i64]; omega
     simp -dsimp -implicitDefEqProofs only [go_sem, u8_cs, u8_gd, u8_ag, u8_nb, hl2, u8_wrap, u8s_snoc, hs, hm, hw]
     refine ⟨by omega, ⟨by rw [hl, lenBs_len]; omega, by omega⟩, ⟨k + 1, hk2⟩, by show 8 - (k + 1) < 8 - k; omega, ⟨?_, rfl⟩, ?_⟩
     ·show AV.sl 1 (u8s (pad1 b (zeros b.length) ++ lenBs (bitsOf b) k ++ [b8 ((bitsOf b).fdiv (2 ^ (56 - 8 * k)))])) (nx + 58) = AV.sl 1 (u8s (pad1 b (zeros b.length) ++ lenBs (bitsOf b) (k + 1))) (nx + 58)
      rw [List.append_assoc, lenBs_succ]
     ·simp only [hl, lenBs_len]
      congr 2
      omega
    ·simp -dsimp -implicitDefEqProofs only [go_sem, u8_cs, u8_gd, u8_ag, u8_nb]
     have e : k = 8 := by omega
     subst e
     refine ⟨rfl, ?_, by omega⟩
     rw [padL_len, hl, lenBs_len]
theorem padL_mod (b : List UInt8) : ∃ N, (padL b).length = 64 * N := by
 rw [padL_len]
 simp only [zeros]
 split
 ·exact ⟨(b.length + 1) / 64 + 1, by omega⟩
 ·exact ⟨(b.length + 1) / 64 + 2, by omega⟩

def firstL : List Int := [1779033703, 3144134277, 1013904242, 2773480762, 1359893119, 2600822924, 528734635, 1541459225]
def kL : List Int := [1116352408, 1899447441, 3049323471, 3921009573, 961987163, 1508970993, 2453635748, 2870763221, 3624381080, 310598401, 607225278, 1426881987, 1925078388, 2162078206, 2614888103, 3248222580, 3835390401, 4022224774, 264347078, 604807628, 770255983, 1249150122, 1555081692, 1996064986, 2554220882, 2821834349, 2952996808, 3210313671, 3336571891, 3584528711, 113926993, 338241895, 666307205, 773529912, 1294757372, 1396182291, 1695183700, 1986661051, 2177026350, 2456956037, 2730485921, 2820302411, 3259730800, 3345764771, 3516065817, 3600352804, 4094571909, 275423344, 430227734, 506948616, 659060556, 883997877, 958139571, 1322822218, 1537002063, 1747873779, 1955562222, 2024104815, 2227730452, 2361852424, 2428436474, 2756734187, 3204031479, 3329325298]
theorem firstL_len : firstL.length = 8 := rfl
theorem kL_len : kL.length = 64 := rfl
theorem first_spec' (nx : Nat) : FnSpec Tryz.prog 148 nx [] [] (.vec 1 (vals .u32 firstL)) [] 0 := by
 refine FnSpec.of_code (cx := cx) (an := {}) (rs := [.cell 0 260]) mo Tryz.func148 rfl rfl (by kernel_rfl) (by kernel_rfl) (by show 0 ≤ _; decide) (.inl rfl) (by simp [allWr, keys, Res.wr]) ?_
 simp -dsimp -implicitDefEqProofs only [go_sem]
 simp only [List.replicate]
 simp -dsimp -implicitDefEqProofs only [go_sem]
 rfl
theorem rounds_spec (nx : Nat) : FnSpec Tryz.prog 149 nx [] [] (.vec 1 (vals .u32 kL)) [] 0 := by
 refine FnSpec.of_code (cx := cx) (an := {}) (rs := [.cell 0 262]) mo Tryz.func149 rfl rfl (by kernel_rfl) (by kernel_rfl) (by show 0 ≤ _; decide) (.inl rfl) (by simp [allWr, keys, Res.wr]) ?_
 simp -dsimp -implicitDefEqProofs only [go_sem]
 simp only [List.replicate]
 simp -dsimp -implicitDefEqProofs only [go_sem]
 rfl
end Go.Proofs.YtaghcjbpjnpkbaaGreat

namespace Go.Proofs.YtaghcjbpjnpkbaaGreat
open Go Go.AL Go.Proofs.YtaghcjbpjnpkbaaGreat.T

theorem u8s_set (l : List UInt8) (i : Nat) (c : UInt8) : (u8s l).set i (u8 c) = u8s (l.set i c) := by simp [u8s, List.map_set]
theorem u8s_csize (l : List UInt8) (i : Nat) : ((u8s l).getD i .undef).csize = 1 := by
 by_cases h : i < l.length
 ·rw [u8s_get h]; rfl
 ·rw [List.getD_eq_getElem?_getD, List.getElem?_eq_none (by simp [u8s]; omega)]; rfl
theorem u8s_isAgg (l : List UInt8) (i : Nat) : ((u8s l).getD i .undef).isAgg = false := by
 by_cases h : i < l.length
 ·rw [u8s_get h]; rfl
 ·rw [List.getD_eq_getElem?_getD, List.getElem?_eq_none (by simp [u8s]; omega)]; rfl
theorem u8s_take (l : List UInt8) (n : Nat) : (u8s l).take n = u8s (l.take n) := by simp [u8s, List.map_take]
theorem u8s_drop (l : List UInt8) (n : Nat) : (u8s l).drop n = u8s (l.drop n) := by simp [u8s, List.map_drop]
theorem u8s_rep (n : Nat) : List.replicate n (.val (.int .u8 0)) = u8s (List.replicate n 0) := by simp [u8s, u8]

noncomputable def ofB (p : List UInt8) : Nat → List Int
 | 0 => firstL
 | j + 1 => addAll (ofB p j) (rounds (sprd ((p.drop (64 * j)).take 64)) kL 64 (ofB p j)) 8
theorem ofB_len (p : List UInt8) : ∀ j, (ofB p j).length = 8
 | 0 => rfl
 | j + 1 => by rw [ofB, addAll, runS_len]; exact ofB_len p j
def outS (h : List Int) : Nat → List UInt8
 | 0 => List.replicate 32 0
 | i + 1 => ((((outS h i).set (4 * i) (b8 ((h.getD i 0).fdiv (2 ^ 24)))).set (4 * i + 1) (b8 ((h.getD i 0).fdiv (2 ^ 16)))).set (4 * i + 2) (b8 ((h.getD i 0).fdiv (2 ^ 8)))).set (4 * i + 3) (b8 (h.getD i 0))
theorem outS_len (h : List Int) : ∀ i, (outS h i).length = 32
 | 0 => by simp [outS]
 | i + 1 => by have := outS_len h i; simp [outS, this]
noncomputable def shaOf (b : List UInt8) : List UInt8 := outS (ofB (padL b) ((padL b).length / 64)) 8
theorem shaOf_len (b : List UInt8) : (shaOf b).length = 32 := outS_len _ _

attribute [local go_sem] nb_vals nb_u8s vals_len u8s_length u8_cs u8_gd u8_ag u8_nb
theorem of_spec (nx tok : Nat) (b : List UInt8) (hb : b.length < 2 ^ 40) (ht : tok < 2 ∨ tok - 2 < nx) : FnSpec Tryz.prog 115 nx [.sl 1 (u8s b) tok] [] (.vec 1 (u8s (shaOf b))) [] 0 := by
 obtain ⟨N, hN⟩ := padL_mod b
 refine FnSpec.of_code (cx := cx) (an := {}) (rs := [.cell 2 26]) mo Tryz.func115 rfl rfl (by kernel_rfl) (by kernel_rfl) (by show 1 ≤ _; decide) (.inl rfl) (by simp [allWr, keys, Res.wr]) ?_
 simp -dsimp -implicitDefEqProofs only [go_sem]
 refine callK_by (first_spec' _) ?_
 simp -dsimp -implicitDefEqProofs only [go_sem]
 refine callK_by (rounds_spec _) ?_
 simp -dsimp -implicitDefEqProofs only [go_sem, firstL_len, kL_len, List.length_replicate]
 refine callK_by (padded_spec _ tok b hb (by omega)) ?_
 simp -dsimp -implicitDefEqProofs only [go_sem]
 apply loop_keep [2, 3, 4] (fun s : { s : Nat × Nat // s.1 ≤ N ∧ s.2 ≠ 1 ∧ (s.2 < 2 ∨ s.2 - 2 < nx + 137) } => [(5, .sl 1 (u8s ((padL b).drop (64 * s.1.1))) s.1.2)])
  (fun s => [(nx, some (.obj (.vec 1 (u8s (List.replicate 32 0))))), (nx + 24, some (.obj (.vec 1 (vals .u32 (ofB (padL b) s.1.1))))), (nx + 32, some (.obj (.vec 1 (vals .u32 kL))))]) (fun s => N - s.1.1) ⟨(0, nx + 138), by simp⟩
 ·simp -dsimp -implicitDefEqProofs only [go_sem]; rfl
 ·simp -dsimp -implicitDefEqProofs only [go_sem]
 ·simp -dsimp -implicitDefEqProofs only [go_sem, u8s_rep]
  rfl
 ·rintro ⟨⟨j, t⟩, h1, h2, h3⟩
  simp only at h1 h2 h3
  simp -dsimp -implicitDefEqProofs only [go_sem]
  omega
 ·as_aux_lemma =>
  rintro ⟨⟨j, t⟩, h1, h2, h3⟩
  simp only at h1 h2 h3
  have hl : ((padL b).drop (64 * j)).length = 64 * (N - j) := by rw [List.length_drop, hN, Nat.mul_sub]
  simp -dsimp -implicitDefEqProofs only [go_sem, hl]
  refine brT (fun h => ?_) (fun h => ?_)
  ·as_aux_lemma =>
   have hj : j < N := by
    by_cases hc : j < N
    ·exact hc
    ·exfalso
     have : N - j = 0 := by omega
     rw [this] at h
     simp at h
   have hk : ((u8s ((padL b).drop (64 * j))).take 64).length = 64 := by rw [List.length_take, u8s_length, hl]; omega
   have ht1 : (t = 1) = False := by simp [h2]
   have h64 : (64 : Int) ≤ ((64 * (N - j) : Nat) : Int) := by omega
   simp -dsimp -implicitDefEqProofs only [go_sem, hl, u8s_take, u8s_drop, ht1, h64, List.drop_drop]
   refine ⟨by omega, callK_by (block_spec _ _ _ _ _ _ _ (by rw [List.length_take, hl]; omega) (ofB_len (padL b) j) kL_len (by omega) (by omega) (by omega) (by omega)) ?_⟩
   repeat' (first | (simp -dsimp -implicitDefEqProofs only [go_sem, hl, u8s_take, u8s_drop, ht1, h64, List.drop_drop]) | omega | (with_reducible refine And.intro ?_ ?_) | rfl)
   refine ⟨⟨(j + 1, 0), hj, by omega, by omega⟩, by show N - (j + 1) < N - j; omega, ?_, rfl⟩
   show AV.sl 1 (u8s _) 0 = AV.sl 1 (u8s ((padL b).drop (64 * (j + 1)))) 0
   congr 2
   rw [List.take_of_length_le (by omega), List.drop_drop]
   congr 1
  ·as_aux_lemma =>
   have hj : j = N := by
    by_cases hc : j < N
    ·exfalso; apply h; omega
    ·omega
   subst hj
   simp -dsimp -implicitDefEqProofs only [go_sem]
   have hlv := ofB_len (padL b) j
   have hsh : shaOf b = outS (ofB (padL b) j) 8 := by rw [shaOf, hN, Nat.mul_div_cancel_left _ (by omega : 0 < 64)]
   generalize ofB (padL b) j = v at *
   refine ⟨by rw [hlv], ?_⟩
   apply loop_keep [2, 6, 21] (fun i : { i : Nat // i ≤ 8 } => [(22, .val (.int .i64 i.1))])
    (fun i => [(nx, some (.obj (.vec 1 (u8s (List.replicate 32 0))))), (nx + 161, some (.obj (.vec 1 (u8s (outS v i.1)))))]) (fun i => 8 - i.1) ⟨0, Nat.zero_le _⟩
   ·simp -dsimp -implicitDefEqProofs only [go_sem]; rfl
   ·simp -dsimp -implicitDefEqProofs only [go_sem]
   ·simp -dsimp -implicitDefEqProofs only [go_sem, u8s_rep]
    rfl
   ·intro s
    simp -dsimp -implicitDefEqProofs only [go_sem]
    omega
   ·as_aux_lemma =>
    rintro ⟨i, hi⟩
    simp -dsimp -implicitDefEqProofs only [go_sem]
    refine brT (fun h => ?_) (fun h => ?_)
    ·as_aux_lemma =>
     have hi2 : i < 8 := by omega
     have hw : IntKind.i64.wrap ((i : Int) + 1) = ((i + 1 : Nat) : Int) := wrapE (by omega) (by omega)
     have g0 : IntKind.i64.wrap (4 * (i : Int)) = ((4 * i : Nat) : Int) := wrapE (by omega) (by omega)
     have e1 : IntKind.i64.wrap (((4 * i : Nat) : Int) + 1) = ((4 * i + 1 : Nat) : Int) := wrapE (by omega) (by omega)
     have e2 : IntKind.i64.wrap (((4 * i : Nat) : Int) + 2) = ((4 * i + 2 : Nat) : Int) := wrapE (by omega) (by omega)
     have e3 : IntKind.i64.wrap (((4 * i : Nat) : Int) + 3) = ((4 * i + 3 : Nat) : Int) := wrapE (by omega) (by omega)
     have q1 := vals_get (k := .u32) (show i < v.length by omega)
     have hol := outS_len v i
     repeat' (first | (simp -dsimp -implicitDefEqProofs only [go_sem, hw, g0, e1, e2, e3, q1, hol, hlv, u8s_set, u8_wrap, u8s_csize, u8s_isAgg, vals_csize, vals_isAgg, List.length_set]) | omega | (with_reducible refine And.intro ?_ ?_) | rfl)
     exact ⟨⟨i + 1, hi2⟩, by show 8 - (i + 1) < 8 - i; omega, rfl, rfl⟩
    ·simp -dsimp -implicitDefEqProofs only [go_sem]
     have e : i = 8 := by omega
     subst e
     rw [hsh, outS_len]
     simp
attribute [irreducible] shaOf
end Go.Proofs.YtaghcjbpjnpkbaaGreat

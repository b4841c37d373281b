/-
 wire.Pen: what its methods write; sha.Join.
-/
import Derived.Test.YtaghcjbpjnpkbaaGreatEP2
import Derived.Test.YtaghcjbpjnpkbaaGreatAL24
set_option linter.unusedSimpArgs false
set_option linter.unusedVariables false
set_option maxRecDepth 100000
set_option maxHeartbeats 8000000
namespace Go.Proofs.YtaghcjbpjnpkbaaGreat
open Go Go.AL Go.Proofs.YtaghcjbpjnpkbaaGreat.T

def numN (v : Nat) : List UInt8 := if v < 128 then [UInt8.ofNat v] else UInt8.ofNat (v % 128 + 128) :: numN (v / 128)
termination_by v
decreasing_by omega
theorem numN_small {v : Nat} (h : v < 128) : numN v = [UInt8.ofNat v] := by rw [numN, if_pos h]
theorem numN_big {v : Nat} (h : ¬ v < 128) : numN v = UInt8.ofNat (v % 128 + 128) :: numN (v / 128) := by rw [numN, if_neg h]
theorem numN_len : ∀ (k v : Nat), v < 128 ^ (k + 1) → (numN v).length ≤ k + 1
 | 0, v, h => by rw [numN_small (by simpa using h)]; simp
 | k + 1, v, h => by
  by_cases hv : v < 128
  ·rw [numN_small hv]; simp
  ·rw [numN_big hv, List.length_cons]
   have := numN_len k (v / 128) (by rw [Nat.pow_succ] at h; exact Nat.div_lt_of_lt_mul (by rw [Nat.mul_comm]; exact h))
   omega
def numV (n : Int) : Nat := (IntKind.u64.wrap (max n 0)).toNat
theorem numV_lt (n : Int) : numV n < 2 ^ 64 := by simp only [numV, IntKind.wrap_u64]; omega
def numI (n : Int) : List UInt8 := numN (numV n)
theorem numI_len (n : Int) : (numI n).length ≤ 10 := numN_len 9 _ (Nat.lt_of_lt_of_le (numV_lt n) (by decide))
theorem lor128 : ∀ x : Fin 256, (x.val ||| 128) = x.val % 128 + 128 := by decide
theorem or_byte (v : Nat) : AV.val (.int .u8 (IntKind.u8.wrap ((BitVec.ofInt IntKind.u8.bits (IntKind.u8.wrap (v : Int)) ||| BitVec.ofInt IntKind.u8.bits 128).toNat : Int))) = u8 (UInt8.ofNat (v % 128 + 128)) := by
 have h1 : (BitVec.ofInt IntKind.u8.bits (IntKind.u8.wrap (v : Int))).toNat = v % 256 := by
  show (BitVec.ofInt 8 _).toNat = _
  rw [BitVec.toNat_ofInt, IntKind.wrap_u8]
  omega
 have h2 : (BitVec.ofInt IntKind.u8.bits 128).toNat = 128 := rfl
 have h3 : ((BitVec.ofInt IntKind.u8.bits (IntKind.u8.wrap (v : Int)) ||| BitVec.ofInt IntKind.u8.bits 128)).toNat = v % 128 + 128 := by
  rw [BitVec.toNat_or, h1, h2]
  have := lor128 ⟨v % 256, by omega⟩
  simp only at this
  rw [this]
  omega
 rw [h3, u8_wrap]
 congr 1
 simp only [b8]
 congr 1
 omega
theorem small_byte {v : Nat} (h : v < 128) : AV.val (.int .u8 (IntKind.u8.wrap (v : Int))) = u8 (UInt8.ofNat v) := by
 rw [u8_wrap]
 congr 1
 simp only [b8]
 congr 1
 omega
theorem fdivN (v k : Nat) : ((v : Nat) : Int).fdiv (k : Int) = ((v / k : Nat) : Int) := by
 rw [Int.fdiv_eq_ediv_of_nonneg _ (by omega)]; rfl

def penA (bs : List UInt8) (t : Nat) : AV := .agg 1 [.sl 1 (u8s bs) t]
abbrev penH (m q : Nat) (bs : List UInt8) : Heap := [(m, some (.obj (penA bs (q + 2)))), (q, some (.tail bs.length))]
attribute [local go_sem] nb_vals nb_u8s vals_len u8s_length u8_cs u8_gd u8_ag u8_nb penA
theorem num_spec (nx m q : Nat) (bs : List UInt8) (n : Int) (hb : bs.length < 2 ^ 40) (hm : m < nx) (hq : q < nx) (hne : m ≠ q) :
  FnSpec Tryz.prog 119 nx [.ref m 0 [], .val (.int .i64 n)] (penH m q bs) (.ref m 0 []) (penH m q (bs ++ numI n)) 0 := by
 have z1 : (m = q) = False := by simp [hne]
 have z2 : (q = m) = False := by simp [Ne.symm hne]
 have hv : IntKind.u64.wrap (max n 0) = (numV n : Int) := by simp only [numV, IntKind.wrap_u64]; omega
 have hlt := numV_lt n
 have hlen := numI_len n
 refine FnSpec.of_code (cx := cx) (an := {}) (rs := [.tmp 4]) mo Tryz.func119 rfl rfl (by kernel_rfl) (by kernel_rfl) (by show 2 ≤ _; decide) (.inl rfl) (by simp [allWr, keys, Res.wr]) ?_
 simp -dsimp -implicitDefEqProofs only [go_sem, z1, z2, hv]
 apply loop_keep [0] (fun s : { s : List UInt8 × Nat // s.1 ++ numN s.2 = numI n ∧ s.2 < 2 ^ 64 } => [(5, .val (.int .u64 s.1.2))])
  (fun s => penH m q (bs ++ s.1.1)) (fun s => s.1.2) ⟨([], numV n), by simp [numI, hlt]⟩
 ·simp -dsimp -implicitDefEqProofs only [go_sem]; rfl
 ·simp -dsimp -implicitDefEqProofs only [go_sem]
 ·simp -dsimp -implicitDefEqProofs only [go_sem, z1, z2]
  simp [penA]
 ·intro s
  simp -dsimp -implicitDefEqProofs only [go_sem]
  omega
 ·as_aux_lemma =>
  rintro ⟨⟨pre, v⟩, h1, h2⟩
  simp only at h1 h2
  have hp : pre.length + (numN v).length ≤ 10 := by rw [← List.length_append, h1]; exact hlen
  simp -dsimp -implicitDefEqProofs only [go_sem, z1, z2]
  refine brT (fun h => ?_) (fun h => ?_)
  ·as_aux_lemma =>
   have hv128 : ¬ v < 128 := by omega
   have hf : (v : Int).fdiv (2 ^ min 7 64) = ((v / 128 : Nat) : Int) := fdivN v 128
   rw [numN_big hv128] at h1
   repeat' (first | (simp -dsimp -implicitDefEqProofs only [go_sem, z1, z2, or_byte, u8s_snoc, hf, List.append_assoc]) | omega | (with_reducible refine And.intro ?_ ?_) | rfl)
   refine ⟨⟨(pre ++ [UInt8.ofNat (v % 128 + 128)], v / 128), by rw [← h1]; simp, by omega⟩, by show v / 128 < v; omega, rfl, rfl, ?_⟩
   simp
  ·as_aux_lemma =>
   have hv128 : v < 128 := by omega
   rw [numN_small hv128] at h1 hp
   repeat' (first | (simp -dsimp -implicitDefEqProofs only [go_sem, z1, z2, small_byte hv128, u8s_snoc, List.append_assoc, h1]) | omega | (with_reducible refine And.intro ?_ ?_) | rfl)
   rw [← h1]; simp

theorem bytes_spec (nx m t : Nat) (bs : List UInt8) (hb : bs.length < 2 ^ 40) (hm : m < nx) (ht : t < 2 ∨ t - 2 < nx) :
  FnSpec Tryz.prog 80 nx [.ref m 0 []] [(m, some (.robj (penA bs t)))] (.sl 1 (u8s bs) (nx + 58)) [(nx + 56, some (.tail bs.length))] 57 := by
 have x1 := fun k => lt_nx hm k
 have x2 := fun k => nx_gt hm k
 refine FnSpec.of_code (cx := cx) (an := {}) (rs := [.tmp 2]) mo Tryz.func80 rfl rfl (by kernel_rfl) (by kernel_rfl) (by show 1 ≤ _; decide) (.inl rfl) (by simp [allWr, keys, Res.wr]) ?_
 simp -dsimp -implicitDefEqProofs only [go_sem, x1, x2]
 omega

theorem nums_spec (nx m q tok : Nat) (bs : List UInt8) (ns : List Int) (hb : bs.length + 10 * ns.length < 2 ^ 40) (hm : m < nx) (hq : q < nx) (hne : m ≠ q) (ht : tok < 2 ∨ tok - 2 < nx) :
  FnSpec Tryz.prog 123 nx [.ref m 0 [], .sl 1 (vals .i64 ns) tok] (penH m q bs) (.ref m 0 []) (penH m q (bs ++ ns.flatMap numI)) 0 := by
 have z1 : (m = q) = False := by simp [hne]
 have z2 : (q = m) = False := by simp [Ne.symm hne]
 have hlen : ∀ l : List Int, (l.flatMap numI).length ≤ 10 * l.length := by
  intro l
  induction l with
  | nil => simp
  | cons a l ih => simp only [List.flatMap_cons, List.length_append, List.length_cons]; have := numI_len a; omega
 refine FnSpec.of_code (cx := cx) (an := {}) (rs := [.tmp 4]) mo Tryz.func123 rfl rfl (by kernel_rfl) (by kernel_rfl) (by show 2 ≤ _; decide) (.inl rfl) (by simp [allWr, keys, Res.wr]) ?_
 simp -dsimp -implicitDefEqProofs only [go_sem, z1, z2]
 apply loop_keep [0, 7, 8] (fun i : { i : Nat // i ≤ ns.length } => [(9, .val (.int .i64 i.1))])
  (fun i => penH m q (bs ++ (ns.take i.1).flatMap numI)) (fun i => ns.length - i.1) ⟨0, Nat.zero_le _⟩
 ·simp -dsimp -implicitDefEqProofs only [go_sem]; rfl
 ·simp -dsimp -implicitDefEqProofs only [go_sem]
 ·simp -dsimp -implicitDefEqProofs only [go_sem, z1, z2]
  simp [penA]
 ·intro s
  simp -dsimp -implicitDefEqProofs only [go_sem]
  omega
 ·as_aux_lemma =>
  rintro ⟨i, hi⟩
  simp -dsimp -implicitDefEqProofs only [go_sem, z1, z2]
  refine brT (fun h => ?_) (fun h => ?_)
  ·as_aux_lemma =>
   have hi2 : i < ns.length := by omega
   have hw : IntKind.i64.wrap ((i : Int) + 1) = ((i + 1 : Nat) : Int) := wrapE (by omega) (by omega)
   have q1 := vals_get (k := .i64) hi2
   have hg : ns.getD i 0 = ns[i] := by rw [List.getD_eq_getElem?_getD, List.getElem?_eq_getElem hi2]; rfl
   have h1 := hlen (ns.take i)
   rw [List.length_take, Nat.min_eq_left hi] at h1
   have hcat : (ns.take (i + 1)).flatMap numI = (ns.take i).flatMap numI ++ numI ns[i] := by rw [← List.take_append_getElem hi2, List.flatMap_append]; simp
   simp -dsimp -implicitDefEqProofs only [go_sem, z1, z2, q1, hw]
   refine ⟨hi2, callK_by (num_spec _ m q (bs ++ (ns.take i).flatMap numI) _ (by rw [List.length_append]; omega) (by omega) (by omega) hne) ?_⟩
   simp -dsimp -implicitDefEqProofs only [go_sem, z1, z2, q1, hw]
   refine ⟨⟨i + 1, hi2⟩, by show ns.length - (i + 1) < ns.length - i; omega, rfl, ?_⟩
   simp only [hcat, hg]
   simp
  ·as_aux_lemma =>
   have e : i = ns.length := by omega
   subst e
   simp -dsimp -implicitDefEqProofs only [go_sem, z1, z2, List.take_length]
   omega
/-! ### sha.Join -/
def partA (p : List UInt8 × Nat) : AV := .sl 1 (u8s p.1) p.2
def len4 (n : Nat) : List UInt8 := [b8 ((n : Int).fdiv (2 ^ 24)), b8 ((n : Int).fdiv (2 ^ 16)), b8 ((n : Int).fdiv (2 ^ 8)), b8 (n : Int)]
def joinPart (p : List UInt8) : List UInt8 := len4 p.length ++ p
def joinL (tag : UInt8) (ps : List (List UInt8)) : List UInt8 := tag :: ps.flatMap joinPart
def partsOK (nx : Nat) (ps : List (List UInt8 × Nat)) : Prop := ∀ p ∈ ps, p.2 < 2 ∨ p.2 - 2 < nx
theorem nb_parts {nx m : Nat} {ps : List (List UInt8 × Nat)} (h : partsOK nx ps) (hm : nx ≤ m) : AV.nbs m (ps.map partA) = True := by
 simp only [eq_iff_iff, iff_true]
 refine AV.nbs_of fun a ha => ?_
 obtain ⟨p, hp, rfl⟩ := List.mem_map.1 ha
 have := h p hp
 simp only [partA, AV.nb, nb_u8s, true_and]
 omega
theorem parts_get {ps : List (List UInt8 × Nat)} {i : Nat} (h : i < ps.length) : (ps.map partA).getD i .undef = .sl 1 (u8s ps[i].1) ps[i].2 := by
 rw [List.getD_eq_getElem?_getD, List.getElem?_map, List.getElem?_eq_getElem h]; rfl
theorem u8s_app4 (l : List UInt8) (a b c d : UInt8) : u8s l ++ [u8 a, u8 b, u8 c, u8 d] = u8s (l ++ [a, b, c, d]) := by simp [u8s]
theorem u8s_one (a : UInt8) : [u8 a] = u8s [a] := rfl

theorem joinL_len (tag : UInt8) (ps : List (List UInt8)) : (joinL tag ps).length = 1 + (ps.flatMap joinPart).length := by simp [joinL]; omega
theorem joinL_snoc (tag : UInt8) (ps : List (List UInt8)) (p : List UInt8) : joinL tag ps ++ len4 p.length ++ p = joinL tag (ps ++ [p]) := by simp [joinL, joinPart]
theorem flat_take_le {α β : Type} (f : α → List β) (l : List α) (i : Nat) : ((l.take i).flatMap f).length ≤ (l.flatMap f).length := by
 conv => rhs; rw [← List.take_append_drop i l]
 rw [List.flatMap_append, List.length_append]; omega

theorem join_spec (nx tok : Nat) (tag : UInt8) (ps : List (List UInt8 × Nat)) (hps : partsOK nx ps) (hlen : (joinL tag (ps.map (·.1))).length < 2 ^ 40) (ht : tok < 2 ∨ tok - 2 < nx) :
  FnSpec Tryz.prog 62 nx [u8 tag, .sl 1 (ps.map partA) tok] [] (.vec 1 (u8s (shaOf (joinL tag (ps.map (·.1)))))) [] 0 := by
 refine FnSpec.of_code (cx := cx) (an := {tk := [(10, [([], 1)])]}) (rs := [.cell 4 26]) mo Tryz.func62 rfl rfl (by kernel_rfl) (by kernel_rfl) (by show 2 ≤ _; decide) (.inl rfl) (by simp [allWr, keys, Res.wr]) ?_
 simp -dsimp -implicitDefEqProofs only [go_sem, u8s_rep, List.length_map]
 apply loop_keep [4, 11, 12] (fun i : { i : Nat // i ≤ ps.length } => [(5, .sl 1 (u8s (joinL tag ((ps.take i.1).map (·.1)))) (nx + 19)), (13, .val (.int .i64 i.1))])
  (fun i => [(nx, some (.obj (.vec 1 (u8s (List.replicate 32 0))))), (nx + 17, some (.tail (joinL tag ((ps.take i.1).map (·.1))).length))]) (fun i => ps.length - i.1) ⟨0, Nat.zero_le _⟩
 ·simp -dsimp -implicitDefEqProofs only [go_sem]; rfl
 ·simp -dsimp -implicitDefEqProofs only [go_sem]
  rfl
 ·simp -dsimp -implicitDefEqProofs only [go_sem]
  rfl
 ·intro s
  simp -dsimp -implicitDefEqProofs only [go_sem, nb_parts hps (show nx ≤ nx + 56 by omega)]
  omega
 ·as_aux_lemma =>
  rintro ⟨i, hi⟩
  have hpl : ps.length < 2 ^ 40 := by
   have h1 : ∀ l : List (List UInt8), l.length ≤ (l.flatMap joinPart).length := by
    intro l
    induction l with
    | nil => simp
    | cons a l ih => simp only [List.flatMap_cons, List.length_append, List.length_cons, joinPart, len4]; omega
   have := h1 (ps.map (·.1))
   rw [List.length_map] at this
   rw [joinL_len] at hlen
   omega
  simp -dsimp -implicitDefEqProofs only [go_sem, List.length_map]
  refine brT (fun h => ?_) (fun h => ?_)
  ·as_aux_lemma =>
   have hi2 : i < ps.length := by omega
   have hw : IntKind.i64.wrap ((i : Int) + 1) = ((i + 1 : Nat) : Int) := wrapE (by omega) (by omega)
   have q1 := parts_get hi2
   have hcat : joinL tag ((ps.take (i + 1)).map (·.1)) = joinL tag ((ps.take i).map (·.1)) ++ len4 ps[i].1.length ++ ps[i].1 := by
    rw [← List.take_append_getElem hi2, List.map_append, List.map_cons, List.map_nil, joinL_snoc]
   have hle : (joinL tag ((ps.take (i + 1)).map (·.1))).length < 2 ^ 40 := by
    have := flat_take_le joinPart (ps.map (·.1)) (i + 1)
    rw [joinL_len, ← List.map_take] at *
    omega
   have hle2 := hle
   rw [hcat, List.length_append, List.length_append] at hle2
   have h4 : (len4 ps[i].1.length).length = 4 := rfl
   repeat' (first | (simp -dsimp -implicitDefEqProofs only [go_sem, q1, hw, List.length_map, u8_wrap, u8s_app4, u8s_append]) | omega | (with_reducible refine And.intro ?_ ?_) | rfl)
   refine ⟨⟨i + 1, hi2⟩, by show ps.length - (i + 1) < ps.length - i; omega, ⟨?_, rfl⟩, ?_⟩
   ·simp only [hcat]
    rfl
   ·simp only [hcat, List.length_append]
    congr 2
    simp only [h4]
    omega
  ·as_aux_lemma =>
   have e : i = ps.length := by omega
   subst e
   simp -dsimp -implicitDefEqProofs only [go_sem, List.take_length]
   refine callK_by (of_spec _ _ _ hlen (by omega)) ?_
   simp -dsimp -implicitDefEqProofs only [go_sem, shaOf_len, List.length_replicate]

theorem text_spec (nx m q tok : Nat) (bs d : List UInt8) (hb : bs.length + 10 + d.length < 2 ^ 40) (hm : m < nx) (hq : q < nx) (hne : m ≠ q) (ht : tok < 2 ∨ tok - 2 < nx) :
  FnSpec Tryz.prog 124 nx [.ref m 0 [], .sl 1 (u8s d) tok] (penH m q bs) (.ref m 0 []) (penH m q (bs ++ numI d.length ++ d)) 0 := by
 have z1 : (m = q) = False := by simp [hne]
 have z2 : (q = m) = False := by simp [Ne.symm hne]
 have hn := numI_len d.length
 refine FnSpec.of_code (cx := cx) (an := {}) (rs := [.tmp 4]) mo Tryz.func124 rfl rfl (by kernel_rfl) (by kernel_rfl) (by show 2 ≤ _; decide) (.inl rfl) (by simp [allWr, keys, Res.wr]) ?_
 simp -dsimp -implicitDefEqProofs only [go_sem, z1, z2]
 refine callK_by (num_spec _ m q bs d.length (by omega) (by omega) (by omega) hne) ?_
 repeat' (first | (simp -dsimp -implicitDefEqProofs only [go_sem, z1, z2, penA, u8s_append, List.append_assoc]) | omega | (with_reducible refine And.intro ?_ ?_) | rfl)

end Go.Proofs.YtaghcjbpjnpkbaaGreat

namespace Go.Proofs.YtaghcjbpjnpkbaaGreat
open Go Go.AL Go.Proofs.YtaghcjbpjnpkbaaGreat.T

structure ES where
 b : List UInt8
 e : Int
def eyeA (s : ES) : AV := .agg 2 [.sl 1 (u8s s.b) 0, n64 s.e]
theorem nb_eye {m : Nat} (s : ES) : (eyeA s).nb m = True := by simp [eyeA, AV.nb, AV.nbs, nb_u8s]
def failS (s : ES) (c : Int) : ES := if s.e = 0 then ⟨s.b, c⟩ else s

attribute [local go_sem] nb_vals nb_u8s vals_len u8s_length u8_cs u8_gd u8_ag u8_nb nb_eye
theorem fail_spec (nx m : Nat) (s : ES) (c : Int) (hm : m < nx) : FnSpec Tryz.prog 158 nx [.ref m 0 [], n64 c] [(m, some (.obj (eyeA s)))] (.tup []) [(m, some (.obj (eyeA (failS s c))))] 0 := by
 refine FnSpec.of_code (cx := cx) (an := {}) (rs := []) mo Tryz.func158 rfl rfl (by kernel_rfl) (by kernel_rfl) (by show 2 ≤ _; decide) (.inr ⟨_, rfl, by simp [AV.good]⟩) (by simp [allWr, keys, Res.wr]) ?_
 simp -dsimp -implicitDefEqProofs only [go_sem, eyeA]
 refine brT (fun h => ?_) (fun h => ?_)
 ·simp -dsimp -implicitDefEqProofs only [go_sem, eyeA, failS, h]
  exact hm
 ·simp -dsimp -implicitDefEqProofs only [go_sem, eyeA, failS, h]
  exact hm

theorem err_spec (nx m : Nat) (s : ES) : FnSpec Tryz.prog 159 nx [.ref m 0 []] [(m, some (.robj (eyeA s)))] (n64 s.e) [] 0 := by
 refine FnSpec.of_code (cx := cx) (an := {}) (rs := [.tmp 2]) mo Tryz.func159 rfl rfl (by kernel_rfl) (by kernel_rfl) (by show 1 ≤ _; decide) (.inl rfl) (by simp [allWr, keys, Res.wr]) ?_
 simp -dsimp -implicitDefEqProofs only [go_sem, eyeA]

theorem look_spec (nx : Nat) (b : List UInt8) : FnSpec Tryz.prog 134 nx [.sl 1 (u8s b) 0] [] (.ref (nx + 24) 0 []) [(nx + 24, some (.obj (eyeA ⟨b, 0⟩)))] 25 := by
 refine FnSpec.of_code (cx := cx) (an := {mt := [5]}) (rs := [.tmp 2]) mo Tryz.func134 rfl rfl (by kernel_rfl) (by kernel_rfl) (by show 1 ≤ _; decide) (.inl rfl) (by simp [allWr, keys, Res.wr]) ?_
 simp -dsimp -implicitDefEqProofs only [go_sem, eyeA]

inductive GR where
 | ok (v : Nat) (r : List UInt8)
 | err (c : Int)
def getN : Nat → Nat → Nat → List UInt8 → GR
 | 0, _, _, _ => .err 5
 | _ + 1, _, _, [] => .err 2
 | k + 1, i, v, c :: r => if c.toNat < 128 then (if c.toNat = 0 ∧ 0 < i then .err 4 else .ok (v + c.toNat % 128 * 128 ^ i) r) else getN k (i + 1) (v + c.toNat % 128 * 128 ^ i) r
def numS (s : ES) : Nat × ES :=
 if s.e = 0 then match getN 9 0 0 s.b with
  | .ok v r => (v, ⟨r, 0⟩)
  | .err c => (0, ⟨s.b, c⟩)
 else (0, s)

theorem land127 : ∀ x : Fin 256, (x.val &&& 127) = x.val % 128 := by decide
theorem and_byte (c : UInt8) : IntKind.u8.wrap ((BitVec.ofInt IntKind.u8.bits ((c.toNat : Nat) : Int) &&& BitVec.ofInt IntKind.u8.bits 127).toNat : Int) = ((c.toNat % 128 : Nat) : Int) := by
 have h0 := c.toNat_lt
 have h1 : (BitVec.ofInt IntKind.u8.bits ((c.toNat : Nat) : Int)).toNat = c.toNat := by
  show (BitVec.ofInt 8 _).toNat = _
  rw [BitVec.toNat_ofInt]
  omega
 have h2 : (BitVec.ofInt IntKind.u8.bits 127).toNat = 127 := rfl
 rw [BitVec.toNat_and, h1, h2]
 have := land127 ⟨c.toNat, by omega⟩
 simp only at this
 rw [this, IntKind.wrap_u8]
 omega
theorem or_step {v i : Nat} (c : UInt8) (hv : v < 128 ^ i) (hi : i ≤ 8) :
  IntKind.u64.wrap ((BitVec.ofInt IntKind.u64.bits ((v : Nat) : Int) ||| BitVec.ofInt IntKind.u64.bits (IntKind.u64.wrap (IntKind.u64.wrap ((c.toNat % 128 : Nat) : Int) * 2 ^ (7 * i)))).toNat : Int) = ((v + c.toNat % 128 * 128 ^ i : Nat) : Int) := by
 have hp : (128 : Nat) ^ i = 2 ^ (7 * i) := by rw [Nat.pow_mul]
 have h7 : 2 ^ (7 * i) ≤ 2 ^ 56 := Nat.pow_le_pow_right (by omega) (by omega)
 have hlt : c.toNat % 128 * 2 ^ (7 * i) ≤ 127 * 2 ^ 56 := Nat.mul_le_mul (by omega) h7
 rw [hp] at hv ⊢
 have e1 : ((c.toNat % 128 : Nat) : Int) * 2 ^ (7 * i) = ((c.toNat % 128 * 2 ^ (7 * i) : Nat) : Int) := by push_cast; rfl
 have h1 : (BitVec.ofInt IntKind.u64.bits ((v : Nat) : Int)).toNat = v := by
  show (BitVec.ofInt 64 _).toNat = _
  rw [BitVec.toNat_ofInt]
  omega
 have h2 : (BitVec.ofInt IntKind.u64.bits (IntKind.u64.wrap (((c.toNat % 128 * 2 ^ (7 * i) : Nat) : Int)))).toNat = c.toNat % 128 * 2 ^ (7 * i) := by
  show (BitVec.ofInt 64 _).toNat = _
  rw [BitVec.toNat_ofInt, IntKind.wrap_u64]
  omega
 have e0 : IntKind.u64.wrap ((c.toNat % 128 : Nat) : Int) = ((c.toNat % 128 : Nat) : Int) := by rw [IntKind.wrap_u64]; omega
 rw [e0, e1, BitVec.toNat_or, h1, h2]
 have h3 : v ||| c.toNat % 128 * 2 ^ (7 * i) = v + c.toNat % 128 * 2 ^ (7 * i) := by
  rw [Nat.or_comm, Nat.mul_comm, ← Nat.two_pow_add_eq_or_of_lt hv, Nat.add_comm]
 rw [h3, IntKind.wrap_u64]
 omega

theorem enum_spec (nx m : Nat) (s : ES) (hm : m < nx) (hb : s.b.length < 2 ^ 40) : FnSpec Tryz.prog 157 nx [.ref m 0 []] [(m, some (.obj (eyeA s)))] (n64 (numS s).1) [(m, some (.obj (eyeA (numS s).2)))] 0 := by
 obtain ⟨bs, e⟩ := s
 simp only at hb
 refine FnSpec.of_code (cx := cx) (an := {}) (rs := [.tmp 2]) mo Tryz.func157 rfl rfl (by kernel_rfl) (by kernel_rfl) (by show 1 ≤ _; decide) (.inl rfl) (by simp [allWr, keys, Res.wr]) ?_
 simp -dsimp -implicitDefEqProofs only [go_sem]
 refine callK_by (err_spec _ m ⟨bs, e⟩) ?_
 simp -dsimp -implicitDefEqProofs only [go_sem]
 refine brF (fun h => ?_) (fun h => ?_)
 ·as_aux_lemma =>
  have hn : numS ⟨bs, e⟩ = (0, ⟨bs, e⟩) := by simp [numS, h]
  rw [hn]
  simp -dsimp -implicitDefEqProofs only [go_sem]
  exact hm
 ·subst h
  have hN : ∀ c, getN 9 0 0 bs = .err c → numS ⟨bs, 0⟩ = (0, ⟨bs, c⟩) := fun c h => by simp [numS, h]
  have hO : ∀ v r, getN 9 0 0 bs = .ok v r → numS ⟨bs, 0⟩ = (v, ⟨r, 0⟩) := fun v r h => by simp [numS, h]
  have hF : ∀ c, failS ⟨bs, 0⟩ c = ⟨bs, c⟩ := fun c => rfl
  simp -dsimp -implicitDefEqProofs only [go_sem]
  apply loop_keep [0] (fun s : { s : Nat × Nat // s.1 ≤ 9 ∧ s.1 ≤ bs.length ∧ s.2 < 128 ^ s.1 ∧ getN (9 - s.1) s.1 s.2 (bs.drop s.1) = getN 9 0 0 bs } => [(3, .val (.int .u64 s.1.2)), (9, n64 s.1.1)])
   (fun s => [(m, some (.obj (eyeA ⟨bs, 0⟩)))]) (fun s => 9 - s.1.1) ⟨(0, 0), by simp⟩
  ·simp -dsimp -implicitDefEqProofs only [go_sem]; rfl
  ·simp -dsimp -implicitDefEqProofs only [go_sem]
  ·simp -dsimp -implicitDefEqProofs only [go_sem]
  ·intro s
   simp -dsimp -implicitDefEqProofs only [go_sem]
   omega
  ·as_aux_lemma =>
   rintro ⟨⟨i, v⟩, h1, h2, h3, h4⟩
   simp only at h1 h2 h3 h4
   simp -dsimp -implicitDefEqProofs only [go_sem]
   refine brT (fun h => ?_) (fun h => ?_)
   ·as_aux_lemma =>
    have hi : i < 9 := by omega
    have hw : IntKind.i64.wrap ((i : Int) + 1) = ((i + 1 : Nat) : Int) := wrapE (by omega) (by omega)
    have h7 : IntKind.i64.wrap (7 * (i : Int)) = ((7 * i : Nat) : Int) := wrapE (by omega) (by omega)
    have hm7 : min (7 * i) 64 = 7 * i := by omega
    have hnn : ((0 : Int) ≤ ((7 * i : Nat) : Int)) = True := by simp only [eq_iff_iff, iff_true]; omega
    obtain ⟨k, hk⟩ : ∃ k, 9 - i = k + 1 := ⟨8 - i, by omega⟩
    rw [hk] at h4
    simp -dsimp -implicitDefEqProofs only [go_sem, eyeA]
    refine brT (fun hl => ?_) (fun hl => ?_)
    ·as_aux_lemma =>
     have e0 : bs.drop i = [] := List.drop_eq_nil_of_le (by omega)
     rw [e0] at h4
     rw [hN 2 h4.symm]
     simp -dsimp -implicitDefEqProofs only [go_sem]
     refine callK_by (fail_spec _ m ⟨bs, 0⟩ 2 (by omega)) ?_
     simp -dsimp -implicitDefEqProofs only [go_sem, hF]
     exact ⟨rfl, rfl, hm⟩
    ·as_aux_lemma =>
     have hl2 : i < bs.length := by omega
     have e0 : bs.drop i = bs[i] :: bs.drop (i + 1) := List.drop_eq_getElem_cons hl2
     have hg : bs.getD i 0 = bs[i] := by rw [List.getD_eq_getElem?_getD, List.getElem?_eq_getElem hl2]; rfl
     rw [e0] at h4
     simp only [getN] at h4
     generalize bs[i] = c at *
     have hst := or_step c h3 (by omega)
     simp -dsimp -implicitDefEqProofs only [go_sem, eyeA, u8s_get hl2, hg, h7, hm7, hnn, and_byte, hst]
     have hc256 := c.toNat_lt
     have hv2 : v + c.toNat % 128 * 128 ^ i < 128 ^ (i + 1) := by
      rw [Nat.pow_succ]
      have : c.toNat % 128 * 128 ^ i ≤ 127 * 128 ^ i := Nat.mul_le_mul_right _ (by omega)
      omega
     refine ⟨hl2, brT (fun hc => ?_) (fun hc => ?_)⟩
     ·as_aux_lemma =>
      rw [if_pos (by omega)] at h4
      have h9 : (128 : Nat) ^ (i + 1) ≤ 128 ^ 9 := Nat.pow_le_pow_right (by omega) (by omega)
      have hcv : IntKind.i64.wrap ((v + c.toNat % 128 * 128 ^ i : Nat) : Int) = ((v + c.toNat % 128 * 128 ^ i : Nat) : Int) := wrapE rfl (by omega)
      have htk : bs.take bs.length = bs := List.take_length
      have fin : ¬ (c.toNat = 0 ∧ 0 < i) → getN 9 0 0 bs = .ok (v + c.toNat % 128 * 128 ^ i) (bs.drop (i + 1)) := fun hz => by rw [if_neg hz] at h4; exact h4.symm
      generalize v + c.toNat % 128 * 128 ^ i = V at *
      simp -dsimp -implicitDefEqProofs only [go_sem]
      refine brT (fun hz => ?_) (fun hz => ?_)
      ·as_aux_lemma =>
       simp -dsimp -implicitDefEqProofs only [go_sem]
       refine brT (fun hz2 => ?_) (fun hz2 => ?_)
       ·as_aux_lemma =>
        rw [if_pos ⟨by omega, by omega⟩] at h4
        rw [hN 4 h4.symm]
        simp -dsimp -implicitDefEqProofs only [go_sem]
        refine callK_by (fail_spec _ m ⟨bs, 0⟩ 4 (by omega)) ?_
        simp -dsimp -implicitDefEqProofs only [go_sem, hF]
        exact ⟨rfl, rfl, hm⟩
       ·as_aux_lemma =>
        rw [hO _ _ (fin (by omega))]
        simp -dsimp -implicitDefEqProofs only [go_sem, hw, hcv, u8s_take, u8s_drop, htk]
        exact ⟨⟨by omega, by omega⟩, hm⟩
      ·as_aux_lemma =>
       rw [hO _ _ (fin (by omega))]
       simp -dsimp -implicitDefEqProofs only [go_sem, hw, hcv, u8s_take, u8s_drop, htk]
       exact ⟨⟨by omega, by omega⟩, hm⟩
     ·as_aux_lemma =>
      rw [if_neg (by omega)] at h4
      simp -dsimp -implicitDefEqProofs only [go_sem, hw]
      refine ⟨⟨(i + 1, v + c.toNat % 128 * 128 ^ i), by omega, by omega, hv2, by simp only; rw [← h4]; congr 1; omega⟩, by show 9 - (i + 1) < 9 - i; omega, ⟨rfl, rfl⟩, rfl⟩
   ·as_aux_lemma =>
    have hi : i = 9 := by omega
    subst hi
    simp only [Nat.sub_self, getN] at h4
    rw [hN 5 h4.symm]
    simp -dsimp -implicitDefEqProofs only [go_sem]
    refine callK_by (fail_spec _ m ⟨bs, 0⟩ 5 (by omega)) ?_
    simp -dsimp -implicitDefEqProofs only [go_sem, hF]
    exact hm

theorem getN_len : ∀ (k i v : Nat) (bs : List UInt8) (w : Nat) (r : List UInt8), getN k i v bs = .ok w r → r.length < bs.length
 | 0, _, _, _, _, _, h => by simp [getN] at h
 | _ + 1, _, _, [], _, _, h => by simp [getN] at h
 | k + 1, i, v, c :: bs, w, r, h => by
  simp only [getN] at h
  split at h
  ·split at h
   ·cases h
   ·injection h with h1 h2; subst h2; simp
  ·have := getN_len k _ _ bs w r h
   simp; omega
theorem numS_len (s : ES) : (numS s).2.b.length ≤ s.b.length := by
 unfold numS
 split
 ·split
  ·rename_i h; have := getN_len _ _ _ _ _ _ h; simp only; omega
  ·simp
 ·simp

def uptoS (s : ES) (most : Int) : Int × ES :=
 let n : Int := (numS s).1
 let s2 := if most < n then failS (numS s).2 5 else (numS s).2
 if s2.e = 0 then (n, s2) else (0, s2)
theorem failS_b (s : ES) (c : Int) : (failS s c).b = s.b := by unfold failS; split <;> rfl
theorem uptoS_len (s : ES) (m : Int) : (uptoS s m).2.b.length ≤ s.b.length := by
 have := numS_len s
 simp only [uptoS]
 split <;> split <;> simp only [failS_b] <;> omega

theorem upto_spec (nx m : Nat) (s : ES) (most : Int) (hm : m < nx) (hb : s.b.length < 2 ^ 40) : FnSpec Tryz.prog 135 nx [.ref m 0 [], n64 most] [(m, some (.obj (eyeA s)))] (n64 (uptoS s most).1) [(m, some (.obj (eyeA (uptoS s most).2)))] 0 := by
 refine FnSpec.of_code (cx := cx) (an := {}) (rs := [.tmp 4]) mo Tryz.func135 rfl rfl (by kernel_rfl) (by kernel_rfl) (by show 2 ≤ _; decide) (.inl rfl) (by simp [allWr, keys, Res.wr]) ?_
 simp -dsimp -implicitDefEqProofs only [go_sem]
 refine callK_by (enum_spec _ m s (by omega) hb) ?_
 simp -dsimp -implicitDefEqProofs only [go_sem]
 refine brT (fun h => ?_) (fun h => ?_)
 ·simp -dsimp -implicitDefEqProofs only [go_sem]
  refine callK_by (fail_spec _ m (numS s).2 5 (by omega)) ?_
  simp -dsimp -implicitDefEqProofs only [go_sem]
  refine callK_by (err_spec _ m (failS (numS s).2 5)) ?_
  simp -dsimp -implicitDefEqProofs only [go_sem]
  refine brF (fun h2 => ?_) (fun h2 => ?_)
  ·have e : uptoS s most = (0, failS (numS s).2 5) := by simp only [uptoS, h, if_true, h2, if_false]
   rw [e]
   simp -dsimp -implicitDefEqProofs only [go_sem]
   exact hm
  ·have e : uptoS s most = (((numS s).1 : Int), failS (numS s).2 5) := by simp only [uptoS, h, if_true, h2]
   rw [e]
   simp -dsimp -implicitDefEqProofs only [go_sem]
   exact hm
 ·simp -dsimp -implicitDefEqProofs only [go_sem]
  refine callK_by (err_spec _ m (numS s).2) ?_
  simp -dsimp -implicitDefEqProofs only [go_sem]
  refine brF (fun h2 => ?_) (fun h2 => ?_)
  ·have e : uptoS s most = (0, (numS s).2) := by simp only [uptoS, h, h2, if_false]
   rw [e]
   simp -dsimp -implicitDefEqProofs only [go_sem]
   exact hm
  ·have e : uptoS s most = (((numS s).1 : Int), (numS s).2) := by simp only [uptoS, h, if_false, h2, if_true]
   rw [e]
   simp -dsimp -implicitDefEqProofs only [go_sem]
   exact hm

def rawS (s : ES) (n : Int) : List UInt8 × ES :=
 if s.e = 0 then (if n < 0 ∨ (s.b.length : Int) < n then ([], failS s 2) else (s.b.take n.toNat, ⟨s.b.drop n.toNat, s.e⟩)) else ([], s)
theorem raw_spec0 (nx m : Nat) (s : ES) (n : Int) (hm : m < nx) (hb : s.b.length < 2 ^ 40) (h0 : s.e = 0) (h1 : 0 ≤ n) (h2 : n ≤ s.b.length) :
  FnSpec Tryz.prog 160 nx [.ref m 0 [], n64 n] [(m, some (.obj (eyeA s)))] (.sl 1 (u8s (s.b.take n.toNat)) (nx + 170)) [(m, some (.obj (eyeA ⟨s.b.drop n.toNat, 0⟩))), (nx + 168, some (.tail (s.b.take n.toNat).length))] 169 := by
 obtain ⟨bs, e⟩ := s
 simp only at h0 hb h2
 subst h0
 have x1 := fun k => lt_nx hm k
 have x2 := fun k => nx_gt hm k
 have htk : bs.take bs.length = bs := List.take_length
 refine FnSpec.of_code (cx := cx) (an := {}) (rs := [.tmp 4]) mo Tryz.func160 rfl rfl (by kernel_rfl) (by kernel_rfl) (by show 2 ≤ _; decide) (.inl rfl) (by simp [allWr, keys, Res.wr]) ?_
 simp -dsimp -implicitDefEqProofs only [go_sem]
 refine callK_by (err_spec _ m ⟨bs, 0⟩) ?_
 simp -dsimp -implicitDefEqProofs only [go_sem]
 refine brF (fun h => ?_) (fun h => by exfalso; omega)
 simp -dsimp -implicitDefEqProofs only [go_sem, eyeA]
 refine brT (fun h => by exfalso; omega) (fun h => ?_)
 simp -dsimp -implicitDefEqProofs only [go_sem, eyeA, u8s_take, u8s_drop, htk, x1, x2]
 have hl : (bs.take n.toNat).length ≤ bs.length := by rw [List.length_take]; omega
 exact ⟨⟨by omega, by omega, by omega⟩, by omega, ⟨by omega, by omega, by omega⟩, by omega, by omega⟩

theorem raw_spec (nx m : Nat) (s : ES) (n : Int) (hm : m < nx) (hb : s.b.length < 2 ^ 40) :
  FnSpec Tryz.prog 160 nx [.ref m 0 [], n64 n] [(m, some (.obj (eyeA s)))] (.sl 1 (u8s (rawS s n).1) 0) [(m, some (.obj (eyeA (rawS s n).2)))] 0 := by
 by_cases h0 : s.e = 0
 ·by_cases h1 : n < 0 ∨ (s.b.length : Int) < n
  ·have e : rawS s n = ([], failS s 2) := by simp only [rawS, h0, h1, if_true]
   rw [e]
   have key : FnSpec Tryz.prog 160 nx [.ref m 0 [], n64 n] [(m, some (.obj (eyeA s)))] (.sl 0 [] 1) [(m, some (.obj (eyeA (failS s 2))))] 0 := by
    refine FnSpec.of_code (cx := cx) (an := {}) (rs := [.tmp 4]) mo Tryz.func160 rfl rfl (by kernel_rfl) (by kernel_rfl) (by show 2 ≤ _; decide) (.inl rfl) (by simp [allWr, keys, Res.wr]) ?_
    simp -dsimp -implicitDefEqProofs only [go_sem]
    refine callK_by (err_spec _ m s) ?_
    simp -dsimp -implicitDefEqProofs only [go_sem]
    refine brF (fun h => absurd h0 h) (fun h => ?_)
    simp -dsimp -implicitDefEqProofs only [go_sem, eyeA]
    refine brF (fun h2 => ?_) (fun h2 => ?_)
    ·simp -dsimp -implicitDefEqProofs only [go_sem, eyeA]
     refine brT (fun h3 => ?_) (fun h3 => by exfalso; omega)
     simp -dsimp -implicitDefEqProofs only [go_sem]
     refine callK_by (fail_spec _ m s 2 (by omega)) ?_
     simp -dsimp -implicitDefEqProofs only [go_sem]
     exact ⟨rfl, rfl, hm⟩
    ·simp -dsimp -implicitDefEqProofs only [go_sem, eyeA]
     refine callK_by (fail_spec _ m s 2 (by omega)) ?_
     simp -dsimp -implicitDefEqProofs only [go_sem]
     exact ⟨rfl, rfl, hm⟩
   exact key.forget ⟨rfl, .inr ⟨.inr rfl, .inl rfl⟩⟩ (by simp [AV.nb, AV.nbs, u8s]) (by simp [nbL, hm, Res.nb, nb_eye]) (fun n hn => by simp [keys] at hn ⊢; subst hn; simp [Heap.get]) (fun n hn h => absurd (by simpa [keys] using hn) (by simpa [keys] using h))
  ·have e : rawS s n = (s.b.take n.toNat, ⟨s.b.drop n.toNat, 0⟩) := by simp only [rawS, h0, h1, if_true, if_false]
   rw [e]
   have h2 : m < nx + 169 := by omega
   exact (raw_spec0 nx m s n hm hb h0 (by omega) (by omega)).forget ⟨rfl, .inr ⟨.inl rfl, .inl rfl⟩⟩ (by simp [AV.nb, nb_u8s]) (by simp [nbL, hm, Res.nb, nb_eye]) (fun k hk => by simp [keys] at hk ⊢; subst hk; simp [Heap.get]) (fun k hk h => by
    simp [keys] at hk h
    rcases hk with hk | hk
    ·exact absurd hk h
    ·subst hk; exact ⟨by simp [Heap.get]; omega, by omega⟩)
 ·have e : rawS s n = ([], s) := by simp only [rawS, h0, if_false]
  rw [e]
  have key : FnSpec Tryz.prog 160 nx [.ref m 0 [], n64 n] [(m, some (.obj (eyeA s)))] (.sl 0 [] 1) [(m, some (.obj (eyeA s)))] 0 := by
   refine FnSpec.of_code (cx := cx) (an := {}) (rs := [.tmp 4]) mo Tryz.func160 rfl rfl (by kernel_rfl) (by kernel_rfl) (by show 2 ≤ _; decide) (.inl rfl) (by simp [allWr, keys, Res.wr]) ?_
   simp -dsimp -implicitDefEqProofs only [go_sem]
   refine callK_by (err_spec _ m s) ?_
   simp -dsimp -implicitDefEqProofs only [go_sem]
   refine brF (fun h => ?_) (fun h => absurd h h0)
   simp -dsimp -implicitDefEqProofs only [go_sem]
   exact hm
  exact key.forget ⟨rfl, .inr ⟨.inr rfl, .inl rfl⟩⟩ (by simp [AV.nb, AV.nbs, u8s]) (by simp [nbL, hm, Res.nb, nb_eye]) (fun n hn => by simp [keys] at hn ⊢; subst hn; simp [Heap.get]) (fun n hn h => absurd (by simpa [keys] using hn) (by simpa [keys] using h))

theorem rawS_len (s : ES) (n : Int) : (rawS s n).2.b.length ≤ s.b.length := by
 simp only [rawS]
 split
 ·split
  ·rw [failS_b]; omega
  ·simp only [List.length_drop]; omega
 ·simp
def textS (s : ES) (most : Int) : List UInt8 × ES := rawS (uptoS s most).2 (uptoS s most).1
theorem textS_len (s : ES) (n : Int) : (textS s n).2.b.length ≤ s.b.length := Nat.le_trans (rawS_len _ _) (uptoS_len _ _)
theorem etext_spec (nx m : Nat) (s : ES) (most : Int) (hm : m < nx) (hb : s.b.length < 2 ^ 40) :
  FnSpec Tryz.prog 162 nx [.ref m 0 [], n64 most] [(m, some (.obj (eyeA s)))] (.sl 1 (u8s (textS s most).1) 0) [(m, some (.obj (eyeA (textS s most).2)))] 0 := by
 have h1 := uptoS_len s most
 refine FnSpec.of_code (cx := cx) (an := {}) (rs := [.tmp 4]) mo Tryz.func162 rfl rfl (by kernel_rfl) (by kernel_rfl) (by show 2 ≤ _; decide) (.inl rfl) (by simp [allWr, keys, Res.wr]) ?_
 simp -dsimp -implicitDefEqProofs only [go_sem]
 refine callK_by (upto_spec _ m s most (by omega) hb) ?_
 simp -dsimp -implicitDefEqProofs only [go_sem]
 refine callK_by (raw_spec _ m (uptoS s most).2 (uptoS s most).1 (by omega) (by omega)) ?_
 simp -dsimp -implicitDefEqProofs only [go_sem]
 exact ⟨rfl, rfl, hm⟩

def doneS (s : ES) : Int := if s.e = 0 ∧ 0 < s.b.length then 3 else s.e
theorem done_spec (nx m : Nat) (s : ES) (hm : m < nx) : FnSpec Tryz.prog 137 nx [.ref m 0 []] [(m, some (.obj (eyeA s)))] (n64 (doneS s)) [(m, some (.obj (eyeA (if s.e = 0 ∧ 0 < s.b.length then ⟨s.b, 3⟩ else s))))] 0 := by
 refine FnSpec.of_code (cx := cx) (an := {}) (rs := [.tmp 2]) mo Tryz.func137 rfl rfl (by kernel_rfl) (by kernel_rfl) (by show 1 ≤ _; decide) (.inl rfl) (by simp [allWr, keys, Res.wr]) ?_
 simp -dsimp -implicitDefEqProofs only [go_sem]
 refine callK_by (err_spec _ m s) ?_
 simp -dsimp -implicitDefEqProofs only [go_sem]
 refine brT (fun h => ?_) (fun h => ?_)
 ·simp -dsimp -implicitDefEqProofs only [go_sem, eyeA]
  refine brT (fun h2 => ?_) (fun h2 => ?_)
  ·have e : doneS s = 3 := by simp only [doneS]; rw [if_pos ⟨h, by omega⟩]
   have e2 : failS s 3 = ⟨s.b, 3⟩ := by simp [failS, h]
   rw [e, if_pos (⟨h, by omega⟩ : s.e = 0 ∧ 0 < s.b.length)]
   simp -dsimp -implicitDefEqProofs only [go_sem]
   refine callK_by (fail_spec _ m s 3 (by omega)) ?_
   rw [e2]
   simp -dsimp -implicitDefEqProofs only [go_sem]
   refine ⟨rfl, callK_by (err_spec _ m ⟨s.b, 3⟩) ?_⟩
   simp -dsimp -implicitDefEqProofs only [go_sem]
   exact ⟨rfl, hm⟩
  ·have e : doneS s = 0 := by simp only [doneS]; rw [if_neg (by omega), h]
   rw [e, if_neg (by omega : ¬ (s.e = 0 ∧ 0 < s.b.length))]
   simp -dsimp -implicitDefEqProofs only [go_sem]
   refine callK_by (err_spec _ m s) ?_
   simp -dsimp -implicitDefEqProofs only [go_sem, h]
   exact ⟨by simp [eyeA, h], hm⟩
 ·have e : doneS s = s.e := by simp only [doneS]; rw [if_neg (by omega)]
  rw [e, if_neg (by omega : ¬ (s.e = 0 ∧ 0 < s.b.length))]
  simp -dsimp -implicitDefEqProofs only [go_sem]
  refine callK_by (err_spec _ m s) ?_
  simp -dsimp -implicitDefEqProofs only [go_sem]
  exact hm

end Go.Proofs.YtaghcjbpjnpkbaaGreat

namespace Go.Proofs.YtaghcjbpjnpkbaaGreat
open Go Go.AL Go.Proofs.YtaghcjbpjnpkbaaGreat.T

abbrev bA (b : Bool) : AV := .val (.bool b)
structure Sum where
 b : List UInt8
 h : b.length = 32
theorem Sum.ext' {s t : Sum} (h : s.b = t.b) : s = t := by cases s; cases t; cases h; rfl
def sumA (s : Sum) : AV := .vec 1 (u8s s.b)
theorem nb_sum {m : Nat} (s : Sum) : (sumA s).nb m = True := by simp [sumA, AV.nb, nb_u8s]
def zeroS : Sum := ⟨List.replicate 32 0, by simp⟩
noncomputable def shaS (l : List UInt8) : Sum := ⟨shaOf l, shaOf_len l⟩
noncomputable def joinS (tag : UInt8) (ps : List (List UInt8)) : Sum := shaS (joinL tag ps)
theorem sum_h (s : Sum) : s.b.length = 32 := s.h
theorem sum_lenA (s : Sum) : (u8s s.b).length = 32 := by rw [u8s_length]; exact s.h
theorem take32 (s : Sum) : (u8s s.b).take 32 = u8s s.b := List.take_of_length_le (by rw [sum_lenA]; omega)
theorem sum_csz (s : Sum) : (sumA s).csize = 32 := by simp [sumA, AV.csize, sum_lenA]
theorem sum_agg (s : Sum) : (sumA s).isAgg = true := rfl
theorem zero_sum : AV.vec 1 (List.replicate 32 (AV.val (Value.int .u8 0))) = sumA zeroS := by simp [sumA, zeroS, u8s, u8]
theorem sumA_join (tag : UInt8) (ps : List (List UInt8)) : AV.vec 1 (u8s (shaOf (joinL tag ps))) = sumA (joinS tag ps) := rfl
theorem join1_spec (nx tok t1 : Nat) (tag : UInt8) (a : List UInt8) (ha : a.length < 2 ^ 39) (h1 : t1 < 2 ∨ t1 - 2 < nx) (ht : tok < 2 ∨ tok - 2 < nx) :
  FnSpec Tryz.prog 62 nx [u8 tag, .sl 1 [.sl 1 (u8s a) t1] tok] [] (sumA (joinS tag [a])) [] 0 := by
 have h := join_spec nx tok tag [(a, t1)] (fun p hp => by simp at hp; subst hp; exact h1) (by rw [joinL_len]; simp [joinPart, len4]; omega) ht
 simp only [List.map_cons, List.map_nil, partA, sumA_join] at h
 exact h
theorem join2_spec (nx tok t1 t2 : Nat) (tag : UInt8) (a b : List UInt8) (ha : a.length + b.length < 2 ^ 39) (h1 : t1 < 2 ∨ t1 - 2 < nx) (h2 : t2 < 2 ∨ t2 - 2 < nx) (ht : tok < 2 ∨ tok - 2 < nx) :
  FnSpec Tryz.prog 62 nx [u8 tag, .sl 1 [.sl 1 (u8s a) t1, .sl 1 (u8s b) t2] tok] [] (sumA (joinS tag [a, b])) [] 0 := by
 have h := join_spec nx tok tag [(a, t1), (b, t2)] (fun p hp => by simp at hp; rcases hp with rfl | rfl; exact h1; exact h2) (by rw [joinL_len]; simp [joinPart, len4]; omega) ht
 simp only [List.map_cons, List.map_nil, partA, sumA_join] at h
 exact h

theorem u8s_cons (a : UInt8) (l : List UInt8) : u8 a :: u8s l = u8s (a :: l) := rfl
theorem u8_gc (l : List UInt8) : (∀ (u : AV), u ∈ u8s l → u.good = true ∧ u.csize = 1) = True := by
 simp only [eq_iff_iff, iff_true]
 intro u hu
 obtain ⟨a, _, rfl⟩ := List.mem_map.1 hu
 exact ⟨rfl, rfl⟩
theorem u8_gd1 (a : UInt8) : (u8 a).good = true := rfl
theorem u8_cs1 (a : UInt8) : (u8 a).csize = 1 := rfl
theorem u8s_app (a b : List UInt8) : u8s a ++ u8s b = u8s (a ++ b) := by simp [u8s]

noncomputable def shownS (s : Sum) : Sum := joinS 12 [s.b]
noncomputable def leafS (s : Sum) : Sum := joinS 1 [s.b]
noncomputable def pairS (tag : UInt8) (a b : Sum) : Sum := joinS tag [a.b, b.b]
attribute [local go_sem] nb_u8s u8s_length nb_sum sumA List.length_replicate u8_wrap take32 List.drop_zero zero_sum sum_h u8s_cons u8s_one u8_gc u8_gd1 u8_cs1 List.length_append
theorem shown_spec (nx : Nat) (s : Sum) : FnSpec Tryz.prog 183 nx [sumA s] [] (sumA (shownS s)) [] 0 := by
 have hl := s.h
 refine FnSpec.of_code (cx := cx) (an := {}) (rs := [.cell 2 26]) mo Tryz.func183 rfl rfl (by kernel_rfl) (by kernel_rfl) (by show 1 ≤ _; decide) (.inl rfl) (by simp [allWr, keys, Res.wr]) ?_
 repeat' (first | omega | assumption | (show AL.ahead _ _ _ = true; rfl) | (first | apply brF | apply brT | apply brVF | apply brVT) <;> intro _ | (with_reducible refine And.intro ?_ ?_) | (refine callK_by (join1_spec _ 1 1 12 s.b (by omega) (by omega) (by omega)) ?_) | (simp -dsimp -implicitDefEqProofs only [go_sem, shownS]))
theorem leaf_spec (nx : Nat) (s : Sum) : FnSpec Tryz.prog 185 nx [sumA s] [] (sumA (leafS s)) [] 0 := by
 have hl := s.h
 refine FnSpec.of_code (cx := cx) (an := {}) (rs := [.cell 2 26]) mo Tryz.func185 rfl rfl (by kernel_rfl) (by kernel_rfl) (by show 1 ≤ _; decide) (.inl rfl) (by simp [allWr, keys, Res.wr]) ?_
 repeat' (first | omega | assumption | (show AL.ahead _ _ _ = true; rfl) | (first | apply brF | apply brT | apply brVF | apply brVT) <;> intro _ | (with_reducible refine And.intro ?_ ?_) | (refine callK_by (join1_spec _ 1 1 1 s.b (by omega) (by omega) (by omega)) ?_) | (simp -dsimp -implicitDefEqProofs only [go_sem, leafS]))
theorem pair_spec (nx : Nat) (tag : UInt8) (a b : Sum) : FnSpec Tryz.prog 186 nx [u8 tag, sumA a, sumA b] [] (sumA (pairS tag a b)) [] 0 := by
 have h1 := a.h
 have h2 := b.h
 refine FnSpec.of_code (cx := cx) (an := {}) (rs := [.cell 6 26]) mo Tryz.func186 rfl rfl (by kernel_rfl) (by kernel_rfl) (by show 3 ≤ _; decide) (.inl rfl) (by simp [allWr, keys, Res.wr]) ?_
 repeat' (first | omega | assumption | (show AL.ahead _ _ _ = true; rfl) | (first | apply brF | apply brT | apply brVF | apply brVT) <;> intro _ | (with_reducible refine And.intro ?_ ?_) | (refine callK_by (join2_spec _ 1 1 1 tag a.b b.b (by omega) (by omega) (by omega) (by omega)) ?_) | (simp -dsimp -implicitDefEqProofs only [go_sem, pairS]))
end Go.Proofs.YtaghcjbpjnpkbaaGreat

namespace Go.Proofs.YtaghcjbpjnpkbaaGreat
open Go Go.AL Go.Proofs.YtaghcjbpjnpkbaaGreat.T

structure Ref_ where
 tx : Sum
 at_ : Int
structure Chan where
 id : Int
 client : Int
 peer : Int
 fund : Ref_
 cap : Int
 wait : Int
 window : Int
def refA (r : Ref_) : AV := .agg 33 [sumA r.tx, n64 r.at_]
def chanA (c : Chan) : AV := .agg 39 [n64 c.id, n64 c.client, n64 c.peer, refA c.fund, n64 c.cap, n64 c.wait, n64 c.window]
theorem flat_numI (l : List Int) : (l.flatMap numI).length ≤ 10 * l.length := by
 induction l with
 | nil => simp
 | cons a l ih => simp only [List.flatMap_cons, List.length_append, List.length_cons]; have := numI_len a; omega
theorem u8s_nil : u8s [] = [] := rfl

attribute [local go_sem] nb_u8s u8s_length nb_sum sumA List.length_replicate u8_wrap take32 List.drop_zero zero_sum sum_h u8s_cons u8s_one u8_gc u8_gd1 u8_cs1 List.length_append u8s_app penA nb_vals vals_len u8s_nil
theorem psum_spec (nx m q : Nat) (bs : List UInt8) (s : Sum) (hb : bs.length < 2 ^ 40) (hm : m < nx) (hq : q < nx) (hne : m ≠ q) :
  FnSpec Tryz.prog 120 nx [.ref m 0 [], sumA s] (penH m q bs) (.ref m 0 []) (penH m q (bs ++ s.b)) 0 := by
 have z1 : (m = q) = False := by simp [hne]
 have z2 : (q = m) = False := by simp [Ne.symm hne]
 have hl := s.h
 refine FnSpec.of_code (cx := cx) (an := {}) (rs := [.tmp 4]) mo Tryz.func120 rfl rfl (by kernel_rfl) (by kernel_rfl) (by show 2 ≤ _; decide) (.inl rfl) (by simp [allWr, keys, Res.wr]) ?_
 repeat' (first | omega | assumption | (show AL.ahead _ _ _ = true; rfl) | (first | apply brF | apply brT | apply brVF | apply brVT) <;> intro _ | (with_reducible refine And.intro ?_ ?_) | (simp -dsimp -implicitDefEqProofs only [go_sem, z1, z2]))

theorem coinRight_spec (nx : Nat) (n : Int) : FnSpec Tryz.prog 63 nx [n64 n] [] (bA (decide (0 ≤ n ∧ n ≤ 1125899906842624))) [] 0 := by
 refine FnSpec.of_code (cx := cx) (an := {}) (rs := [.tmp 2]) mo Tryz.func63 rfl rfl (by kernel_rfl) (by kernel_rfl) (by show 1 ≤ _; decide) (.inl rfl) (by simp [allWr, keys, Res.wr]) ?_
 repeat' (first | omega | assumption | (show AL.ahead _ _ _ = true; rfl) | (first | apply brF | apply brT | apply brVF | apply brVT) <;> intro _ | (with_reducible refine And.intro ?_ ?_) | (simp -dsimp -implicitDefEqProofs only [go_sem]))
 all_goals (simp only [bA]; congr 2; simp; omega)

end Go.Proofs.YtaghcjbpjnpkbaaGreat

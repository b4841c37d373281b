/-
  wire.Pen.Sum; channels: their bytes, and whether they may be; keys and towers, made.
-/
import Derived.Test.YtdkcobnhcpgpaaaGreatZP5
import Derived.Test.YtdkcobnhcpgpaaaGreatAL24
set_option linter.unusedSimpArgs false
set_option linter.unusedVariables false
set_option maxRecDepth 100000
set_option maxHeartbeats 1000000
namespace Go.Proofs.YtdkcobnhcpgpaaaGreat
open Go Go.AL Go.Proofs.YtdkcobnhcpgpaaaGreat.T

structure Ref_ where
  tx : Sum
  at_ : Int
structure Chan where
  id : Int
  client : Int
  peer : Int
  fund : Ref_
  cap : Int
  wait : Int
  window : Int
def refA (r : Ref_) : AV := .agg 33 [sumA r.tx, n64 r.at_]
def chanA (c : Chan) : AV := .agg 39 [n64 c.id, n64 c.client, n64 c.peer, refA c.fund, n64 c.cap, n64 c.wait, n64 c.window]
/-- a channel's bytes -/
def chanL (c : Chan) : List UInt8 := [c.id, c.client, c.peer].flatMap numI ++ c.fund.tx.b ++ [c.fund.at_, c.cap, c.wait, c.window].flatMap numI
theorem flat_numI (l : List Int) : (l.flatMap numI).length ≤ 10 * l.length := by
  induction l with
  | nil => simp
  | cons a l ih => simp only [List.flatMap_cons, List.length_append, List.length_cons]; have := numI_len a; omega
theorem u8s_nil : u8s [] = [] := rfl

attribute [local go_sem] nb_u8s u8s_length nb_sum sumA List.length_replicate u8_wrap take32 List.drop_zero zero_sum sum_h u8s_cons u8s_one u8_gc u8_gd1 u8_cs1 List.length_append u8s_app penA nb_vals vals_len u8s_nil
theorem psum_spec (nx m q : Nat) (bs : List UInt8) (s : Sum) (hb : bs.length < 2 ^ 40) (hm : m < nx) (hq : q < nx) (hne : m ≠ q) :
    FnSpec Tryz.prog 117 nx [.ref m 0 [], sumA s] (penH m q bs) (.ref m 0 []) (penH m q (bs ++ s.b)) 0 := by
  have z1 : (m = q) = False := by simp [hne]
  have z2 : (q = m) = False := by simp [Ne.symm hne]
  have hl := s.h
  refine FnSpec.of_code (cx := cx) (an := {}) (rs := [.tmp 4]) mo Tryz.func117 rfl rfl (by kernel_rfl) (by kernel_rfl) (by show 2 ≤ _; decide) (.inl rfl) (by simp [allWr, keys, Res.wr]) ?_
  repeat' (first | omega | assumption | (show AL.ahead _ _ _ = true; rfl) | refine brF (fun _ => ?_) (fun _ => ?_) | refine brT (fun _ => ?_) (fun _ => ?_) | refine brVF (fun _ => ?_) (fun _ => ?_) | refine brVT (fun _ => ?_) (fun _ => ?_) | (with_reducible refine And.intro ?_ ?_) | (simp -dsimp -implicitDefEqProofs only [go_sem, ↓reduceIte, Nat.reduceEqDiff, Nat.reduceAdd, Nat.reduceMul, Nat.reduceLeDiff, Nat.reduceLT, Nat.reduceBEq, Nat.reducePow, Int.reduceToNat, Int.reduceLE, Int.reduceLT, Int.reduceNeg, reduceCtorEq, Int.reduceEq, Int.reduceAdd, Int.reduceSub, Int.reduceMul, Nat.reduceSub, z1, z2]))

theorem coinRight_spec (nx : Nat) (n : Int) : FnSpec Tryz.prog 82 nx [n64 n] [] (bA (decide (0 ≤ n ∧ n ≤ 1125899906842624))) [] 0 := by
  refine FnSpec.of_code (cx := cx) (an := {}) (rs := [.tmp 2]) mo Tryz.func82 rfl rfl (by kernel_rfl) (by kernel_rfl) (by show 1 ≤ _; decide) (.inl rfl) (by simp [allWr, keys, Res.wr]) ?_
  repeat' (first | omega | assumption | (show AL.ahead _ _ _ = true; rfl) | refine brF (fun _ => ?_) (fun _ => ?_) | refine brT (fun _ => ?_) (fun _ => ?_) | refine brVF (fun _ => ?_) (fun _ => ?_) | refine brVT (fun _ => ?_) (fun _ => ?_) | (with_reducible refine And.intro ?_ ?_) | (simp -dsimp -implicitDefEqProofs only [go_sem, ↓reduceIte, Nat.reduceEqDiff, Nat.reduceAdd, Nat.reduceMul, Nat.reduceLeDiff, Nat.reduceLT, Nat.reduceBEq, Nat.reducePow, Int.reduceToNat, Int.reduceLE, Int.reduceLT, Int.reduceNeg, reduceCtorEq, Int.reduceEq, Int.reduceAdd, Int.reduceSub, Int.reduceMul, Nat.reduceSub]))
  all_goals (simp only [bA]; congr 2; simp; omega)

theorem channel_spec (nx : Nat) (c : Chan) : FnSpec Tryz.prog 81 nx [chanA c] [] (.sl 1 (u8s (chanL c)) 0) [] 0 := by
  have hl := c.fund.tx.h
  have h1 := flat_numI [c.id, c.client, c.peer]
  have h2 := flat_numI [c.fund.at_, c.cap, c.wait, c.window]
  simp only [List.length_cons, List.length_nil] at h1 h2
  have key : FnSpec Tryz.prog 81 nx [chanA c] [] (.sl 1 (u8s (chanL c)) (nx + 282)) [(nx + 280, some (.tail (chanL c).length))] 600 := by
    unfold chanL
    refine FnSpec.of_code (cx := cx) (an := {tk := [(3, [([0], 1)])]}) (rs := [.tmp 2]) mo Tryz.func81 rfl rfl (by kernel_rfl) (by kernel_rfl) (by show 1 ≤ _; decide) (.inl rfl) (by simp [allWr, keys, Res.wr]) ?_
    repeat' (first | omega | assumption | (show AL.ahead _ _ _ = true; rfl) | refine brF (fun _ => ?_) (fun _ => ?_) | refine brT (fun _ => ?_) (fun _ => ?_) | refine brVF (fun _ => ?_) (fun _ => ?_) | refine brVT (fun _ => ?_) (fun _ => ?_) | (with_reducible refine And.intro ?_ ?_) | (refine callK_by (nums_spec _ (nx + 16) (nx + 17) 1 [] [c.id, c.client, c.peer] (by simp) (by omega) (by omega) (by omega) (by omega)) ?_) | (refine callK_by (psum_spec _ (nx + 16) (nx + 17) ([c.id, c.client, c.peer].flatMap numI) c.fund.tx (by omega) (by omega) (by omega) (by omega)) ?_) | (refine callK_by (nums_spec _ (nx + 16) (nx + 17) 1 ([c.id, c.client, c.peer].flatMap numI ++ c.fund.tx.b) [c.fund.at_, c.cap, c.wait, c.window] (by simp only [List.length_append, List.length_cons, List.length_nil]; omega) (by omega) (by omega) (by omega) (by omega)) ?_) | (refine callK_by (bytes_spec _ (nx + 16) (nx + 19) ([c.id, c.client, c.peer].flatMap numI ++ c.fund.tx.b ++ [c.fund.at_, c.cap, c.wait, c.window].flatMap numI) (by simp only [List.length_append]; omega) (by omega) (by omega)) ?_) | (simp -dsimp -implicitDefEqProofs only [go_sem, ↓reduceIte, Nat.reduceEqDiff, Nat.reduceAdd, Nat.reduceMul, Nat.reduceLeDiff, Nat.reduceLT, Nat.reduceBEq, Nat.reducePow, Int.reduceToNat, Int.reduceLE, Int.reduceLT, Int.reduceNeg, reduceCtorEq, Int.reduceEq, Int.reduceAdd, Int.reduceSub, Int.reduceMul, Nat.reduceSub, chanA, refA]))
  exact key.forget0 ⟨rfl, .inr ⟨.inl rfl, .inl rfl⟩⟩ (by simp [AV.nb, nb_u8s]) (by simp [keys])
end Go.Proofs.YtdkcobnhcpgpaaaGreat

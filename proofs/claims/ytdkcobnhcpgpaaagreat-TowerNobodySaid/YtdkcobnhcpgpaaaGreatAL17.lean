/-
  What is kept at a loop's head and where ways meet: told by the numbers of the temporaries.
-/
import Derived.Test.YtdkcobnhcpgpaaaGreatAL16
set_option linter.unusedSimpArgs false
set_option linter.unusedVariables false
namespace Go.AL
open Go
section
variable {cx : Cx} {an : An} {env : Env} {H : Heap} {nx : Nat} {Q : Post}

def keepE : List Nat → Env → Env
  | [], _ => []
  | t :: ts, env => (t, env.get t) :: keepE ts env
def keepH : List Nat → Heap → Heap
  | [], _ => []
  | n :: ns, H => (n, H.get n) :: keepH ns H

theorem keepE_sub : ∀ (ts : List Nat) (env : Env), subE (keepE ts env) env
  | [], _ => trivial
  | t :: ts, env => ⟨rfl, keepE_sub ts env⟩
theorem subE_app : ∀ {A B env : Env}, subE A env → subE B env → subE (A ++ B) env
  | [], _, _, _, h => h
  | (t, a) :: A, B, env, h, k => ⟨h.1, subE_app h.2 k⟩
theorem subL_app : ∀ {A B H : Heap}, subL A H → subL B H → subL (A ++ B) H
  | [], _, _, _, h => h
  | (n, some r) :: A, B, H, h, k => ⟨h.1, subL_app h.2 k⟩

/-- A loop: what it changes is told by a state; what it leaves, by number. -/
theorem loop_keep {b : Code} {σ : Type} (ts : List Nat) (E : σ → Env) (L : σ → Heap) (μ : σ → Nat) (s0 : σ) {K : Env}
    (hK : keepE ts env = K) (h1 : subE (E s0) env) (h2 : subL (L s0) H) (h3 : ∀ s, nbE nx (E s ++ K) ∧ nbL nx (L s))
    (h4 : ∀ s, codeWp cx an b (E s ++ K) (L s) nx (kLoop ⟨σ, fun s => E s ++ K, L, μ⟩ s Q)) : codeWp cx an (.loop b) env H nx Q :=
  ⟨⟨σ, fun s => E s ++ K, L, μ⟩, s0, subE_app h1 (hK ▸ keepE_sub ts env), h2, h3, h4⟩

/-- Where two ways meet. -/
def kJoin (E : Env) (L : Heap) (Q : Post) : Post
  | .normal, env, H, _ => subE E env ∧ subL L H
  | ex, env, H, nx => Q ex env H nx
theorem kj_normal {E : Env} {L : Heap} : kJoin E L Q .normal env H nx = (subE E env ∧ subL L H) := rfl
theorem kj_ret {E : Env} {L : Heap} : kJoin E L Q .ret env H nx = Q .ret env H nx := rfl
theorem kj_exit {E : Env} {L : Heap} {n : Nat} : kJoin E L Q (.exit n) env H nx = Q (.exit n) env H nx := rfl
theorem kJoin_mid {E : Env} {L : Heap} {ex : Ex} (h : kJoin E L Q ex env H nx) : kMid ⟨Unit, fun _ => E, fun _ => L⟩ Q ex env H nx := by
  cases ex with
  | normal => exact ⟨(), h⟩
  | ret => exact h
  | exit n => exact h

theorem run_mono : ∀ {ops : List Oper} {draw : Bool} {n0 : Nat} (l : List Oper) (i : Nat) (env : Env) (H : Heap) (nc : Nat) (past : Past) (pc : List Nat) {K K' : Env → Heap → Nat → Prop},
    (∀ e h n, K e h n → K' e h n) → regWp cx an ops draw n0 l i env H nc past pc K → regWp cx an ops draw n0 l i env H nc past pc K'
  | _, _, _, [], _, _, _, _, _, _, _, _, hk, h => hk _ _ _ h
  | ops, draw, n0, o :: l, i, env, H, nc, past, pc, K, K', hk, h => by
    have step : ∀ env, stepWp cx an ops draw n0 o i env H nc past pc (regWp cx an ops draw n0 l (i + 1)) K → stepWp cx an ops draw n0 o i env H nc past pc (regWp cx an ops draw n0 l (i + 1)) K' := by
      intro env h
      have pr : ∀ out, primWp ops draw i o.dst out env H nc past pc (regWp cx an ops draw n0 l (i + 1)) K → primWp ops draw i o.dst out env H nc past pc (regWp cx an ops draw n0 l (i + 1)) K' := by
        intro out h
        unfold primWp at h ⊢
        split at h
        · exact ⟨h.1, h.2.1, run_mono l _ _ _ _ _ _ hk h.2.2⟩
        · exact h.elim
      unfold stepWp at h ⊢
      split at h
      · unfold callWp at h ⊢
        split at h
        · obtain ⟨Hc, av, wr, k, h1, h2, h3, h4, h5, h6⟩ := h
          exact ⟨Hc, av, wr, k, h1, h2, h3, h4, h5, run_mono l _ _ _ _ _ _ hk h6⟩
        · exact h.elim
      · exact pr _ h
    unfold regWp at h ⊢
    split at h
    · exact step _ h
    · split at h
      · unfold gdWp at h ⊢
        split at h
        · exact ⟨fun e => step _ (h.1 e), fun e => run_mono l _ _ _ _ _ _ hk (h.2 e)⟩
        · exact run_mono l _ _ _ _ _ _ hk h
        · exact h.elim
      · exact h

theorem code_mono : ∀ (c : Code) (env : Env) (H : Heap) (nx : Nat) {Q Q' : Post}, (∀ ex e h n, Q ex e h n → Q' ex e h n) → codeWp cx an c env H nx Q → codeWp cx an c env H nx Q'
  | .skip, _, _, _, _, _, hq, h => hq _ _ _ _ h
  | .region id ops draw, env, H, nx, Q, Q', hq, h => by
    unfold codeWp at h ⊢
    by_cases hc : an.rj.contains id = true
    · rw [if_pos hc] at h ⊢
      obtain ⟨M, h1, h2, h3⟩ := h
      exact ⟨M, h1, h2, fun s => hq _ _ _ _ (h3 s)⟩
    · rw [if_neg hc] at h ⊢
      exact run_mono _ _ _ _ _ _ _ (fun _ _ _ h => hq _ _ _ _ h) h
  | .seq a b, env, H, nx, Q, Q', hq, h => by
    refine code_mono a env H nx ?_ h
    intro ex e h n k
    cases ex with
    | normal => exact code_mono b e h n hq k
    | ret => exact hq _ _ _ _ k
    | exit m => exact hq _ _ _ _ k
  | .cond c a b, env, H, nx, Q, Q', hq, h => by
    have main : ∀ {Q Q' : Post}, (∀ ex e h n, Q ex e h n → Q' ex e h n) → condWp (evA env c) (codeWp cx an a env H nx Q) (codeWp cx an b env H nx Q) () () → condWp (evA env c) (codeWp cx an a env H nx Q') (codeWp cx an b env H nx Q') () () := by
      intro Q Q' hq h
      unfold condWp at h ⊢
      split at h
      · exact ⟨fun e => code_mono a env H nx hq (h.1 e), fun e => code_mono b env H nx hq (h.2 e)⟩
      · exact h
    unfold codeWp at h ⊢
    by_cases hc : joins an c = true
    · rw [if_pos hc] at h ⊢
      obtain ⟨M, h1, h2, h3⟩ := h
      refine ⟨M, h1, main ?_ h2, fun s => hq _ _ _ _ (h3 s)⟩
      intro ex e h n k
      cases ex with
      | normal => exact k
      | ret => exact hq _ _ _ _ k
      | exit m => exact hq _ _ _ _ k
    · rw [if_neg hc] at h ⊢
      exact main hq h
  | .block id b, env, H, nx, Q, Q', hq, h => by
    have main : ∀ {Q Q' : Post}, (∀ ex e h n, Q ex e h n → Q' ex e h n) → codeWp cx an b env H nx (kBlock id Q) → codeWp cx an b env H nx (kBlock id Q') := by
      intro Q Q' hq h
      refine code_mono b env H nx ?_ h
      intro ex e h n k
      cases ex with
      | normal => exact hq _ _ _ _ k
      | ret => exact hq _ _ _ _ k
      | exit m =>
        show if m = id then Q' .normal e h n else Q' (.exit m) e h n
        have k' : if m = id then Q .normal e h n else Q (.exit m) e h n := k
        split
        · rename_i e; rw [if_pos e] at k'; exact hq _ _ _ _ k'
        · rename_i e; rw [if_neg e] at k'; exact hq _ _ _ _ k'
    unfold codeWp at h ⊢
    by_cases hc : an.cut.contains id = true
    · rw [if_pos hc] at h ⊢
      obtain ⟨M, h1, h2, h3⟩ := h
      refine ⟨M, h1, main ?_ h2, fun s => hq _ _ _ _ (h3 s)⟩
      intro ex e h n k
      cases ex with
      | normal => exact k
      | ret => exact hq _ _ _ _ k
      | exit m => exact hq _ _ _ _ k
    · rw [if_neg hc] at h ⊢
      exact main hq h
  | .loop b, env, H, nx, Q, Q', hq, h => by
    obtain ⟨I, s0, h1, h2, h3, h4⟩ := h
    refine ⟨I, s0, h1, h2, h3, fun s => code_mono b _ _ _ ?_ (h4 s)⟩
    intro ex e h n k
    cases ex with
    | normal => exact k
    | ret => exact hq _ _ _ _ k
    | exit m => exact hq _ _ _ _ k
  | .exit n, _, _, _, _, _, hq, h => hq _ _ _ _ h
  | .ret, _, _, _, _, _, hq, h => hq _ _ _ _ h
  | .label _, _, _, _, _, _, _, h => h.elim
  | .goto _, _, _, _, _, _, _, h => h.elim
  | .refuse _, _, _, _, _, _, _, h => h.elim
  | .scope _, _, _, _, _, _, _, h => h.elim
  | .rangeFunc .., _, _, _, _, _, _, h => h.elim

theorem cond_keep {v : AV} {a b : Code} {lk} (ts : List Nat) (E : Env) (L : Heap) {K : Env} (hK : keepE ts env = K) (h1 : nbE nx (E ++ K) ∧ nbL nx L)
    (h2 : condWp v (codeWp cx an a env H nx (kJoin (E ++ K) L Q)) (codeWp cx an b env H nx (kJoin (E ++ K) L Q)) () ()) (h3 : Q .normal (E ++ K) L nx) :
    midK (fun Q => condWp v (codeWp cx an a env H nx Q) (codeWp cx an b env H nx Q) () ()) nx Q lk := by
  refine ⟨⟨Unit, fun _ => E ++ K, fun _ => L⟩, fun _ => h1, ?_, fun _ => h3⟩
  unfold condWp at h2 ⊢
  split at h2
  · exact ⟨fun e => code_mono a _ _ _ (fun _ _ _ _ h => kJoin_mid h) (h2.1 e), fun e => code_mono b _ _ _ (fun _ _ _ _ h => kJoin_mid h) (h2.2 e)⟩
  · exact h2

theorem reg_keep {ops l : List Oper} {draw : Bool} {i nc : Nat} {past : Past} {pc : List Nat} {lk} (ts : List Nat) (E : Env) (L : Heap) {K : Env} (hK : keepE ts env = K) (h1 : nbE nx (E ++ K) ∧ nbL nx L)
    (h2 : regWp cx an ops draw nx l i env H nc past pc (kJoin (E ++ K) L Q .normal)) (h3 : Q .normal (E ++ K) L nx) :
    midK (fun Q => regWp cx an ops draw nx l i env H nc past pc (Q .normal)) nx Q lk :=
  ⟨⟨Unit, fun _ => E ++ K, fun _ => L⟩, fun _ => h1, run_mono _ _ _ _ _ _ _ (fun _ _ _ h => kJoin_mid (ex := .normal) h) h2, fun _ => h3⟩

theorem block_keep {id : Nat} {b : Code} {lk} (ts : List Nat) (E : Env) (L : Heap) {K : Env} (hK : keepE ts env = K) (h1 : nbE nx (E ++ K) ∧ nbL nx L)
    (h2 : codeWp cx an b env H nx (kBlock id (kJoin (E ++ K) L Q))) (h3 : Q .normal (E ++ K) L nx) :
    midK (fun Q => codeWp cx an b env H nx (kBlock id Q)) nx Q lk := by
  refine ⟨⟨Unit, fun _ => E ++ K, fun _ => L⟩, fun _ => h1, ?_, fun _ => h3⟩
  refine code_mono b _ _ _ ?_ h2
  intro ex e h n k
  cases ex with
  | normal =>
    have k' : kJoin (E ++ K) L Q .normal e h n := k
    exact kJoin_mid k'
  | ret => exact k
  | exit m =>
    show if m = id then kMid _ Q .normal e h n else kMid _ Q (.exit m) e h n
    have k' : if m = id then kJoin (E ++ K) L Q .normal e h n else kJoin (E ++ K) L Q (.exit m) e h n := k
    split
    · rename_i e; rw [if_pos e] at k'; exact kJoin_mid k'
    · rename_i e; rw [if_neg e] at k'; exact kJoin_mid k'
end
end Go.AL

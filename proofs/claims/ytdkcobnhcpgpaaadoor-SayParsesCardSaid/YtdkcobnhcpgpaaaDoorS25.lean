/-
  bartizanlaw40.SayParses: for every input it returns true, and the input reads behind the call as it read before. The card: the two listed tables of unicode/utf8 are tied to the program's text. No condition.
-/
import Derived.Test.YtdkcobnhcpgpaaaDoorS19
import Derived.Test.YtdkcobnhcpgpaaaDoorS23
import Derived.Test.YtdkcobnhcpgpaaaDoorTie
import Derived.Test.YtdkcobnhcpgpaaaDoorCards
import Derived.SevenTiedAt
set_option linter.unusedSimpArgs false
set_option linter.unusedVariables false
set_option maxRecDepth 100000
set_option maxHeartbeats 4000000
namespace Go.Proofs.YtdkcobnhcpgpaaaDoor
open Go Go.AL Go.Proofs.YtdkcobnhcpgpaaaDoor.T Go.ChangeShapes Go.WideShapes Go.ChangeAt Go.RowKit

theorem sp_spec (xs : List AV) (h : TyF (Ty Tryd.prog 8) Tryd.f4.params.toList xs) : FnSpec Tryd.prog 4 0 xs [] (.val (.bool true)) [] 0 := by
  have hp : Tryd.f4.params.toList = [9, 24] := rfl
  rw [hp] at h
  obtain ⟨a0, _, rfl, h0, h⟩ := h.cons_inv
  obtain ⟨a1, _, rfl, h1, h⟩ := h.cons_inv
  cases h.nil_inv
  obtain ⟨s, rfl⟩ := ty_txt h0
  obtain ⟨a, rfl, ha⟩ := ty_act h1
  exact parses_core 0 s _ a rfl

theorem sp_lifted (os : Os) (started : os.Started) (H : Type) (enc : TypeId × Value → H) :
    ReturnsInHanded {} Tryd.checked os 4 .any (fun w args => (Rows.sayParsesSpec.pre enc Tryd.prog Tryd.f4 [] false w args ∧ laidMetH Tryd.prog laid2 w) ∧ sizedMet enc Tryd.prog Tryd.f4 (OpenSpec.ofChange Rows.sayParsesSpec) false w args)
      (Rows.sayParsesSpec.post enc Tryd.prog Tryd.f4 false true false false) := by
  refine returnsInHanded_of_change_and (C := Tryd.checked) (X := fun w _ => laidMetH Tryd.prog laid2 w) (fun _ _ _ hh h => h.of_heap hh) Tryd.own started (by kernel_rfl) Tryd.func4
    (ChangeSpec.witness_shaped (enc := enc) (C := Tryd.checked) (os := os) (X := fun w _ => laidMetH Tryd.prog laid2 w) false (World.laidAll Tryd.prog os laid2) #[.string ByteArray.empty, .agg #[.int .i64 0, .int .i64 0, .int .i64 0, .slice none 0 0]] 8 (World.laidAll_os _ _ _) (World.shaped_of_ZipB (by kernel_rfl) (by kernel_rfl)) (by kernel_rfl) (by kernel_rfl) (by kernel_rfl) (wit_met os _)) ?_
  intro W base args ds gs before hval0 hW _ _ hL _
  exact post_of_spec (P := Tryd.prog) (n := 8) (tb := 4) Tryd.laidOut rfl (fun ds hl => by
    match ds, hl with
    | [d1, d2], _ => rfl) (by kernel_rfl) (by kernel_rfl) rfl Tryd.underlying4 sp_spec W base args ds gs before hval0 hW

theorem sp_row : Rows.SayParsesSaid :=
  OpenClaim.holds_of_wide 4 Tryd.f4 rfl rfl rfl rfl rfl rfl rfl ⟨rfl, rfl, rfl, rfl, rfl⟩ rfl rfl rfl rfl rfl (by kernel_rfl) Tryd.func4 (by kernel_rfl)
    (of_decide_eq_true (by kernel_rfl)) (by unfold Func.isWrapper; first | (rw [if_pos (by decide +kernel)]; kernel_rfl) | (rw [if_neg (by decide +kernel)]; exact ⟨rfl, rfl⟩))
    (fun os started H enc _ => sp_lifted os started H enc)

theorem sp_card : Rows.SayParsesCardSaid :=
  Claim7.holds_tied_plain_at .later [] [.data, .pinned] true (true, "5dca5b63c4bd07bafffe3dc204f53edec06440719a5f35fa602904247cc64e1a") false
    sp_row (fun _ h => by cases h) (by kernel_rfl) (fun _ h => by cases h) sayParses_row_tie rfl ⟨rfl, rfl⟩ (by kernel_rfl) rfl
    (fun f fn hf hfn => by
      obtain rfl : f = 4 := Option.some.inj ((show Tryd.prog.funcNamed "bartizan/bartizanlaw40.SayParses" = some 4 by kernel_rfl).symm.trans hf) |>.symm
      obtain rfl : fn = Tryd.f4 := (Option.some.inj (Tryd.func4.symm.trans hfn)).symm
      exact ⟨by kernel_rfl, fun j t ht => by
        have hp : Tryd.f4.params.toList = [9, 24] := rfl
        have hm : t ∈ [9, 24] := by rw [← hp]; exact Array.mem_toList_iff.2 (Array.mem_of_getElem? ht)
        have hall : ([9, 24].all fun u => !Tryd.prog.wantsStandIn u) = true := by kernel_rfl
        exact (show Tryd.prog.wantsStandIn t = false by simpa using List.all_eq_true.1 hall t hm)⟩)
    (by kernel_rfl)
#print axioms sp_card
end Go.Proofs.YtdkcobnhcpgpaaaDoor

/-
  The rules by which simp reckons, told to the set of rules that the kit's walks use.
-/
import Derived.Test.YtaghcjbpjnpkbaaGreatAL24
import Derived.Attr
namespace Go.AL
open Go
theorem keyOK_int {P : Program} {T : TypeId} {k : IntKind} {n : Int} : keyOK P T (.val (.int k n)) = (tint P T = some k) := rfl
attribute [go_sem] B0 B1 B2 B3 B4 B5 B6
attribute [go_sem ↓] ordOK_f ordOK_e ordCalls_f brB_tt brB_ff brB_tf brB_ft
attribute [go_sem] condWp opSem opSem0 nilSem orSem tkOp Out.tokV retok1 constAV binSem unSem intOp strOp loadSem storeSem fieldAddrSem indexAddrSem fieldSem indexSem lenSem buildSem buildSliceSem appendSem srcA convSem sliceSem bndA slTok makeSliceSem copySem copySel copyShort copyPart Res.obj? cmpOK cmpParts tplace ne_eq forall_eq forall_eq_or_imp resOne resA implies_true forall_const eq_self Nat.le_add_right Out.fg fgA fgE sw_lookup sw_mapUpdate sw_insert lookSem updSem pairA keyOK_int Res.mp? Res.nb.eq_4 Res.nb.eq_5 Res.nb.eq_6 Res.nb.eq_7 Res.wr.eq_3 Res.wr.eq_4 SubH.eq_5 sw_range sw_entry rangeSem entrySem delSem nk_eq nk_clone cw_label cw_scope
attribute [go_sem] Nat.reduceEqDiff Nat.reduceAdd Nat.reduceMul Nat.reduceLeDiff Nat.reduceLT Nat.reduceBEq Nat.reducePow Int.reduceToNat Int.reduceLE Int.reduceLT Int.reduceNeg reduceCtorEq Int.reduceEq Int.reduceAdd Int.reduceSub Int.reduceMul Nat.reduceSub
attribute [go_sem ↓] reduceIte
end Go.AL

/-
  No cell of these rows narrows 'for every input' (looked for: loops, veiled, ifaces, maps, wideKeys, modest, calm, conditions, laid).
  DERIVED. THE GIVEN ROWS OF THIS SEAT. 4 by the template 'for every input the law returns true; each argument reads behind the call as it read before'; 0 by the template 'total and deterministic' (their statements: YtfdlcefiidanlaaTotals.lean).
  GIVEN WITH THE SEED: the statements are not yours to turn. If you find one false, say at which input.
  Laid BY PROGRAM, IN A SANDBOX (cutbox-rows.mjs): the forced cells as the released guide's own fill.sh prints them over the translation c202cc59a51303f9… (all of the seat's roots in one cut). By AI agents, Wed Nov 11 2026. No macro, syntax, notation, axiom, sorry.
-/
import Derived.Test.YtfdlcefiidanlaaChecked
import GoSem.Claim
import GoSem.ClaimJoined
import GoSem.ClaimMapViews
import Derived.JoinedTies
import Derived.KernelRfl
namespace Go.Proofs.Ytfdlcefiidanlaa
/- THE CELL 'sum', in the pinned program and in every row, IS THE sha256 OF THE DUMP (.gsa) THAT YtfdlcefiidanlaaProg.lean LOADS. Nothing in Lean hashes anything: it is a label: what it is worth is what the hold of that sum in a sandbox is worth. -/
noncomputable def Try.pinned : Pinned := { name := "ytfdlcefiidanlaa", sum := "c202cc59a51303f906e02417c6eade41fada4210a7f743e80d90e311637cf5b6", checked := Try.checked }
namespace Rows
def none {H : Type} : Left H := { results := [], args := [] }

/-- 'bartizanlaw41.TraceLists': WHATEVER THE INPUT: true; the input reads as it did. -/
def traceListsSpec : ChangeSpec := { name := "traceLists", fn := fun _ => fun
  | [d1, d2] => { results := [.lit (.bool true)], args := [d1, d2] }
  | _ => none }
def traceListsRow : OpenClaim := { program := "ytfdlcefiidanlaa", sum := "c202cc59a51303f906e02417c6eade41fada4210a7f743e80d90e311637cf5b6", func := "bartizan/bartizanlaw41.TraceLists", spec := "traceLists", unfollowed := true, recurses := true, apart := false }
def TraceListsSaid : Prop := traceListsRow.holds Try.pinned (OpenSpec.ofChange traceListsSpec)

/-- ITS FALSE NEIGHBOUR: 'it returns false'. Refute it at one input. -/
def traceListsWrong : ChangeSpec := { name := "traceLists", fn := fun _ => fun
  | [d1, d2] => { results := [.lit (.bool false)], args := [d1, d2] }
  | _ => none }
def TraceListsWrongFalsely : Prop := traceListsRow.holds Try.pinned (OpenSpec.ofChange traceListsWrong)

/-- 'bartizanlaw41.TraceBytes': WHATEVER THE INPUT: true; the input reads as it did. -/
def traceBytesSpec : ChangeSpec := { name := "traceBytes", fn := fun _ => fun
  | [d] => { results := [.lit (.bool true)], args := [d] }
  | _ => none }
def traceBytesRow : OpenClaim := { program := "ytfdlcefiidanlaa", sum := "c202cc59a51303f906e02417c6eade41fada4210a7f743e80d90e311637cf5b6", func := "bartizan/bartizanlaw41.TraceBytes", spec := "traceBytes", apart := false }
def TraceBytesSaid : Prop := traceBytesRow.holds Try.pinned (OpenSpec.ofChange traceBytesSpec)

/-- ITS FALSE NEIGHBOUR: 'it returns false'. Refute it at one input. -/
def traceBytesWrong : ChangeSpec := { name := "traceBytes", fn := fun _ => fun
  | [d] => { results := [.lit (.bool false)], args := [d] }
  | _ => none }
def TraceBytesWrongFalsely : Prop := traceBytesRow.holds Try.pinned (OpenSpec.ofChange traceBytesWrong)

/-- 'bartizanlaw44.SnapPuts': WHATEVER THE INPUT: true; the input reads as it did. -/
def snapPutsSpec : ChangeSpec := { name := "snapPuts", fn := fun _ => fun
  | [d1, d2] => { results := [.lit (.bool true)], args := [d1, d2] }
  | _ => none }
def snapPutsRow : OpenClaim := { program := "ytfdlcefiidanlaa", sum := "c202cc59a51303f906e02417c6eade41fada4210a7f743e80d90e311637cf5b6", func := "bartizan/bartizanlaw44.SnapPuts", spec := "snapPuts", apart := false }
def SnapPutsSaid : Prop := snapPutsRow.holds Try.pinned (OpenSpec.ofChange snapPutsSpec)

/-- ITS FALSE NEIGHBOUR: 'it returns false'. Refute it at one input. -/
def snapPutsWrong : ChangeSpec := { name := "snapPuts", fn := fun _ => fun
  | [d1, d2] => { results := [.lit (.bool false)], args := [d1, d2] }
  | _ => none }
def SnapPutsWrongFalsely : Prop := snapPutsRow.holds Try.pinned (OpenSpec.ofChange snapPutsWrong)

/-- 'bartizanlaw44.SnapGets': WHATEVER THE INPUT: true; the input reads as it did. -/
def snapGetsSpec : ChangeSpec := { name := "snapGets", fn := fun _ => fun
  | [d] => { results := [.lit (.bool true)], args := [d] }
  | _ => none }
def snapGetsRow : OpenClaim := { program := "ytfdlcefiidanlaa", sum := "c202cc59a51303f906e02417c6eade41fada4210a7f743e80d90e311637cf5b6", func := "bartizan/bartizanlaw44.SnapGets", spec := "snapGets", apart := false }
def SnapGetsSaid : Prop := snapGetsRow.holds Try.pinned (OpenSpec.ofChange snapGetsSpec)

/-- ITS FALSE NEIGHBOUR: 'it returns false'. Refute it at one input. -/
def snapGetsWrong : ChangeSpec := { name := "snapGets", fn := fun _ => fun
  | [d] => { results := [.lit (.bool false)], args := [d] }
  | _ => none }
def SnapGetsWrongFalsely : Prop := snapGetsRow.holds Try.pinned (OpenSpec.ofChange snapGetsWrong)

/- THE SECOND FORM. 'bulk': how many values and letters a reading holds, each counted each time it is reached (what is shared counts as often as it is met; a slice's spare places count too). A statement '..UptoSaid' is the law's where the arguments, and the package variables that the reading takes, are together of bulk at most 1048576: NARROWER than '..Said'. Prove '..Said' where nothing that the law and all that it calls make is longer than what came in: it says more and counts as full. Else prove '..UptoSaid'. A law counts once. -/
mutual
def uptoBulk {H : Type} : DataW H → Nat
  | .lit (.string bytes) => bytes.length + 1
  | .lit _ => 1
  | .nil => 1
  | .ptr d => uptoBulk d + 1
  | .slice elems spare => uptoBulkAll elems + uptoBulkAll spare + 1
  | .agg parts => uptoBulkAll parts + 1
  | .iface _ d => uptoBulk d + 1
  | .map entries => uptoBulkEntries entries + 1
  | .held _ => 1
def uptoBulkAll {H : Type} : List (DataW H) → Nat
  | [] => 0
  | d :: r => uptoBulk d + uptoBulkAll r
def uptoBulkEntries {H : Type} : List (Lit × DataW H) → Nat
  | [] => 0
  | x :: r => uptoBulkEntry x + uptoBulkEntries r
def uptoBulkEntry {H : Type} : Lit × DataW H → Nat
  | (.string bytes, d) => bytes.length + uptoBulk d + 1
  | (_, d) => uptoBulk d + 1
 end
def uptoSmall : (H : Type) → List (DataW H) → Bool := fun _ ds => decide (uptoBulkAll ds ≤ 1048576)
def OpenSpec.upto (s : _root_.Go.ChangeSpec) : _root_.Go.OpenSpec := { _root_.Go.OpenSpec.ofChange s with cond := some uptoSmall }

/-- 'bartizanlaw41.TraceLists', WHERE WHAT IT READS IS OF BULK AT MOST 1048576: true; the input reads as it did. -/
def traceListsUptoRow : OpenClaim := { program := "ytfdlcefiidanlaa", sum := "c202cc59a51303f906e02417c6eade41fada4210a7f743e80d90e311637cf5b6", func := "bartizan/bartizanlaw41.TraceLists", spec := "traceLists", unfollowed := true, recurses := true, apart := false, narrowed := true }
def TraceListsUptoSaid : Prop := traceListsUptoRow.holds Try.pinned (OpenSpec.upto traceListsSpec)

/-- 'bartizanlaw41.TraceBytes', WHERE WHAT IT READS IS OF BULK AT MOST 1048576: true; the input reads as it did. -/
def traceBytesUptoRow : OpenClaim := { program := "ytfdlcefiidanlaa", sum := "c202cc59a51303f906e02417c6eade41fada4210a7f743e80d90e311637cf5b6", func := "bartizan/bartizanlaw41.TraceBytes", spec := "traceBytes", apart := false, narrowed := true }
def TraceBytesUptoSaid : Prop := traceBytesUptoRow.holds Try.pinned (OpenSpec.upto traceBytesSpec)

/-- 'bartizanlaw44.SnapPuts', WHERE WHAT IT READS IS OF BULK AT MOST 1048576: true; the input reads as it did. -/
def snapPutsUptoRow : OpenClaim := { program := "ytfdlcefiidanlaa", sum := "c202cc59a51303f906e02417c6eade41fada4210a7f743e80d90e311637cf5b6", func := "bartizan/bartizanlaw44.SnapPuts", spec := "snapPuts", apart := false, narrowed := true }
def SnapPutsUptoSaid : Prop := snapPutsUptoRow.holds Try.pinned (OpenSpec.upto snapPutsSpec)

/-- 'bartizanlaw44.SnapGets', WHERE WHAT IT READS IS OF BULK AT MOST 1048576: true; the input reads as it did. -/
def snapGetsUptoRow : OpenClaim := { program := "ytfdlcefiidanlaa", sum := "c202cc59a51303f906e02417c6eade41fada4210a7f743e80d90e311637cf5b6", func := "bartizan/bartizanlaw44.SnapGets", spec := "snapGets", apart := false, narrowed := true }
def SnapGetsUptoSaid : Prop := snapGetsUptoRow.holds Try.pinned (OpenSpec.upto snapGetsSpec)

end Rows
end Go.Proofs.Ytfdlcefiidanlaa

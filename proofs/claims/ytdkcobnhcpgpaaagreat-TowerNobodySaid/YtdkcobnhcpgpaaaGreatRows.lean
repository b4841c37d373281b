/-
  No cell of these rows narrows 'for every input' (looked for: loops, veiled, ifaces, maps, wideKeys, modest, calm, conditions, laid).
  DERIVED. THE GIVEN ROWS OF THIS SEAT. 5 by the template 'for every input the law returns true; each argument reads behind the call as it read before'; 0 by the template 'total and deterministic' (their statements: YtdkcobnhcpgpaaaGreatTotals.lean).
  GIVEN WITH THE SEED: the statements are not yours to turn. If you find one false, say at which input.
  Laid BY PROGRAM, IN A SANDBOX (cutbox-rows.mjs): the forced cells as the released guide's own fill.sh prints them over the translation 8a612d00640f52b7… (all of the seat's roots in one cut). By AI agents, Wed Nov 11 2026. No macro, syntax, notation, axiom, sorry.
-/
import Derived.Test.YtdkcobnhcpgpaaaGreatChecked
import GoSem.Claim
import GoSem.ClaimJoined
import GoSem.ClaimMapViews
import Derived.JoinedTies
import Derived.KernelRfl
namespace Go.Proofs.YtdkcobnhcpgpaaaGreat
/- THE CELL 'sum', in the pinned program and in every row, IS THE sha256 OF THE DUMP (.gsa) THAT YtdkcobnhcpgpaaaGreatProg.lean LOADS. Nothing in Lean hashes anything: it is a label: what it is worth is what the hold of that sum in a sandbox is worth. -/
noncomputable def Tryz.pinned : Pinned := { name := "ytdkcobnhcpgpaaagreat", sum := "8a612d00640f52b78c082c25de6ee8448400a40178cd9bbf06c485dbf750bf66", checked := Tryz.checked }
namespace Rows
def none {H : Type} : Left H := { results := [], args := [] }

/-- 'bartizanlaw33.ClaimOps': WHATEVER THE INPUT: true; the input reads as it did. -/
def claimOpsSpec : ChangeSpec := { name := "claimOps", fn := fun _ => fun
  | [d1, d2, d3, d4, d5] => { results := [.lit (.bool true)], args := [d1, d2, d3, d4, d5] }
  | _ => none }
def claimOpsRow : OpenClaim := { program := "ytdkcobnhcpgpaaagreat", sum := "8a612d00640f52b78c082c25de6ee8448400a40178cd9bbf06c485dbf750bf66", func := "bartizan/bartizanlaw33.ClaimOps", spec := "claimOps", unfollowed := true, recurses := true, plainKeys := false, apart := false }
def ClaimOpsSaid : Prop := claimOpsRow.holds Tryz.pinned (OpenSpec.ofChange claimOpsSpec)

/-- ITS FALSE NEIGHBOUR: 'it returns false'. Refute it at one input. -/
def claimOpsWrong : ChangeSpec := { name := "claimOps", fn := fun _ => fun
  | [d1, d2, d3, d4, d5] => { results := [.lit (.bool false)], args := [d1, d2, d3, d4, d5] }
  | _ => none }
def ClaimOpsWrongFalsely : Prop := claimOpsRow.holds Tryz.pinned (OpenSpec.ofChange claimOpsWrong)

/-- 'bartizanlaw31.TowerNobody': WHATEVER THE INPUT: true; the input reads as it did. -/
def towerNobodySpec : ChangeSpec := { name := "towerNobody", fn := fun _ => fun
  | [d1, d2] => { results := [.lit (.bool true)], args := [d1, d2] }
  | _ => none }
def towerNobodyRow : OpenClaim := { program := "ytdkcobnhcpgpaaagreat", sum := "8a612d00640f52b78c082c25de6ee8448400a40178cd9bbf06c485dbf750bf66", func := "bartizan/bartizanlaw31.TowerNobody", spec := "towerNobody", unfollowed := true, recurses := true, plainKeys := false, apart := false }
def TowerNobodySaid : Prop := towerNobodyRow.holds Tryz.pinned (OpenSpec.ofChange towerNobodySpec)

/-- ITS FALSE NEIGHBOUR: 'it returns false'. Refute it at one input. -/
def towerNobodyWrong : ChangeSpec := { name := "towerNobody", fn := fun _ => fun
  | [d1, d2] => { results := [.lit (.bool false)], args := [d1, d2] }
  | _ => none }
def TowerNobodyWrongFalsely : Prop := towerNobodyRow.holds Tryz.pinned (OpenSpec.ofChange towerNobodyWrong)

/-- 'bartizanlaw33.ClaimOwed': WHATEVER THE INPUT: true; the input reads as it did. -/
def claimOwedSpec : ChangeSpec := { name := "claimOwed", fn := fun _ => fun
  | [d] => { results := [.lit (.bool true)], args := [d] }
  | _ => none }
def claimOwedRow : OpenClaim := { program := "ytdkcobnhcpgpaaagreat", sum := "8a612d00640f52b78c082c25de6ee8448400a40178cd9bbf06c485dbf750bf66", func := "bartizan/bartizanlaw33.ClaimOwed", spec := "claimOwed", unfollowed := true, recurses := true, plainKeys := false, apart := false }
def ClaimOwedSaid : Prop := claimOwedRow.holds Tryz.pinned (OpenSpec.ofChange claimOwedSpec)

/-- ITS FALSE NEIGHBOUR: 'it returns false'. Refute it at one input. -/
def claimOwedWrong : ChangeSpec := { name := "claimOwed", fn := fun _ => fun
  | [d] => { results := [.lit (.bool false)], args := [d] }
  | _ => none }
def ClaimOwedWrongFalsely : Prop := claimOwedRow.holds Tryz.pinned (OpenSpec.ofChange claimOwedWrong)

/-- 'bartizanlaw21.PoolFull': WHATEVER THE INPUT: true; the input reads as it did. -/
def poolFullSpec : ChangeSpec := { name := "poolFull", fn := fun _ => fun
  | [d] => { results := [.lit (.bool true)], args := [d] }
  | _ => none }
def poolFullRow : OpenClaim := { program := "ytdkcobnhcpgpaaagreat", sum := "8a612d00640f52b78c082c25de6ee8448400a40178cd9bbf06c485dbf750bf66", func := "bartizan/bartizanlaw21.PoolFull", spec := "poolFull", inPlace := ["maps.clone"], unfollowed := true, recurses := true, plainKeys := false, apart := false }
def PoolFullSaid : Prop := poolFullRow.holds Tryz.pinned (OpenSpec.ofChange poolFullSpec)

/-- ITS FALSE NEIGHBOUR: 'it returns false'. Refute it at one input. -/
def poolFullWrong : ChangeSpec := { name := "poolFull", fn := fun _ => fun
  | [d] => { results := [.lit (.bool false)], args := [d] }
  | _ => none }
def PoolFullWrongFalsely : Prop := poolFullRow.holds Tryz.pinned (OpenSpec.ofChange poolFullWrong)

/-- 'bartizanlaw32.ScanLooks': WHATEVER THE INPUT: true; the input reads as it did. -/
def scanLooksSpec : ChangeSpec := { name := "scanLooks", fn := fun _ => fun
  | [d1, d2, d3] => { results := [.lit (.bool true)], args := [d1, d2, d3] }
  | _ => none }
def scanLooksRow : OpenClaim := { program := "ytdkcobnhcpgpaaagreat", sum := "8a612d00640f52b78c082c25de6ee8448400a40178cd9bbf06c485dbf750bf66", func := "bartizan/bartizanlaw32.ScanLooks", spec := "scanLooks", inPlace := ["maps.clone"], unfollowed := true, recurses := true, plainKeys := false, apart := false }
def ScanLooksSaid : Prop := scanLooksRow.holds Tryz.pinned (OpenSpec.ofChange scanLooksSpec)

/-- ITS FALSE NEIGHBOUR: 'it returns false'. Refute it at one input. -/
def scanLooksWrong : ChangeSpec := { name := "scanLooks", fn := fun _ => fun
  | [d1, d2, d3] => { results := [.lit (.bool false)], args := [d1, d2, d3] }
  | _ => none }
def ScanLooksWrongFalsely : Prop := scanLooksRow.holds Tryz.pinned (OpenSpec.ofChange scanLooksWrong)

/- THE SECOND FORM. 'bulk': how many values and letters a reading holds, each counted each time it is reached (what is shared counts as often as it is met; a slice's spare places count too). A statement '..UptoSaid' is the law's where the arguments, and the package variables that the reading takes, are together of bulk at most 1048576: NARROWER than '..Said'. Prove '..Said' where nothing that the law and all that it calls make is longer than what came in: it says more and counts as full. Else prove '..UptoSaid'. A law counts once. -/
mutual
def uptoBulk {H : Type} : DataW H → Nat
  | .lit (.string bytes) => bytes.length + 1
  | .lit _ => 1
  | .nil => 1
  | .ptr d => uptoBulk d + 1
  | .slice elems spare => uptoBulkAll elems + uptoBulkAll spare + 1
  | .agg parts => uptoBulkAll parts + 1
  | .iface _ d => uptoBulk d + 1
  | .map entries => uptoBulkEntries entries + 1
  | .held _ => 1
def uptoBulkAll {H : Type} : List (DataW H) → Nat
  | [] => 0
  | d :: r => uptoBulk d + uptoBulkAll r
def uptoBulkEntries {H : Type} : List (Lit × DataW H) → Nat
  | [] => 0
  | x :: r => uptoBulkEntry x + uptoBulkEntries r
def uptoBulkEntry {H : Type} : Lit × DataW H → Nat
  | (.string bytes, d) => bytes.length + uptoBulk d + 1
  | (_, d) => uptoBulk d + 1
 end
def uptoSmall : (H : Type) → List (DataW H) → Bool := fun _ ds => decide (uptoBulkAll ds ≤ 1048576)
def OpenSpec.upto (s : _root_.Go.ChangeSpec) : _root_.Go.OpenSpec := { _root_.Go.OpenSpec.ofChange s with cond := some uptoSmall }

/-- 'bartizanlaw33.ClaimOps', WHERE WHAT IT READS IS OF BULK AT MOST 1048576: true; the input reads as it did. -/
def claimOpsUptoRow : OpenClaim := { program := "ytdkcobnhcpgpaaagreat", sum := "8a612d00640f52b78c082c25de6ee8448400a40178cd9bbf06c485dbf750bf66", func := "bartizan/bartizanlaw33.ClaimOps", spec := "claimOps", unfollowed := true, recurses := true, plainKeys := false, apart := false, narrowed := true }
def ClaimOpsUptoSaid : Prop := claimOpsUptoRow.holds Tryz.pinned (OpenSpec.upto claimOpsSpec)

/-- 'bartizanlaw31.TowerNobody', WHERE WHAT IT READS IS OF BULK AT MOST 1048576: true; the input reads as it did. -/
def towerNobodyUptoRow : OpenClaim := { program := "ytdkcobnhcpgpaaagreat", sum := "8a612d00640f52b78c082c25de6ee8448400a40178cd9bbf06c485dbf750bf66", func := "bartizan/bartizanlaw31.TowerNobody", spec := "towerNobody", unfollowed := true, recurses := true, plainKeys := false, apart := false, narrowed := true }
def TowerNobodyUptoSaid : Prop := towerNobodyUptoRow.holds Tryz.pinned (OpenSpec.upto towerNobodySpec)

/-- 'bartizanlaw33.ClaimOwed', WHERE WHAT IT READS IS OF BULK AT MOST 1048576: true; the input reads as it did. -/
def claimOwedUptoRow : OpenClaim := { program := "ytdkcobnhcpgpaaagreat", sum := "8a612d00640f52b78c082c25de6ee8448400a40178cd9bbf06c485dbf750bf66", func := "bartizan/bartizanlaw33.ClaimOwed", spec := "claimOwed", unfollowed := true, recurses := true, plainKeys := false, apart := false, narrowed := true }
def ClaimOwedUptoSaid : Prop := claimOwedUptoRow.holds Tryz.pinned (OpenSpec.upto claimOwedSpec)

/-- 'bartizanlaw21.PoolFull', WHERE WHAT IT READS IS OF BULK AT MOST 1048576: true; the input reads as it did. -/
def poolFullUptoRow : OpenClaim := { program := "ytdkcobnhcpgpaaagreat", sum := "8a612d00640f52b78c082c25de6ee8448400a40178cd9bbf06c485dbf750bf66", func := "bartizan/bartizanlaw21.PoolFull", spec := "poolFull", inPlace := ["maps.clone"], unfollowed := true, recurses := true, plainKeys := false, apart := false, narrowed := true }
def PoolFullUptoSaid : Prop := poolFullUptoRow.holds Tryz.pinned (OpenSpec.upto poolFullSpec)

/-- 'bartizanlaw32.ScanLooks', WHERE WHAT IT READS IS OF BULK AT MOST 1048576: true; the input reads as it did. -/
def scanLooksUptoRow : OpenClaim := { program := "ytdkcobnhcpgpaaagreat", sum := "8a612d00640f52b78c082c25de6ee8448400a40178cd9bbf06c485dbf750bf66", func := "bartizan/bartizanlaw32.ScanLooks", spec := "scanLooks", inPlace := ["maps.clone"], unfollowed := true, recurses := true, plainKeys := false, apart := false, narrowed := true }
def ScanLooksUptoSaid : Prop := scanLooksUptoRow.holds Tryz.pinned (OpenSpec.upto scanLooksSpec)

end Rows
end Go.Proofs.YtdkcobnhcpgpaaaGreat

/-
  No cell of these rows narrows 'for every input' (looked for: loops, veiled, ifaces, maps, wideKeys, modest, calm, conditions, laid).
  DERIVED. THE GIVEN ROWS OF THIS SEAT. 5 by the template 'for every input the law returns true; each argument reads behind the call as it read before'; 0 by the template 'total and deterministic' (their statements: YthfoeaokfhbdaaaGreatTotals.lean).
  GIVEN WITH THE SEED: the statements are not yours to turn. If you find one false, say at which input.
  Laid BY PROGRAM, IN A SANDBOX (cutbox-rows.mjs): the forced cells as the released guide's own fill.sh prints them over the translation 80f63df3a4d8bdbf… (all of the seat's roots in one cut). By AI agents, Wed Nov 11 2026. No macro, syntax, notation, axiom, sorry.
-/
import Derived.Test.YthfoeaokfhbdaaaGreatChecked
import GoSem.Claim
import GoSem.ClaimJoined
import GoSem.ClaimMapViews
import Derived.JoinedTies
import Derived.KernelRfl
namespace Go.Proofs.YthfoeaokfhbdaaaGreat
/- THE CELL 'sum', in the pinned program and in every row, IS THE sha256 OF THE DUMP (.gsa) THAT YthfoeaokfhbdaaaGreatProg.lean LOADS. Nothing in Lean hashes anything: it is a label: what it is worth is what the hold of that sum in a sandbox is worth. -/
noncomputable def Tryz.pinned : Pinned := { name := "ythfoeaokfhbdaaagreat", sum := "80f63df3a4d8bdbfaca5e371c5b812c7bc177f9b1845c71ac91171712e11e36a", checked := Tryz.checked }
namespace Rows
def none {H : Type} : Left H := { results := [], args := [] }

/-- 'bartizanlaw18.LedgerNobody': WHATEVER THE INPUT: true; the input reads as it did. -/
def ledgerNobodySpec : ChangeSpec := { name := "ledgerNobody", fn := fun _ => fun
  | [d] => { results := [.lit (.bool true)], args := [d] }
  | _ => none }
def ledgerNobodyRow : OpenClaim := { program := "ythfoeaokfhbdaaagreat", sum := "80f63df3a4d8bdbfaca5e371c5b812c7bc177f9b1845c71ac91171712e11e36a", func := "bartizan/bartizanlaw18.LedgerNobody", spec := "ledgerNobody", inPlace := ["maps.clone", "internal/bytealg.Compare"], unfollowed := true, recurses := true, plainKeys := false, apart := false }
def LedgerNobodySaid : Prop := ledgerNobodyRow.holds Tryz.pinned (OpenSpec.ofChange ledgerNobodySpec)

/-- ITS FALSE NEIGHBOUR: 'it returns false'. Refute it at one input. -/
def ledgerNobodyWrong : ChangeSpec := { name := "ledgerNobody", fn := fun _ => fun
  | [d] => { results := [.lit (.bool false)], args := [d] }
  | _ => none }
def LedgerNobodyWrongFalsely : Prop := ledgerNobodyRow.holds Tryz.pinned (OpenSpec.ofChange ledgerNobodyWrong)

/-- 'bartizanlaw18.LedgerChannels': WHATEVER THE INPUT: true; the input reads as it did. -/
def ledgerChannelsSpec : ChangeSpec := { name := "ledgerChannels", fn := fun _ => fun
  | [d1, d2] => { results := [.lit (.bool true)], args := [d1, d2] }
  | _ => none }
def ledgerChannelsRow : OpenClaim := { program := "ythfoeaokfhbdaaagreat", sum := "80f63df3a4d8bdbfaca5e371c5b812c7bc177f9b1845c71ac91171712e11e36a", func := "bartizan/bartizanlaw18.LedgerChannels", spec := "ledgerChannels", inPlace := ["maps.clone", "internal/bytealg.Compare"], unfollowed := true, recurses := true, plainKeys := false, apart := false }
def LedgerChannelsSaid : Prop := ledgerChannelsRow.holds Tryz.pinned (OpenSpec.ofChange ledgerChannelsSpec)

/-- ITS FALSE NEIGHBOUR: 'it returns false'. Refute it at one input. -/
def ledgerChannelsWrong : ChangeSpec := { name := "ledgerChannels", fn := fun _ => fun
  | [d1, d2] => { results := [.lit (.bool false)], args := [d1, d2] }
  | _ => none }
def LedgerChannelsWrongFalsely : Prop := ledgerChannelsRow.holds Tryz.pinned (OpenSpec.ofChange ledgerChannelsWrong)

/-- 'bartizanlaw20.ChainNobody': WHATEVER THE INPUT: true; the input reads as it did. -/
def chainNobodySpec : ChangeSpec := { name := "chainNobody", fn := fun _ => fun
  | [d1, d2] => { results := [.lit (.bool true)], args := [d1, d2] }
  | _ => none }
def chainNobodyRow : OpenClaim := { program := "ythfoeaokfhbdaaagreat", sum := "80f63df3a4d8bdbfaca5e371c5b812c7bc177f9b1845c71ac91171712e11e36a", func := "bartizan/bartizanlaw20.ChainNobody", spec := "chainNobody", inPlace := ["maps.clone"], unfollowed := true, recurses := true, plainKeys := false, apart := false }
def ChainNobodySaid : Prop := chainNobodyRow.holds Tryz.pinned (OpenSpec.ofChange chainNobodySpec)

/-- ITS FALSE NEIGHBOUR: 'it returns false'. Refute it at one input. -/
def chainNobodyWrong : ChangeSpec := { name := "chainNobody", fn := fun _ => fun
  | [d1, d2] => { results := [.lit (.bool false)], args := [d1, d2] }
  | _ => none }
def ChainNobodyWrongFalsely : Prop := chainNobodyRow.holds Tryz.pinned (OpenSpec.ofChange chainNobodyWrong)

/-- 'bartizanlaw32.ScanLooks': WHATEVER THE INPUT: true; the input reads as it did. -/
def scanLooksSpec : ChangeSpec := { name := "scanLooks", fn := fun _ => fun
  | [d1, d2, d3] => { results := [.lit (.bool true)], args := [d1, d2, d3] }
  | _ => none }
def scanLooksRow : OpenClaim := { program := "ythfoeaokfhbdaaagreat", sum := "80f63df3a4d8bdbfaca5e371c5b812c7bc177f9b1845c71ac91171712e11e36a", func := "bartizan/bartizanlaw32.ScanLooks", spec := "scanLooks", inPlace := ["maps.clone"], unfollowed := true, recurses := true, plainKeys := false, apart := false }
def ScanLooksSaid : Prop := scanLooksRow.holds Tryz.pinned (OpenSpec.ofChange scanLooksSpec)

/-- ITS FALSE NEIGHBOUR: 'it returns false'. Refute it at one input. -/
def scanLooksWrong : ChangeSpec := { name := "scanLooks", fn := fun _ => fun
  | [d1, d2, d3] => { results := [.lit (.bool false)], args := [d1, d2, d3] }
  | _ => none }
def ScanLooksWrongFalsely : Prop := scanLooksRow.holds Tryz.pinned (OpenSpec.ofChange scanLooksWrong)

/-- 'bartizanlaw21.PoolLate': WHATEVER THE INPUT: true; the input reads as it did. -/
def poolLateSpec : ChangeSpec := { name := "poolLate", fn := fun _ => fun
  | [d1, d2, d3, d4] => { results := [.lit (.bool true)], args := [d1, d2, d3, d4] }
  | _ => none }
def poolLateRow : OpenClaim := { program := "ythfoeaokfhbdaaagreat", sum := "80f63df3a4d8bdbfaca5e371c5b812c7bc177f9b1845c71ac91171712e11e36a", func := "bartizan/bartizanlaw21.PoolLate", spec := "poolLate", inPlace := ["maps.clone"], unfollowed := true, recurses := true, plainKeys := false, apart := false }
def PoolLateSaid : Prop := poolLateRow.holds Tryz.pinned (OpenSpec.ofChange poolLateSpec)

/-- ITS FALSE NEIGHBOUR: 'it returns false'. Refute it at one input. -/
def poolLateWrong : ChangeSpec := { name := "poolLate", fn := fun _ => fun
  | [d1, d2, d3, d4] => { results := [.lit (.bool false)], args := [d1, d2, d3, d4] }
  | _ => none }
def PoolLateWrongFalsely : Prop := poolLateRow.holds Tryz.pinned (OpenSpec.ofChange poolLateWrong)

/- THE SECOND FORM. 'bulk': how many values and letters a reading holds, each counted each time it is reached (what is shared counts as often as it is met; a slice's spare places count too). A statement '..UptoSaid' is the law's where the arguments, and the package variables that the reading takes, are together of bulk at most 1048576: NARROWER than '..Said'. Prove '..Said' where nothing that the law and all that it calls make is longer than what came in: it says more and counts as full. Else prove '..UptoSaid'. A law counts once. -/
mutual
def uptoBulk {H : Type} : DataW H → Nat
  | .lit (.string bytes) => bytes.length + 1
  | .lit _ => 1
  | .nil => 1
  | .ptr d => uptoBulk d + 1
  | .slice elems spare => uptoBulkAll elems + uptoBulkAll spare + 1
  | .agg parts => uptoBulkAll parts + 1
  | .iface _ d => uptoBulk d + 1
  | .map entries => uptoBulkEntries entries + 1
  | .held _ => 1
def uptoBulkAll {H : Type} : List (DataW H) → Nat
  | [] => 0
  | d :: r => uptoBulk d + uptoBulkAll r
def uptoBulkEntries {H : Type} : List (Lit × DataW H) → Nat
  | [] => 0
  | x :: r => uptoBulkEntry x + uptoBulkEntries r
def uptoBulkEntry {H : Type} : Lit × DataW H → Nat
  | (.string bytes, d) => bytes.length + uptoBulk d + 1
  | (_, d) => uptoBulk d + 1
 end
def uptoSmall : (H : Type) → List (DataW H) → Bool := fun _ ds => decide (uptoBulkAll ds ≤ 1048576)
def OpenSpec.upto (s : _root_.Go.ChangeSpec) : _root_.Go.OpenSpec := { _root_.Go.OpenSpec.ofChange s with cond := some uptoSmall }

/-- 'bartizanlaw18.LedgerNobody', WHERE WHAT IT READS IS OF BULK AT MOST 1048576: true; the input reads as it did. -/
def ledgerNobodyUptoRow : OpenClaim := { program := "ythfoeaokfhbdaaagreat", sum := "80f63df3a4d8bdbfaca5e371c5b812c7bc177f9b1845c71ac91171712e11e36a", func := "bartizan/bartizanlaw18.LedgerNobody", spec := "ledgerNobody", inPlace := ["maps.clone", "internal/bytealg.Compare"], unfollowed := true, recurses := true, plainKeys := false, apart := false, narrowed := true }
def LedgerNobodyUptoSaid : Prop := ledgerNobodyUptoRow.holds Tryz.pinned (OpenSpec.upto ledgerNobodySpec)

/-- 'bartizanlaw18.LedgerChannels', WHERE WHAT IT READS IS OF BULK AT MOST 1048576: true; the input reads as it did. -/
def ledgerChannelsUptoRow : OpenClaim := { program := "ythfoeaokfhbdaaagreat", sum := "80f63df3a4d8bdbfaca5e371c5b812c7bc177f9b1845c71ac91171712e11e36a", func := "bartizan/bartizanlaw18.LedgerChannels", spec := "ledgerChannels", inPlace := ["maps.clone", "internal/bytealg.Compare"], unfollowed := true, recurses := true, plainKeys := false, apart := false, narrowed := true }
def LedgerChannelsUptoSaid : Prop := ledgerChannelsUptoRow.holds Tryz.pinned (OpenSpec.upto ledgerChannelsSpec)

/-- 'bartizanlaw20.ChainNobody', WHERE WHAT IT READS IS OF BULK AT MOST 1048576: true; the input reads as it did. -/
def chainNobodyUptoRow : OpenClaim := { program := "ythfoeaokfhbdaaagreat", sum := "80f63df3a4d8bdbfaca5e371c5b812c7bc177f9b1845c71ac91171712e11e36a", func := "bartizan/bartizanlaw20.ChainNobody", spec := "chainNobody", inPlace := ["maps.clone"], unfollowed := true, recurses := true, plainKeys := false, apart := false, narrowed := true }
def ChainNobodyUptoSaid : Prop := chainNobodyUptoRow.holds Tryz.pinned (OpenSpec.upto chainNobodySpec)

/-- 'bartizanlaw32.ScanLooks', WHERE WHAT IT READS IS OF BULK AT MOST 1048576: true; the input reads as it did. -/
def scanLooksUptoRow : OpenClaim := { program := "ythfoeaokfhbdaaagreat", sum := "80f63df3a4d8bdbfaca5e371c5b812c7bc177f9b1845c71ac91171712e11e36a", func := "bartizan/bartizanlaw32.ScanLooks", spec := "scanLooks", inPlace := ["maps.clone"], unfollowed := true, recurses := true, plainKeys := false, apart := false, narrowed := true }
def ScanLooksUptoSaid : Prop := scanLooksUptoRow.holds Tryz.pinned (OpenSpec.upto scanLooksSpec)

/-- 'bartizanlaw21.PoolLate', WHERE WHAT IT READS IS OF BULK AT MOST 1048576: true; the input reads as it did. -/
def poolLateUptoRow : OpenClaim := { program := "ythfoeaokfhbdaaagreat", sum := "80f63df3a4d8bdbfaca5e371c5b812c7bc177f9b1845c71ac91171712e11e36a", func := "bartizan/bartizanlaw21.PoolLate", spec := "poolLate", inPlace := ["maps.clone"], unfollowed := true, recurses := true, plainKeys := false, apart := false, narrowed := true }
def PoolLateUptoSaid : Prop := poolLateUptoRow.holds Tryz.pinned (OpenSpec.upto poolLateSpec)

end Rows
end Go.Proofs.YthfoeaokfhbdaaaGreat

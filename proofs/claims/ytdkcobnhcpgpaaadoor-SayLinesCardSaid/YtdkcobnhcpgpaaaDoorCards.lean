/-
  DERIVED. GIVEN WITH THE SEED: THE CARDS: each row of YtdkcobnhcpgpaaaDoorRows.lean that lists a variable, with what it lists TIED to the program's text (the seventh form; the later family's looks); each row that meets fmt, with fmt's text TOLD by the authors' own Lean function (tested against real Go, not proved from fmt's source: count such statements apart). THE CARD IS WHAT COUNTS. Prove the row's statement (the work); the ties are given (YtdkcobnhcpgpaaaDoorTie.lean); close each card by the builder's one call (the guide's Derived/Test/ToyasCard.lean, 'card_holds'). Laid BY PROGRAM, IN A SANDBOX (cutbox-door.mjs). By AI agents, Wed Nov 11 2026. No macro, syntax, notation, axiom, sorry.
-/
import Derived.Test.YtdkcobnhcpgpaaaDoorRows
import GoSem.ClaimSeven
namespace Go.Proofs.YtdkcobnhcpgpaaaDoor
namespace Rows

/-- THE TIED CARD OF 'bartizanlaw40.SayLines'. -/
def sayLinesCard : Claim7 := { stood := { row := sayLinesRow, standIns := [], harness := (true, "5dca5b63c4bd07bafffe3dc204f53edec06440719a5f35fa602904247cc64e1a"), looks := false }, kinds := [], alts := [], laidByText := true, laidKinds := [.data, .pinned], laidTests := true, laidLooks := .later }
def SayLinesCardSaid : Prop := Claim7.holds Tryd.pinned (.plain (OpenSpec.ofChange sayLinesSpec)) sayLinesCard

/-- THE TIED CARD OF 'bartizanlaw40.SayParses'. -/
def sayParsesCard : Claim7 := { stood := { row := sayParsesRow, standIns := [], harness := (true, "5dca5b63c4bd07bafffe3dc204f53edec06440719a5f35fa602904247cc64e1a"), looks := false }, kinds := [], alts := [], laidByText := true, laidKinds := [.data, .pinned], laidTests := true, laidLooks := .later }
def SayParsesCardSaid : Prop := Claim7.holds Tryd.pinned (.plain (OpenSpec.ofChange sayParsesSpec)) sayParsesCard

/-- THE TIED CARD OF 'bartizanlaw40.SayLong'. -/
def sayLongCard : Claim7 := { stood := { row := sayLongRow, standIns := [], harness := (true, "5dca5b63c4bd07bafffe3dc204f53edec06440719a5f35fa602904247cc64e1a"), looks := false }, kinds := [], alts := [], laidByText := true, laidKinds := [.data, .pinned], laidTests := true, laidLooks := .later }
def SayLongCardSaid : Prop := Claim7.holds Tryd.pinned (.plain (OpenSpec.ofChange sayLongSpec)) sayLongCard

/-- THE TIED CARD OF 'bartizanlaw40.SayScripts'. -/
def sayScriptsCard : Claim7 := { stood := { row := sayScriptsRow, standIns := [], harness := (true, "5dca5b63c4bd07bafffe3dc204f53edec06440719a5f35fa602904247cc64e1a"), looks := false }, kinds := [], alts := [], laidByText := true, laidKinds := [.data, .pinned], laidTests := true, laidLooks := .later }
def SayScriptsCardSaid : Prop := Claim7.holds Tryd.pinned (.plain (OpenSpec.ofChange sayScriptsSpec)) sayScriptsCard

/-- THE SECOND FORM's CARD OF 'bartizanlaw40.SayLines'. -/
def sayLinesUptoCard : Claim7 := { stood := { row := sayLinesUptoRow, standIns := [], harness := (true, "5dca5b63c4bd07bafffe3dc204f53edec06440719a5f35fa602904247cc64e1a"), looks := false }, kinds := [], alts := [], laidByText := true, laidKinds := [.data, .pinned], laidTests := true, laidLooks := .later }
def SayLinesUptoCardSaid : Prop := Claim7.holds Tryd.pinned (.plain (OpenSpec.upto sayLinesSpec)) sayLinesUptoCard

/-- THE SECOND FORM's CARD OF 'bartizanlaw40.SayParses'. -/
def sayParsesUptoCard : Claim7 := { stood := { row := sayParsesUptoRow, standIns := [], harness := (true, "5dca5b63c4bd07bafffe3dc204f53edec06440719a5f35fa602904247cc64e1a"), looks := false }, kinds := [], alts := [], laidByText := true, laidKinds := [.data, .pinned], laidTests := true, laidLooks := .later }
def SayParsesUptoCardSaid : Prop := Claim7.holds Tryd.pinned (.plain (OpenSpec.upto sayParsesSpec)) sayParsesUptoCard

/-- THE SECOND FORM's CARD OF 'bartizanlaw40.SayLong'. -/
def sayLongUptoCard : Claim7 := { stood := { row := sayLongUptoRow, standIns := [], harness := (true, "5dca5b63c4bd07bafffe3dc204f53edec06440719a5f35fa602904247cc64e1a"), looks := false }, kinds := [], alts := [], laidByText := true, laidKinds := [.data, .pinned], laidTests := true, laidLooks := .later }
def SayLongUptoCardSaid : Prop := Claim7.holds Tryd.pinned (.plain (OpenSpec.upto sayLongSpec)) sayLongUptoCard

/-- THE SECOND FORM's CARD OF 'bartizanlaw40.SayScripts'. -/
def sayScriptsUptoCard : Claim7 := { stood := { row := sayScriptsUptoRow, standIns := [], harness := (true, "5dca5b63c4bd07bafffe3dc204f53edec06440719a5f35fa602904247cc64e1a"), looks := false }, kinds := [], alts := [], laidByText := true, laidKinds := [.data, .pinned], laidTests := true, laidLooks := .later }
def SayScriptsUptoCardSaid : Prop := Claim7.holds Tryd.pinned (.plain (OpenSpec.upto sayScriptsSpec)) sayScriptsUptoCard
end Rows
end Go.Proofs.YtdkcobnhcpgpaaaDoor

/-
  DERIVED. GIVEN WITH THE SEED: THE CARDS: each row of YtlcflpanellbfaaGreatDoorRows.lean that lists a variable, with what it lists TIED to the program's text (the seventh form; the later family's looks); each row that meets fmt, with fmt's text TOLD by the authors' own Lean function (tested against real Go, not proved from fmt's source: count such statements apart). THE CARD IS WHAT COUNTS. Prove the row's statement (the work); the ties are given (YtlcflpanellbfaaGreatDoorTie.lean); close each card by the builder's one call (the guide's Derived/Test/ToyasCard.lean, 'card_holds'). Laid BY PROGRAM, IN A SANDBOX (cutbox-door.mjs). By AI agents, Wed Nov 11 2026. No macro, syntax, notation, axiom, sorry.
-/
import Derived.Test.YtlcflpanellbfaaGreatDoorRows
import GoSem.ClaimSeven
namespace Go.Proofs.YtlcflpanellbfaaGreatDoor
namespace Rows

/-- THE TIED CARD OF 'regencylaw11.CallTells'. -/
def callTellsCard : Claim7 := { stood := { row := callTellsRow, standIns := [], harness := (true, "95db1d8c9415b714466ce2f3f614cb9dee769c78155367c3e82232230cbea2b6"), looks := true }, kinds := [], alts := [], laidByText := true, laidKinds := [.data, .data, .data, .data, .handle, .sentinel, .sentinel, .pinned], laidTests := true, laidLooks := .later }
def CallTellsCardSaid : Prop := Claim7.holds Tryz.pinned (.plain (OpenSpec.ofChange callTellsSpec)) callTellsCard

/-- THE TIED CARD OF 'regencylaw11.CallBack'. -/
def callBackCard : Claim7 := { stood := { row := callBackRow, standIns := [], harness := (true, "95db1d8c9415b714466ce2f3f614cb9dee769c78155367c3e82232230cbea2b6"), looks := true }, kinds := [], alts := [], laidByText := true, laidKinds := [.data, .data, .data, .data, .handle, .sentinel, .sentinel, .pinned], laidTests := true, laidLooks := .later }
def CallBackCardSaid : Prop := Claim7.holds Tryz.pinned (.plain (OpenSpec.ofChange callBackSpec)) callBackCard

/-- THE SECOND FORM's CARD OF 'regencylaw11.CallTells'. -/
def callTellsUptoCard : Claim7 := { stood := { row := callTellsUptoRow, standIns := [], harness := (true, "95db1d8c9415b714466ce2f3f614cb9dee769c78155367c3e82232230cbea2b6"), looks := true }, kinds := [], alts := [], laidByText := true, laidKinds := [.data, .data, .data, .data, .handle, .sentinel, .sentinel, .pinned], laidTests := true, laidLooks := .later }
def CallTellsUptoCardSaid : Prop := Claim7.holds Tryz.pinned (.plain (OpenSpec.upto callTellsSpec)) callTellsUptoCard

/-- THE SECOND FORM's CARD OF 'regencylaw11.CallBack'. -/
def callBackUptoCard : Claim7 := { stood := { row := callBackUptoRow, standIns := [], harness := (true, "95db1d8c9415b714466ce2f3f614cb9dee769c78155367c3e82232230cbea2b6"), looks := true }, kinds := [], alts := [], laidByText := true, laidKinds := [.data, .data, .data, .data, .handle, .sentinel, .sentinel, .pinned], laidTests := true, laidLooks := .later }
def CallBackUptoCardSaid : Prop := Claim7.holds Tryz.pinned (.plain (OpenSpec.upto callBackSpec)) callBackUptoCard
end Rows
end Go.Proofs.YtlcflpanellbfaaGreatDoor

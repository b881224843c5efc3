/-
  DERIVED. GIVEN WITH THE SEED: THE CARDS: each row of YtibchilpaaiecaaGreatDoorRows.lean that lists a variable, with what it lists TIED to the program's text (the seventh form; the later family's looks); each row that meets fmt, with fmt's text TOLD by the authors' own Lean function (tested against real Go, not proved from fmt's source: count such statements apart). THE CARD IS WHAT COUNTS. Prove the row's statement (the work); the ties are given (YtibchilpaaiecaaGreatDoorTie.lean); close each card by the builder's one call (the guide's Derived/Test/ToyasCard.lean, 'card_holds'). Laid BY PROGRAM, IN A SANDBOX (cutbox-door.mjs). By AI agents, Wed Nov 11 2026. No macro, syntax, notation, axiom, sorry.
-/
import Derived.Test.YtibchilpaaiecaaGreatDoorRows
import GoSem.ClaimSeven
namespace Go.Proofs.YtibchilpaaiecaaGreatDoor
namespace Rows

/-- THE TIED CARD OF 'regencylaw37.SpeechTells'. -/
def speechTellsCard : Claim7 := { stood := { row := speechTellsRow, standIns := [], harness := (true, "bb95b35cb6b4188d0a979f21bfe9f26e9c4b37b407f6a385a85f194cac20ea3b"), looks := true }, kinds := [], alts := [], laidByText := true, laidKinds := [.data, .data, .data, .data, .handle, .sentinel, .sentinel, .pinned], laidTests := true, laidLooks := .later }
def SpeechTellsCardSaid : Prop := Claim7.holds Tryz.pinned (.plain (OpenSpec.ofChange speechTellsSpec)) speechTellsCard

/-- THE TIED CARD OF 'regencylaw37.SpeechBack'. -/
def speechBackCard : Claim7 := { stood := { row := speechBackRow, standIns := [], harness := (true, "bb95b35cb6b4188d0a979f21bfe9f26e9c4b37b407f6a385a85f194cac20ea3b"), looks := true }, kinds := [], alts := [], laidByText := true, laidKinds := [.data, .data, .data, .data, .handle, .sentinel, .sentinel, .pinned], laidTests := true, laidLooks := .later }
def SpeechBackCardSaid : Prop := Claim7.holds Tryz.pinned (.plain (OpenSpec.ofChange speechBackSpec)) speechBackCard

/-- THE TIED CARD OF 'regencylaw37.SpeechParses'. -/
def speechParsesCard : Claim7 := { stood := { row := speechParsesRow, standIns := [], harness := (true, "bb95b35cb6b4188d0a979f21bfe9f26e9c4b37b407f6a385a85f194cac20ea3b"), looks := true }, kinds := [], alts := [], laidByText := true, laidKinds := [.data, .data, .data, .data, .handle, .sentinel, .sentinel, .pinned], laidTests := true, laidLooks := .later }
def SpeechParsesCardSaid : Prop := Claim7.holds Tryz.pinned (.plain (OpenSpec.ofChange speechParsesSpec)) speechParsesCard

/-- THE SECOND FORM's CARD OF 'regencylaw37.SpeechTells'. -/
def speechTellsUptoCard : Claim7 := { stood := { row := speechTellsUptoRow, standIns := [], harness := (true, "bb95b35cb6b4188d0a979f21bfe9f26e9c4b37b407f6a385a85f194cac20ea3b"), looks := true }, kinds := [], alts := [], laidByText := true, laidKinds := [.data, .data, .data, .data, .handle, .sentinel, .sentinel, .pinned], laidTests := true, laidLooks := .later }
def SpeechTellsUptoCardSaid : Prop := Claim7.holds Tryz.pinned (.plain (OpenSpec.upto speechTellsSpec)) speechTellsUptoCard

/-- THE SECOND FORM's CARD OF 'regencylaw37.SpeechBack'. -/
def speechBackUptoCard : Claim7 := { stood := { row := speechBackUptoRow, standIns := [], harness := (true, "bb95b35cb6b4188d0a979f21bfe9f26e9c4b37b407f6a385a85f194cac20ea3b"), looks := true }, kinds := [], alts := [], laidByText := true, laidKinds := [.data, .data, .data, .data, .handle, .sentinel, .sentinel, .pinned], laidTests := true, laidLooks := .later }
def SpeechBackUptoCardSaid : Prop := Claim7.holds Tryz.pinned (.plain (OpenSpec.upto speechBackSpec)) speechBackUptoCard

/-- THE SECOND FORM's CARD OF 'regencylaw37.SpeechParses'. -/
def speechParsesUptoCard : Claim7 := { stood := { row := speechParsesUptoRow, standIns := [], harness := (true, "bb95b35cb6b4188d0a979f21bfe9f26e9c4b37b407f6a385a85f194cac20ea3b"), looks := true }, kinds := [], alts := [], laidByText := true, laidKinds := [.data, .data, .data, .data, .handle, .sentinel, .sentinel, .pinned], laidTests := true, laidLooks := .later }
def SpeechParsesUptoCardSaid : Prop := Claim7.holds Tryz.pinned (.plain (OpenSpec.upto speechParsesSpec)) speechParsesUptoCard
end Rows
end Go.Proofs.YtibchilpaaiecaaGreatDoor

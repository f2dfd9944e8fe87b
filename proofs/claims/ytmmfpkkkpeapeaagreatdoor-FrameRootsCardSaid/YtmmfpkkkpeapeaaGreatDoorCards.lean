/-
  DERIVED. GIVEN WITH THE SEED: THE CARDS: each row of YtmmfpkkkpeapeaaGreatDoorRows.lean that lists a variable, with what it lists TIED to the program's text (the seventh form; the later family's looks); each row that meets fmt, with fmt's text TOLD by the authors' own Lean function (tested against real Go, not proved from fmt's source: count such statements apart). THE CARD IS WHAT COUNTS. Prove the row's statement (the work); the ties are given (YtmmfpkkkpeapeaaGreatDoorTie.lean); close each card by the builder's one call (the guide's Derived/Test/ToyasCard.lean, 'card_holds'). Laid BY PROGRAM, IN A SANDBOX (cutbox-door.mjs). By AI agents, Wed Nov 11 2026. No macro, syntax, notation, axiom, sorry.
-/
import Derived.Test.YtmmfpkkkpeapeaaGreatDoorRows
import GoSem.ClaimSeven
namespace Go.Proofs.YtmmfpkkkpeapeaaGreatDoor
namespace Rows

/-- THE TIED CARD OF 'palinglaw15.WrapPasses'. -/
def wrapPassesCard : Claim7 := { stood := { row := wrapPassesRow, standIns := [], harness := (true, "035ad2b37f59c1469d9a4f6418b7b93314a537889945dc491104fa293dadf3c4"), looks := true }, kinds := [], alts := [], laidByText := true, laidKinds := [.data, .data, .data, .sentinel, .sentinel, .data, .data, .data, .mapped, .data, .widerDeep, .mapped], laidTests := true, laidLooks := .later }
def WrapPassesCardSaid : Prop := Claim7.holds Tryz.pinned (.plain (OpenSpec.ofChange wrapPassesSpec)) wrapPassesCard

/-- THE TIED CARD OF 'palinglaw16.FrameWorlds'. -/
def frameWorldsCard : Claim7 := { stood := { row := frameWorldsRow, standIns := [], harness := (true, "035ad2b37f59c1469d9a4f6418b7b93314a537889945dc491104fa293dadf3c4"), looks := true }, kinds := [], alts := [], laidByText := true, laidKinds := [.data, .data, .data, .sentinel, .sentinel, .data, .data, .data, .mapped, .data, .widerDeep, .mapped], laidTests := true, laidLooks := .later }
def FrameWorldsCardSaid : Prop := Claim7.holds Tryz.pinned (.plain (OpenSpec.ofChange frameWorldsSpec)) frameWorldsCard

/-- THE TIED CARD OF 'palinglaw16.FrameOf'. -/
def frameOfCard : Claim7 := { stood := { row := frameOfRow, standIns := [], harness := (true, "035ad2b37f59c1469d9a4f6418b7b93314a537889945dc491104fa293dadf3c4"), looks := true }, kinds := [], alts := [], laidByText := true, laidKinds := [.data, .data, .data, .sentinel, .sentinel, .data, .data, .data, .mapped, .data, .widerDeep, .mapped], laidTests := true, laidLooks := .later }
def FrameOfCardSaid : Prop := Claim7.holds Tryz.pinned (.plain (OpenSpec.ofChange frameOfSpec)) frameOfCard

/-- THE TIED CARD OF 'palinglaw16.FrameRoots'. -/
def frameRootsCard : Claim7 := { stood := { row := frameRootsRow, standIns := [], harness := (true, "035ad2b37f59c1469d9a4f6418b7b93314a537889945dc491104fa293dadf3c4"), looks := true }, kinds := [], alts := [], laidByText := true, laidKinds := [.data, .data, .data, .sentinel, .sentinel, .data, .data, .data, .mapped, .data, .widerDeep, .mapped], laidTests := true, laidLooks := .later }
def FrameRootsCardSaid : Prop := Claim7.holds Tryz.pinned (.plain (OpenSpec.ofChange frameRootsSpec)) frameRootsCard

/-- THE SECOND FORM's CARD OF 'palinglaw15.WrapPasses'. -/
def wrapPassesUptoCard : Claim7 := { stood := { row := wrapPassesUptoRow, standIns := [], harness := (true, "035ad2b37f59c1469d9a4f6418b7b93314a537889945dc491104fa293dadf3c4"), looks := true }, kinds := [], alts := [], laidByText := true, laidKinds := [.data, .data, .data, .sentinel, .sentinel, .data, .data, .data, .mapped, .data, .widerDeep, .mapped], laidTests := true, laidLooks := .later }
def WrapPassesUptoCardSaid : Prop := Claim7.holds Tryz.pinned (.plain (OpenSpec.upto wrapPassesSpec)) wrapPassesUptoCard

/-- THE SECOND FORM's CARD OF 'palinglaw16.FrameWorlds'. -/
def frameWorldsUptoCard : Claim7 := { stood := { row := frameWorldsUptoRow, standIns := [], harness := (true, "035ad2b37f59c1469d9a4f6418b7b93314a537889945dc491104fa293dadf3c4"), looks := true }, kinds := [], alts := [], laidByText := true, laidKinds := [.data, .data, .data, .sentinel, .sentinel, .data, .data, .data, .mapped, .data, .widerDeep, .mapped], laidTests := true, laidLooks := .later }
def FrameWorldsUptoCardSaid : Prop := Claim7.holds Tryz.pinned (.plain (OpenSpec.upto frameWorldsSpec)) frameWorldsUptoCard

/-- THE SECOND FORM's CARD OF 'palinglaw16.FrameOf'. -/
def frameOfUptoCard : Claim7 := { stood := { row := frameOfUptoRow, standIns := [], harness := (true, "035ad2b37f59c1469d9a4f6418b7b93314a537889945dc491104fa293dadf3c4"), looks := true }, kinds := [], alts := [], laidByText := true, laidKinds := [.data, .data, .data, .sentinel, .sentinel, .data, .data, .data, .mapped, .data, .widerDeep, .mapped], laidTests := true, laidLooks := .later }
def FrameOfUptoCardSaid : Prop := Claim7.holds Tryz.pinned (.plain (OpenSpec.upto frameOfSpec)) frameOfUptoCard

/-- THE SECOND FORM's CARD OF 'palinglaw16.FrameRoots'. -/
def frameRootsUptoCard : Claim7 := { stood := { row := frameRootsUptoRow, standIns := [], harness := (true, "035ad2b37f59c1469d9a4f6418b7b93314a537889945dc491104fa293dadf3c4"), looks := true }, kinds := [], alts := [], laidByText := true, laidKinds := [.data, .data, .data, .sentinel, .sentinel, .data, .data, .data, .mapped, .data, .widerDeep, .mapped], laidTests := true, laidLooks := .later }
def FrameRootsUptoCardSaid : Prop := Claim7.holds Tryz.pinned (.plain (OpenSpec.upto frameRootsSpec)) frameRootsUptoCard
end Rows
end Go.Proofs.YtmmfpkkkpeapeaaGreatDoor

/-
  DERIVED. GIVEN WITH THE SEED: THE CARDS: each row of YthppammjopifbaaGreatDoorRows.lean that lists a variable, with what it lists TIED to the program's text (the seventh form; the later family's looks); each row that meets fmt, with fmt's text TOLD by the authors' own Lean function (tested against real Go, not proved from fmt's source: count such statements apart). THE CARD IS WHAT COUNTS. Prove the row's statement (the work); the ties are given (YthppammjopifbaaGreatDoorTie.lean); close each card by the builder's one call (the guide's Derived/Test/ToyasCard.lean, 'card_holds'). Laid BY PROGRAM, IN A SANDBOX (cutbox-door.mjs). By AI agents, Wed Nov 11 2026. No macro, syntax, notation, axiom, sorry.
-/
import Derived.Test.YthppammjopifbaaGreatDoorRows
import GoSem.ClaimSeven
namespace Go.Proofs.YthppammjopifbaaGreatDoor
namespace Rows

/-- THE TIED CARD OF 'palinglaw14.SealFull'. -/
def sealFullCard : Claim7 := { stood := { row := sealFullRow, standIns := [], harness := (true, "b6c3ad09b0564174aed77c515e52971cd283fb2271c99807e78b1ee4a3f760d7"), looks := true }, kinds := [], alts := [], laidByText := true, laidKinds := [.data, .data, .data, .sentinel, .sentinel, .data, .data, .data, .mapped, .data, .widerDeep, .mapped], laidTests := true, laidLooks := .later }
def SealFullCardSaid : Prop := Claim7.holds Tryz.pinned (.plain (OpenSpec.ofChange sealFullSpec)) sealFullCard

/-- THE TIED CARD OF 'palinglaw14.SealTwice'. -/
def sealTwiceCard : Claim7 := { stood := { row := sealTwiceRow, standIns := [], harness := (true, "b6c3ad09b0564174aed77c515e52971cd283fb2271c99807e78b1ee4a3f760d7"), looks := true }, kinds := [], alts := [], laidByText := true, laidKinds := [.data, .data, .data, .sentinel, .sentinel, .data, .data, .data, .mapped, .data, .widerDeep, .mapped], laidTests := true, laidLooks := .later }
def SealTwiceCardSaid : Prop := Claim7.holds Tryz.pinned (.plain (OpenSpec.ofChange sealTwiceSpec)) sealTwiceCard

/-- THE TIED CARD OF 'palinglaw15.WrapSides'. -/
def wrapSidesCard : Claim7 := { stood := { row := wrapSidesRow, standIns := [], harness := (true, "b6c3ad09b0564174aed77c515e52971cd283fb2271c99807e78b1ee4a3f760d7"), looks := true }, kinds := [], alts := [], laidByText := true, laidKinds := [.data, .data, .data, .sentinel, .sentinel, .data, .data, .data, .mapped, .data, .widerDeep, .mapped], laidTests := true, laidLooks := .later }
def WrapSidesCardSaid : Prop := Claim7.holds Tryz.pinned (.plain (OpenSpec.ofChange wrapSidesSpec)) wrapSidesCard

/-- THE TIED CARD OF 'palinglaw15.WrapFull'. -/
def wrapFullCard : Claim7 := { stood := { row := wrapFullRow, standIns := [], harness := (true, "b6c3ad09b0564174aed77c515e52971cd283fb2271c99807e78b1ee4a3f760d7"), looks := true }, kinds := [], alts := [], laidByText := true, laidKinds := [.data, .data, .data, .sentinel, .sentinel, .data, .data, .data, .mapped, .data, .widerDeep, .mapped], laidTests := true, laidLooks := .later }
def WrapFullCardSaid : Prop := Claim7.holds Tryz.pinned (.plain (OpenSpec.ofChange wrapFullSpec)) wrapFullCard

/-- THE TIED CARD OF 'palinglaw15.WrapBack'. -/
def wrapBackCard : Claim7 := { stood := { row := wrapBackRow, standIns := [], harness := (true, "b6c3ad09b0564174aed77c515e52971cd283fb2271c99807e78b1ee4a3f760d7"), looks := true }, kinds := [], alts := [], laidByText := true, laidKinds := [.data, .data, .data, .sentinel, .sentinel, .data, .data, .data, .mapped, .data, .widerDeep, .mapped], laidTests := true, laidLooks := .later }
def WrapBackCardSaid : Prop := Claim7.holds Tryz.pinned (.plain (OpenSpec.ofChange wrapBackSpec)) wrapBackCard

/-- THE TIED CARD OF 'palinglaw15.WrapPasses'. -/
def wrapPassesCard : Claim7 := { stood := { row := wrapPassesRow, standIns := [], harness := (true, "b6c3ad09b0564174aed77c515e52971cd283fb2271c99807e78b1ee4a3f760d7"), looks := true }, kinds := [], alts := [], laidByText := true, laidKinds := [.data, .data, .data, .sentinel, .sentinel, .data, .data, .data, .mapped, .data, .widerDeep, .mapped], laidTests := true, laidLooks := .later }
def WrapPassesCardSaid : Prop := Claim7.holds Tryz.pinned (.plain (OpenSpec.ofChange wrapPassesSpec)) wrapPassesCard

/-- THE TIED CARD OF 'palinglaw16.FrameBacks'. -/
def frameBacksCard : Claim7 := { stood := { row := frameBacksRow, standIns := [], harness := (true, "b6c3ad09b0564174aed77c515e52971cd283fb2271c99807e78b1ee4a3f760d7"), looks := true }, kinds := [], alts := [], laidByText := true, laidKinds := [.data, .data, .data, .sentinel, .sentinel, .data, .data, .data, .mapped, .data, .widerDeep, .mapped], laidTests := true, laidLooks := .later }
def FrameBacksCardSaid : Prop := Claim7.holds Tryz.pinned (.plain (OpenSpec.ofChange frameBacksSpec)) frameBacksCard

/-- THE TIED CARD OF 'palinglaw16.FrameWorlds'. -/
def frameWorldsCard : Claim7 := { stood := { row := frameWorldsRow, standIns := [], harness := (true, "b6c3ad09b0564174aed77c515e52971cd283fb2271c99807e78b1ee4a3f760d7"), looks := true }, kinds := [], alts := [], laidByText := true, laidKinds := [.data, .data, .data, .sentinel, .sentinel, .data, .data, .data, .mapped, .data, .widerDeep, .mapped], laidTests := true, laidLooks := .later }
def FrameWorldsCardSaid : Prop := Claim7.holds Tryz.pinned (.plain (OpenSpec.ofChange frameWorldsSpec)) frameWorldsCard

/-- THE TIED CARD OF 'palinglaw16.FrameOf'. -/
def frameOfCard : Claim7 := { stood := { row := frameOfRow, standIns := [], harness := (true, "b6c3ad09b0564174aed77c515e52971cd283fb2271c99807e78b1ee4a3f760d7"), looks := true }, kinds := [], alts := [], laidByText := true, laidKinds := [.data, .data, .data, .sentinel, .sentinel, .data, .data, .data, .mapped, .data, .widerDeep, .mapped], laidTests := true, laidLooks := .later }
def FrameOfCardSaid : Prop := Claim7.holds Tryz.pinned (.plain (OpenSpec.ofChange frameOfSpec)) frameOfCard

/-- THE TIED CARD OF 'palinglaw16.FrameRoots'. -/
def frameRootsCard : Claim7 := { stood := { row := frameRootsRow, standIns := [], harness := (true, "b6c3ad09b0564174aed77c515e52971cd283fb2271c99807e78b1ee4a3f760d7"), looks := true }, kinds := [], alts := [], laidByText := true, laidKinds := [.data, .data, .data, .sentinel, .sentinel, .data, .data, .data, .mapped, .data, .widerDeep, .mapped], laidTests := true, laidLooks := .later }
def FrameRootsCardSaid : Prop := Claim7.holds Tryz.pinned (.plain (OpenSpec.ofChange frameRootsSpec)) frameRootsCard

/-- THE SECOND FORM's CARD OF 'palinglaw14.SealFull'. -/
def sealFullUptoCard : Claim7 := { stood := { row := sealFullUptoRow, standIns := [], harness := (true, "b6c3ad09b0564174aed77c515e52971cd283fb2271c99807e78b1ee4a3f760d7"), looks := true }, kinds := [], alts := [], laidByText := true, laidKinds := [.data, .data, .data, .sentinel, .sentinel, .data, .data, .data, .mapped, .data, .widerDeep, .mapped], laidTests := true, laidLooks := .later }
def SealFullUptoCardSaid : Prop := Claim7.holds Tryz.pinned (.plain (OpenSpec.upto sealFullSpec)) sealFullUptoCard

/-- THE SECOND FORM's CARD OF 'palinglaw14.SealTwice'. -/
def sealTwiceUptoCard : Claim7 := { stood := { row := sealTwiceUptoRow, standIns := [], harness := (true, "b6c3ad09b0564174aed77c515e52971cd283fb2271c99807e78b1ee4a3f760d7"), looks := true }, kinds := [], alts := [], laidByText := true, laidKinds := [.data, .data, .data, .sentinel, .sentinel, .data, .data, .data, .mapped, .data, .widerDeep, .mapped], laidTests := true, laidLooks := .later }
def SealTwiceUptoCardSaid : Prop := Claim7.holds Tryz.pinned (.plain (OpenSpec.upto sealTwiceSpec)) sealTwiceUptoCard

/-- THE SECOND FORM's CARD OF 'palinglaw15.WrapSides'. -/
def wrapSidesUptoCard : Claim7 := { stood := { row := wrapSidesUptoRow, standIns := [], harness := (true, "b6c3ad09b0564174aed77c515e52971cd283fb2271c99807e78b1ee4a3f760d7"), looks := true }, kinds := [], alts := [], laidByText := true, laidKinds := [.data, .data, .data, .sentinel, .sentinel, .data, .data, .data, .mapped, .data, .widerDeep, .mapped], laidTests := true, laidLooks := .later }
def WrapSidesUptoCardSaid : Prop := Claim7.holds Tryz.pinned (.plain (OpenSpec.upto wrapSidesSpec)) wrapSidesUptoCard

/-- THE SECOND FORM's CARD OF 'palinglaw15.WrapFull'. -/
def wrapFullUptoCard : Claim7 := { stood := { row := wrapFullUptoRow, standIns := [], harness := (true, "b6c3ad09b0564174aed77c515e52971cd283fb2271c99807e78b1ee4a3f760d7"), looks := true }, kinds := [], alts := [], laidByText := true, laidKinds := [.data, .data, .data, .sentinel, .sentinel, .data, .data, .data, .mapped, .data, .widerDeep, .mapped], laidTests := true, laidLooks := .later }
def WrapFullUptoCardSaid : Prop := Claim7.holds Tryz.pinned (.plain (OpenSpec.upto wrapFullSpec)) wrapFullUptoCard

/-- THE SECOND FORM's CARD OF 'palinglaw15.WrapBack'. -/
def wrapBackUptoCard : Claim7 := { stood := { row := wrapBackUptoRow, standIns := [], harness := (true, "b6c3ad09b0564174aed77c515e52971cd283fb2271c99807e78b1ee4a3f760d7"), looks := true }, kinds := [], alts := [], laidByText := true, laidKinds := [.data, .data, .data, .sentinel, .sentinel, .data, .data, .data, .mapped, .data, .widerDeep, .mapped], laidTests := true, laidLooks := .later }
def WrapBackUptoCardSaid : Prop := Claim7.holds Tryz.pinned (.plain (OpenSpec.upto wrapBackSpec)) wrapBackUptoCard

/-- THE SECOND FORM's CARD OF 'palinglaw15.WrapPasses'. -/
def wrapPassesUptoCard : Claim7 := { stood := { row := wrapPassesUptoRow, standIns := [], harness := (true, "b6c3ad09b0564174aed77c515e52971cd283fb2271c99807e78b1ee4a3f760d7"), looks := true }, kinds := [], alts := [], laidByText := true, laidKinds := [.data, .data, .data, .sentinel, .sentinel, .data, .data, .data, .mapped, .data, .widerDeep, .mapped], laidTests := true, laidLooks := .later }
def WrapPassesUptoCardSaid : Prop := Claim7.holds Tryz.pinned (.plain (OpenSpec.upto wrapPassesSpec)) wrapPassesUptoCard

/-- THE SECOND FORM's CARD OF 'palinglaw16.FrameBacks'. -/
def frameBacksUptoCard : Claim7 := { stood := { row := frameBacksUptoRow, standIns := [], harness := (true, "b6c3ad09b0564174aed77c515e52971cd283fb2271c99807e78b1ee4a3f760d7"), looks := true }, kinds := [], alts := [], laidByText := true, laidKinds := [.data, .data, .data, .sentinel, .sentinel, .data, .data, .data, .mapped, .data, .widerDeep, .mapped], laidTests := true, laidLooks := .later }
def FrameBacksUptoCardSaid : Prop := Claim7.holds Tryz.pinned (.plain (OpenSpec.upto frameBacksSpec)) frameBacksUptoCard

/-- THE SECOND FORM's CARD OF 'palinglaw16.FrameWorlds'. -/
def frameWorldsUptoCard : Claim7 := { stood := { row := frameWorldsUptoRow, standIns := [], harness := (true, "b6c3ad09b0564174aed77c515e52971cd283fb2271c99807e78b1ee4a3f760d7"), looks := true }, kinds := [], alts := [], laidByText := true, laidKinds := [.data, .data, .data, .sentinel, .sentinel, .data, .data, .data, .mapped, .data, .widerDeep, .mapped], laidTests := true, laidLooks := .later }
def FrameWorldsUptoCardSaid : Prop := Claim7.holds Tryz.pinned (.plain (OpenSpec.upto frameWorldsSpec)) frameWorldsUptoCard

/-- THE SECOND FORM's CARD OF 'palinglaw16.FrameOf'. -/
def frameOfUptoCard : Claim7 := { stood := { row := frameOfUptoRow, standIns := [], harness := (true, "b6c3ad09b0564174aed77c515e52971cd283fb2271c99807e78b1ee4a3f760d7"), looks := true }, kinds := [], alts := [], laidByText := true, laidKinds := [.data, .data, .data, .sentinel, .sentinel, .data, .data, .data, .mapped, .data, .widerDeep, .mapped], laidTests := true, laidLooks := .later }
def FrameOfUptoCardSaid : Prop := Claim7.holds Tryz.pinned (.plain (OpenSpec.upto frameOfSpec)) frameOfUptoCard

/-- THE SECOND FORM's CARD OF 'palinglaw16.FrameRoots'. -/
def frameRootsUptoCard : Claim7 := { stood := { row := frameRootsUptoRow, standIns := [], harness := (true, "b6c3ad09b0564174aed77c515e52971cd283fb2271c99807e78b1ee4a3f760d7"), looks := true }, kinds := [], alts := [], laidByText := true, laidKinds := [.data, .data, .data, .sentinel, .sentinel, .data, .data, .data, .mapped, .data, .widerDeep, .mapped], laidTests := true, laidLooks := .later }
def FrameRootsUptoCardSaid : Prop := Claim7.holds Tryz.pinned (.plain (OpenSpec.upto frameRootsSpec)) frameRootsUptoCard
end Rows
end Go.Proofs.YthppammjopifbaaGreatDoor

/-
  DERIVED. GIVEN WITH THE SEED: THE CARDS: each row of YtojbphnkabfkpaaGreatDoorRows.lean that lists a variable, with what it lists TIED to the program's text (the seventh form; the later family's looks); each row that meets fmt, with fmt's text TOLD by the authors' own Lean function (tested against real Go, not proved from fmt's source: count such statements apart). THE CARD IS WHAT COUNTS. Prove the row's statement (the work); the ties are given (YtojbphnkabfkpaaGreatDoorTie.lean); close each card by the builder's one call (the guide's Derived/Test/ToyasCard.lean, 'card_holds'). Laid BY PROGRAM, IN A SANDBOX (cutbox-door.mjs). By AI agents, Wed Nov 11 2026. No macro, syntax, notation, axiom, sorry.
-/
import Derived.Test.YtojbphnkabfkpaaGreatDoorRows
import GoSem.ClaimSeven
namespace Go.Proofs.YtojbphnkabfkpaaGreatDoor
namespace Rows

/-- THE TIED CARD OF 'palinglaw13.RecordPlays'. -/
def recordPlaysCard : Claim7 := { stood := { row := recordPlaysRow, standIns := [], harness := (true, "c9ac608b21664e63eccecbc1da0ed8dd6f887f91dad588e8f9d38ba70c0f02fe"), looks := true }, kinds := [], alts := [], laidByText := true, laidKinds := [.data, .data, .data, .sentinel, .sentinel, .data, .data, .data, .mapped, .data, .widerDeep, .mapped], laidTests := true, laidLooks := .later }
def RecordPlaysCardSaid : Prop := Claim7.holds Tryz.pinned (.plain (OpenSpec.ofChange recordPlaysSpec)) recordPlaysCard

/-- THE TIED CARD OF 'palinglaw14.SealBrands'. -/
def sealBrandsCard : Claim7 := { stood := { row := sealBrandsRow, standIns := [], harness := (true, "c9ac608b21664e63eccecbc1da0ed8dd6f887f91dad588e8f9d38ba70c0f02fe"), looks := true }, kinds := [], alts := [], laidByText := true, laidKinds := [.data, .data, .data, .sentinel, .sentinel, .data, .data, .data, .mapped, .data, .widerDeep, .mapped], laidTests := true, laidLooks := .later }
def SealBrandsCardSaid : Prop := Claim7.holds Tryz.pinned (.plain (OpenSpec.ofChange sealBrandsSpec)) sealBrandsCard

/-- THE TIED CARD OF 'palinglaw15.WrapFull'. -/
def wrapFullCard : Claim7 := { stood := { row := wrapFullRow, standIns := [], harness := (true, "c9ac608b21664e63eccecbc1da0ed8dd6f887f91dad588e8f9d38ba70c0f02fe"), looks := true }, kinds := [], alts := [], laidByText := true, laidKinds := [.data, .data, .data, .sentinel, .sentinel, .data, .data, .data, .mapped, .data, .widerDeep, .mapped], laidTests := true, laidLooks := .later }
def WrapFullCardSaid : Prop := Claim7.holds Tryz.pinned (.plain (OpenSpec.ofChange wrapFullSpec)) wrapFullCard

/-- THE TIED CARD OF 'palinglaw15.WrapBack'. -/
def wrapBackCard : Claim7 := { stood := { row := wrapBackRow, standIns := [], harness := (true, "c9ac608b21664e63eccecbc1da0ed8dd6f887f91dad588e8f9d38ba70c0f02fe"), looks := true }, kinds := [], alts := [], laidByText := true, laidKinds := [.data, .data, .data, .sentinel, .sentinel, .data, .data, .data, .mapped, .data, .widerDeep, .mapped], laidTests := true, laidLooks := .later }
def WrapBackCardSaid : Prop := Claim7.holds Tryz.pinned (.plain (OpenSpec.ofChange wrapBackSpec)) wrapBackCard

/-- THE TIED CARD OF 'palinglaw15.WrapPasses'. -/
def wrapPassesCard : Claim7 := { stood := { row := wrapPassesRow, standIns := [], harness := (true, "c9ac608b21664e63eccecbc1da0ed8dd6f887f91dad588e8f9d38ba70c0f02fe"), looks := true }, kinds := [], alts := [], laidByText := true, laidKinds := [.data, .data, .data, .sentinel, .sentinel, .data, .data, .data, .mapped, .data, .widerDeep, .mapped], laidTests := true, laidLooks := .later }
def WrapPassesCardSaid : Prop := Claim7.holds Tryz.pinned (.plain (OpenSpec.ofChange wrapPassesSpec)) wrapPassesCard

/-- THE TIED CARD OF 'palinglaw16.FrameBacks'. -/
def frameBacksCard : Claim7 := { stood := { row := frameBacksRow, standIns := [], harness := (true, "c9ac608b21664e63eccecbc1da0ed8dd6f887f91dad588e8f9d38ba70c0f02fe"), looks := true }, kinds := [], alts := [], laidByText := true, laidKinds := [.data, .data, .data, .sentinel, .sentinel, .data, .data, .data, .mapped, .data, .widerDeep, .mapped], laidTests := true, laidLooks := .later }
def FrameBacksCardSaid : Prop := Claim7.holds Tryz.pinned (.plain (OpenSpec.ofChange frameBacksSpec)) frameBacksCard

/-- THE TIED CARD OF 'palinglaw16.FrameWorlds'. -/
def frameWorldsCard : Claim7 := { stood := { row := frameWorldsRow, standIns := [], harness := (true, "c9ac608b21664e63eccecbc1da0ed8dd6f887f91dad588e8f9d38ba70c0f02fe"), looks := true }, kinds := [], alts := [], laidByText := true, laidKinds := [.data, .data, .data, .sentinel, .sentinel, .data, .data, .data, .mapped, .data, .widerDeep, .mapped], laidTests := true, laidLooks := .later }
def FrameWorldsCardSaid : Prop := Claim7.holds Tryz.pinned (.plain (OpenSpec.ofChange frameWorldsSpec)) frameWorldsCard

/-- THE TIED CARD OF 'palinglaw16.FrameOf'. -/
def frameOfCard : Claim7 := { stood := { row := frameOfRow, standIns := [], harness := (true, "c9ac608b21664e63eccecbc1da0ed8dd6f887f91dad588e8f9d38ba70c0f02fe"), looks := true }, kinds := [], alts := [], laidByText := true, laidKinds := [.data, .data, .data, .sentinel, .sentinel, .data, .data, .data, .mapped, .data, .widerDeep, .mapped], laidTests := true, laidLooks := .later }
def FrameOfCardSaid : Prop := Claim7.holds Tryz.pinned (.plain (OpenSpec.ofChange frameOfSpec)) frameOfCard

/-- THE TIED CARD OF 'palinglaw16.FrameRoots'. -/
def frameRootsCard : Claim7 := { stood := { row := frameRootsRow, standIns := [], harness := (true, "c9ac608b21664e63eccecbc1da0ed8dd6f887f91dad588e8f9d38ba70c0f02fe"), looks := true }, kinds := [], alts := [], laidByText := true, laidKinds := [.data, .data, .data, .sentinel, .sentinel, .data, .data, .data, .mapped, .data, .widerDeep, .mapped], laidTests := true, laidLooks := .later }
def FrameRootsCardSaid : Prop := Claim7.holds Tryz.pinned (.plain (OpenSpec.ofChange frameRootsSpec)) frameRootsCard

/-- THE SECOND FORM's CARD OF 'palinglaw13.RecordPlays'. -/
def recordPlaysUptoCard : Claim7 := { stood := { row := recordPlaysUptoRow, standIns := [], harness := (true, "c9ac608b21664e63eccecbc1da0ed8dd6f887f91dad588e8f9d38ba70c0f02fe"), looks := true }, kinds := [], alts := [], laidByText := true, laidKinds := [.data, .data, .data, .sentinel, .sentinel, .data, .data, .data, .mapped, .data, .widerDeep, .mapped], laidTests := true, laidLooks := .later }
def RecordPlaysUptoCardSaid : Prop := Claim7.holds Tryz.pinned (.plain (OpenSpec.upto recordPlaysSpec)) recordPlaysUptoCard

/-- THE SECOND FORM's CARD OF 'palinglaw14.SealBrands'. -/
def sealBrandsUptoCard : Claim7 := { stood := { row := sealBrandsUptoRow, standIns := [], harness := (true, "c9ac608b21664e63eccecbc1da0ed8dd6f887f91dad588e8f9d38ba70c0f02fe"), looks := true }, kinds := [], alts := [], laidByText := true, laidKinds := [.data, .data, .data, .sentinel, .sentinel, .data, .data, .data, .mapped, .data, .widerDeep, .mapped], laidTests := true, laidLooks := .later }
def SealBrandsUptoCardSaid : Prop := Claim7.holds Tryz.pinned (.plain (OpenSpec.upto sealBrandsSpec)) sealBrandsUptoCard

/-- THE SECOND FORM's CARD OF 'palinglaw15.WrapFull'. -/
def wrapFullUptoCard : Claim7 := { stood := { row := wrapFullUptoRow, standIns := [], harness := (true, "c9ac608b21664e63eccecbc1da0ed8dd6f887f91dad588e8f9d38ba70c0f02fe"), looks := true }, kinds := [], alts := [], laidByText := true, laidKinds := [.data, .data, .data, .sentinel, .sentinel, .data, .data, .data, .mapped, .data, .widerDeep, .mapped], laidTests := true, laidLooks := .later }
def WrapFullUptoCardSaid : Prop := Claim7.holds Tryz.pinned (.plain (OpenSpec.upto wrapFullSpec)) wrapFullUptoCard

/-- THE SECOND FORM's CARD OF 'palinglaw15.WrapBack'. -/
def wrapBackUptoCard : Claim7 := { stood := { row := wrapBackUptoRow, standIns := [], harness := (true, "c9ac608b21664e63eccecbc1da0ed8dd6f887f91dad588e8f9d38ba70c0f02fe"), looks := true }, kinds := [], alts := [], laidByText := true, laidKinds := [.data, .data, .data, .sentinel, .sentinel, .data, .data, .data, .mapped, .data, .widerDeep, .mapped], laidTests := true, laidLooks := .later }
def WrapBackUptoCardSaid : Prop := Claim7.holds Tryz.pinned (.plain (OpenSpec.upto wrapBackSpec)) wrapBackUptoCard

/-- THE SECOND FORM's CARD OF 'palinglaw15.WrapPasses'. -/
def wrapPassesUptoCard : Claim7 := { stood := { row := wrapPassesUptoRow, standIns := [], harness := (true, "c9ac608b21664e63eccecbc1da0ed8dd6f887f91dad588e8f9d38ba70c0f02fe"), looks := true }, kinds := [], alts := [], laidByText := true, laidKinds := [.data, .data, .data, .sentinel, .sentinel, .data, .data, .data, .mapped, .data, .widerDeep, .mapped], laidTests := true, laidLooks := .later }
def WrapPassesUptoCardSaid : Prop := Claim7.holds Tryz.pinned (.plain (OpenSpec.upto wrapPassesSpec)) wrapPassesUptoCard

/-- THE SECOND FORM's CARD OF 'palinglaw16.FrameBacks'. -/
def frameBacksUptoCard : Claim7 := { stood := { row := frameBacksUptoRow, standIns := [], harness := (true, "c9ac608b21664e63eccecbc1da0ed8dd6f887f91dad588e8f9d38ba70c0f02fe"), looks := true }, kinds := [], alts := [], laidByText := true, laidKinds := [.data, .data, .data, .sentinel, .sentinel, .data, .data, .data, .mapped, .data, .widerDeep, .mapped], laidTests := true, laidLooks := .later }
def FrameBacksUptoCardSaid : Prop := Claim7.holds Tryz.pinned (.plain (OpenSpec.upto frameBacksSpec)) frameBacksUptoCard

/-- THE SECOND FORM's CARD OF 'palinglaw16.FrameWorlds'. -/
def frameWorldsUptoCard : Claim7 := { stood := { row := frameWorldsUptoRow, standIns := [], harness := (true, "c9ac608b21664e63eccecbc1da0ed8dd6f887f91dad588e8f9d38ba70c0f02fe"), looks := true }, kinds := [], alts := [], laidByText := true, laidKinds := [.data, .data, .data, .sentinel, .sentinel, .data, .data, .data, .mapped, .data, .widerDeep, .mapped], laidTests := true, laidLooks := .later }
def FrameWorldsUptoCardSaid : Prop := Claim7.holds Tryz.pinned (.plain (OpenSpec.upto frameWorldsSpec)) frameWorldsUptoCard

/-- THE SECOND FORM's CARD OF 'palinglaw16.FrameOf'. -/
def frameOfUptoCard : Claim7 := { stood := { row := frameOfUptoRow, standIns := [], harness := (true, "c9ac608b21664e63eccecbc1da0ed8dd6f887f91dad588e8f9d38ba70c0f02fe"), looks := true }, kinds := [], alts := [], laidByText := true, laidKinds := [.data, .data, .data, .sentinel, .sentinel, .data, .data, .data, .mapped, .data, .widerDeep, .mapped], laidTests := true, laidLooks := .later }
def FrameOfUptoCardSaid : Prop := Claim7.holds Tryz.pinned (.plain (OpenSpec.upto frameOfSpec)) frameOfUptoCard

/-- THE SECOND FORM's CARD OF 'palinglaw16.FrameRoots'. -/
def frameRootsUptoCard : Claim7 := { stood := { row := frameRootsUptoRow, standIns := [], harness := (true, "c9ac608b21664e63eccecbc1da0ed8dd6f887f91dad588e8f9d38ba70c0f02fe"), looks := true }, kinds := [], alts := [], laidByText := true, laidKinds := [.data, .data, .data, .sentinel, .sentinel, .data, .data, .data, .mapped, .data, .widerDeep, .mapped], laidTests := true, laidLooks := .later }
def FrameRootsUptoCardSaid : Prop := Claim7.holds Tryz.pinned (.plain (OpenSpec.upto frameRootsSpec)) frameRootsUptoCard
end Rows
end Go.Proofs.YtojbphnkabfkpaaGreatDoor

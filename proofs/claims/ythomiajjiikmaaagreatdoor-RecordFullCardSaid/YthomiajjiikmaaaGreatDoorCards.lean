/-
  DERIVED. GIVEN WITH THE SEED: THE CARDS: each row of YthomiajjiikmaaaGreatDoorRows.lean that lists a variable, with what it lists TIED to the program's text (the seventh form; the later family's looks); each row that meets fmt, with fmt's text TOLD by the authors' own Lean function (tested against real Go, not proved from fmt's source: count such statements apart). THE CARD IS WHAT COUNTS. Prove the row's statement (the work); the ties are given (YthomiajjiikmaaaGreatDoorTie.lean); close each card by the builder's one call (the guide's Derived/Test/ToyasCard.lean, 'card_holds'). Laid BY PROGRAM, IN A SANDBOX (cutbox-door.mjs). By AI agents, Wed Nov 11 2026. No macro, syntax, notation, axiom, sorry.
-/
import Derived.Test.YthomiajjiikmaaaGreatDoorRows
import GoSem.ClaimSeven
namespace Go.Proofs.YthomiajjiikmaaaGreatDoor
namespace Rows

/-- THE TIED CARD OF 'palinglaw11.ValidChecks'. -/
def validChecksCard : Claim7 := { stood := { row := validChecksRow, standIns := [], harness := (true, "3dfdeed01d92c5503de373fb072cba514abf58386144349fe5759cac2ed3b2a0"), looks := true }, kinds := [], alts := [], laidByText := true, laidKinds := [.data, .data, .data, .sentinel, .sentinel, .data, .data, .data, .mapped, .data, .widerDeep, .mapped], laidTests := true, laidLooks := .later }
def ValidChecksCardSaid : Prop := Claim7.holds Tryz.pinned (.plain (OpenSpec.ofChange validChecksSpec)) validChecksCard

/-- THE TIED CARD OF 'palinglaw11.ValidMany'. -/
def validManyCard : Claim7 := { stood := { row := validManyRow, standIns := [], harness := (true, "3dfdeed01d92c5503de373fb072cba514abf58386144349fe5759cac2ed3b2a0"), looks := true }, kinds := [], alts := [], laidByText := true, laidKinds := [.data, .data, .data, .sentinel, .sentinel, .data, .data, .data, .mapped, .data, .widerDeep, .mapped], laidTests := true, laidLooks := .later }
def ValidManyCardSaid : Prop := Claim7.holds Tryz.pinned (.plain (OpenSpec.ofChange validManySpec)) validManyCard

/-- THE TIED CARD OF 'palinglaw12.PrimTwo'. -/
def primTwoCard : Claim7 := { stood := { row := primTwoRow, standIns := [], harness := (true, "3dfdeed01d92c5503de373fb072cba514abf58386144349fe5759cac2ed3b2a0"), looks := true }, kinds := [], alts := [], laidByText := true, laidKinds := [.data, .data, .data, .sentinel, .sentinel, .data, .data, .data, .mapped, .data, .widerDeep, .mapped], laidTests := true, laidLooks := .later }
def PrimTwoCardSaid : Prop := Claim7.holds Tryz.pinned (.plain (OpenSpec.ofChange primTwoSpec)) primTwoCard

/-- THE TIED CARD OF 'palinglaw12.PrimTexts'. -/
def primTextsCard : Claim7 := { stood := { row := primTextsRow, standIns := [], harness := (true, "3dfdeed01d92c5503de373fb072cba514abf58386144349fe5759cac2ed3b2a0"), looks := true }, kinds := [], alts := [], laidByText := true, laidKinds := [.data, .data, .data, .sentinel, .sentinel, .data, .data, .data, .mapped, .data, .widerDeep, .mapped], laidTests := true, laidLooks := .later }
def PrimTextsCardSaid : Prop := Claim7.holds Tryz.pinned (.plain (OpenSpec.ofChange primTextsSpec)) primTextsCard

/-- THE TIED CARD OF 'palinglaw12.PrimRing'. -/
def primRingCard : Claim7 := { stood := { row := primRingRow, standIns := [], harness := (true, "3dfdeed01d92c5503de373fb072cba514abf58386144349fe5759cac2ed3b2a0"), looks := true }, kinds := [], alts := [], laidByText := true, laidKinds := [.data, .data, .data, .sentinel, .sentinel, .data, .data, .data, .mapped, .data, .widerDeep, .mapped], laidTests := true, laidLooks := .later }
def PrimRingCardSaid : Prop := Claim7.holds Tryz.pinned (.plain (OpenSpec.ofChange primRingSpec)) primRingCard

/-- THE TIED CARD OF 'palinglaw12.PrimOne'. -/
def primOneCard : Claim7 := { stood := { row := primOneRow, standIns := [], harness := (true, "3dfdeed01d92c5503de373fb072cba514abf58386144349fe5759cac2ed3b2a0"), looks := true }, kinds := [], alts := [], laidByText := true, laidKinds := [.data, .data, .data, .sentinel, .sentinel, .data, .data, .data, .mapped, .data, .widerDeep, .mapped], laidTests := true, laidLooks := .later }
def PrimOneCardSaid : Prop := Claim7.holds Tryz.pinned (.plain (OpenSpec.ofChange primOneSpec)) primOneCard

/-- THE TIED CARD OF 'palinglaw13.RecordFull'. -/
def recordFullCard : Claim7 := { stood := { row := recordFullRow, standIns := [], harness := (true, "3dfdeed01d92c5503de373fb072cba514abf58386144349fe5759cac2ed3b2a0"), looks := true }, kinds := [], alts := [], laidByText := true, laidKinds := [.data, .data, .data, .sentinel, .sentinel, .data, .data, .data, .mapped, .data, .widerDeep, .mapped], laidTests := true, laidLooks := .later }
def RecordFullCardSaid : Prop := Claim7.holds Tryz.pinned (.plain (OpenSpec.ofChange recordFullSpec)) recordFullCard

/-- THE TIED CARD OF 'palinglaw13.RecordApart'. -/
def recordApartCard : Claim7 := { stood := { row := recordApartRow, standIns := [], harness := (true, "3dfdeed01d92c5503de373fb072cba514abf58386144349fe5759cac2ed3b2a0"), looks := true }, kinds := [], alts := [], laidByText := true, laidKinds := [.data, .data, .data, .sentinel, .sentinel, .data, .data, .data, .mapped, .data, .widerDeep, .mapped], laidTests := true, laidLooks := .later }
def RecordApartCardSaid : Prop := Claim7.holds Tryz.pinned (.plain (OpenSpec.ofChange recordApartSpec)) recordApartCard

/-- THE TIED CARD OF 'palinglaw13.RecordPlays'. -/
def recordPlaysCard : Claim7 := { stood := { row := recordPlaysRow, standIns := [], harness := (true, "3dfdeed01d92c5503de373fb072cba514abf58386144349fe5759cac2ed3b2a0"), looks := true }, kinds := [], alts := [], laidByText := true, laidKinds := [.data, .data, .data, .sentinel, .sentinel, .data, .data, .data, .mapped, .data, .widerDeep, .mapped], laidTests := true, laidLooks := .later }
def RecordPlaysCardSaid : Prop := Claim7.holds Tryz.pinned (.plain (OpenSpec.ofChange recordPlaysSpec)) recordPlaysCard

/-- THE TIED CARD OF 'palinglaw13.RecordOthers'. -/
def recordOthersCard : Claim7 := { stood := { row := recordOthersRow, standIns := [], harness := (true, "3dfdeed01d92c5503de373fb072cba514abf58386144349fe5759cac2ed3b2a0"), looks := true }, kinds := [], alts := [], laidByText := true, laidKinds := [.data, .data, .data, .sentinel, .sentinel, .data, .data, .data, .mapped, .data, .widerDeep, .mapped], laidTests := true, laidLooks := .later }
def RecordOthersCardSaid : Prop := Claim7.holds Tryz.pinned (.plain (OpenSpec.ofChange recordOthersSpec)) recordOthersCard

/-- THE TIED CARD OF 'palinglaw14.SealBrands'. -/
def sealBrandsCard : Claim7 := { stood := { row := sealBrandsRow, standIns := [], harness := (true, "3dfdeed01d92c5503de373fb072cba514abf58386144349fe5759cac2ed3b2a0"), looks := true }, kinds := [], alts := [], laidByText := true, laidKinds := [.data, .data, .data, .sentinel, .sentinel, .data, .data, .data, .mapped, .data, .widerDeep, .mapped], laidTests := true, laidLooks := .later }
def SealBrandsCardSaid : Prop := Claim7.holds Tryz.pinned (.plain (OpenSpec.ofChange sealBrandsSpec)) sealBrandsCard

/-- THE TIED CARD OF 'palinglaw14.SealOthers'. -/
def sealOthersCard : Claim7 := { stood := { row := sealOthersRow, standIns := [], harness := (true, "3dfdeed01d92c5503de373fb072cba514abf58386144349fe5759cac2ed3b2a0"), looks := true }, kinds := [], alts := [], laidByText := true, laidKinds := [.data, .data, .data, .sentinel, .sentinel, .data, .data, .data, .mapped, .data, .widerDeep, .mapped], laidTests := true, laidLooks := .later }
def SealOthersCardSaid : Prop := Claim7.holds Tryz.pinned (.plain (OpenSpec.ofChange sealOthersSpec)) sealOthersCard

/-- THE SECOND FORM's CARD OF 'palinglaw11.ValidChecks'. -/
def validChecksUptoCard : Claim7 := { stood := { row := validChecksUptoRow, standIns := [], harness := (true, "3dfdeed01d92c5503de373fb072cba514abf58386144349fe5759cac2ed3b2a0"), looks := true }, kinds := [], alts := [], laidByText := true, laidKinds := [.data, .data, .data, .sentinel, .sentinel, .data, .data, .data, .mapped, .data, .widerDeep, .mapped], laidTests := true, laidLooks := .later }
def ValidChecksUptoCardSaid : Prop := Claim7.holds Tryz.pinned (.plain (OpenSpec.upto validChecksSpec)) validChecksUptoCard

/-- THE SECOND FORM's CARD OF 'palinglaw11.ValidMany'. -/
def validManyUptoCard : Claim7 := { stood := { row := validManyUptoRow, standIns := [], harness := (true, "3dfdeed01d92c5503de373fb072cba514abf58386144349fe5759cac2ed3b2a0"), looks := true }, kinds := [], alts := [], laidByText := true, laidKinds := [.data, .data, .data, .sentinel, .sentinel, .data, .data, .data, .mapped, .data, .widerDeep, .mapped], laidTests := true, laidLooks := .later }
def ValidManyUptoCardSaid : Prop := Claim7.holds Tryz.pinned (.plain (OpenSpec.upto validManySpec)) validManyUptoCard

/-- THE SECOND FORM's CARD OF 'palinglaw12.PrimTwo'. -/
def primTwoUptoCard : Claim7 := { stood := { row := primTwoUptoRow, standIns := [], harness := (true, "3dfdeed01d92c5503de373fb072cba514abf58386144349fe5759cac2ed3b2a0"), looks := true }, kinds := [], alts := [], laidByText := true, laidKinds := [.data, .data, .data, .sentinel, .sentinel, .data, .data, .data, .mapped, .data, .widerDeep, .mapped], laidTests := true, laidLooks := .later }
def PrimTwoUptoCardSaid : Prop := Claim7.holds Tryz.pinned (.plain (OpenSpec.upto primTwoSpec)) primTwoUptoCard

/-- THE SECOND FORM's CARD OF 'palinglaw12.PrimTexts'. -/
def primTextsUptoCard : Claim7 := { stood := { row := primTextsUptoRow, standIns := [], harness := (true, "3dfdeed01d92c5503de373fb072cba514abf58386144349fe5759cac2ed3b2a0"), looks := true }, kinds := [], alts := [], laidByText := true, laidKinds := [.data, .data, .data, .sentinel, .sentinel, .data, .data, .data, .mapped, .data, .widerDeep, .mapped], laidTests := true, laidLooks := .later }
def PrimTextsUptoCardSaid : Prop := Claim7.holds Tryz.pinned (.plain (OpenSpec.upto primTextsSpec)) primTextsUptoCard

/-- THE SECOND FORM's CARD OF 'palinglaw12.PrimRing'. -/
def primRingUptoCard : Claim7 := { stood := { row := primRingUptoRow, standIns := [], harness := (true, "3dfdeed01d92c5503de373fb072cba514abf58386144349fe5759cac2ed3b2a0"), looks := true }, kinds := [], alts := [], laidByText := true, laidKinds := [.data, .data, .data, .sentinel, .sentinel, .data, .data, .data, .mapped, .data, .widerDeep, .mapped], laidTests := true, laidLooks := .later }
def PrimRingUptoCardSaid : Prop := Claim7.holds Tryz.pinned (.plain (OpenSpec.upto primRingSpec)) primRingUptoCard

/-- THE SECOND FORM's CARD OF 'palinglaw12.PrimOne'. -/
def primOneUptoCard : Claim7 := { stood := { row := primOneUptoRow, standIns := [], harness := (true, "3dfdeed01d92c5503de373fb072cba514abf58386144349fe5759cac2ed3b2a0"), looks := true }, kinds := [], alts := [], laidByText := true, laidKinds := [.data, .data, .data, .sentinel, .sentinel, .data, .data, .data, .mapped, .data, .widerDeep, .mapped], laidTests := true, laidLooks := .later }
def PrimOneUptoCardSaid : Prop := Claim7.holds Tryz.pinned (.plain (OpenSpec.upto primOneSpec)) primOneUptoCard

/-- THE SECOND FORM's CARD OF 'palinglaw13.RecordFull'. -/
def recordFullUptoCard : Claim7 := { stood := { row := recordFullUptoRow, standIns := [], harness := (true, "3dfdeed01d92c5503de373fb072cba514abf58386144349fe5759cac2ed3b2a0"), looks := true }, kinds := [], alts := [], laidByText := true, laidKinds := [.data, .data, .data, .sentinel, .sentinel, .data, .data, .data, .mapped, .data, .widerDeep, .mapped], laidTests := true, laidLooks := .later }
def RecordFullUptoCardSaid : Prop := Claim7.holds Tryz.pinned (.plain (OpenSpec.upto recordFullSpec)) recordFullUptoCard

/-- THE SECOND FORM's CARD OF 'palinglaw13.RecordApart'. -/
def recordApartUptoCard : Claim7 := { stood := { row := recordApartUptoRow, standIns := [], harness := (true, "3dfdeed01d92c5503de373fb072cba514abf58386144349fe5759cac2ed3b2a0"), looks := true }, kinds := [], alts := [], laidByText := true, laidKinds := [.data, .data, .data, .sentinel, .sentinel, .data, .data, .data, .mapped, .data, .widerDeep, .mapped], laidTests := true, laidLooks := .later }
def RecordApartUptoCardSaid : Prop := Claim7.holds Tryz.pinned (.plain (OpenSpec.upto recordApartSpec)) recordApartUptoCard

/-- THE SECOND FORM's CARD OF 'palinglaw13.RecordPlays'. -/
def recordPlaysUptoCard : Claim7 := { stood := { row := recordPlaysUptoRow, standIns := [], harness := (true, "3dfdeed01d92c5503de373fb072cba514abf58386144349fe5759cac2ed3b2a0"), looks := true }, kinds := [], alts := [], laidByText := true, laidKinds := [.data, .data, .data, .sentinel, .sentinel, .data, .data, .data, .mapped, .data, .widerDeep, .mapped], laidTests := true, laidLooks := .later }
def RecordPlaysUptoCardSaid : Prop := Claim7.holds Tryz.pinned (.plain (OpenSpec.upto recordPlaysSpec)) recordPlaysUptoCard

/-- THE SECOND FORM's CARD OF 'palinglaw13.RecordOthers'. -/
def recordOthersUptoCard : Claim7 := { stood := { row := recordOthersUptoRow, standIns := [], harness := (true, "3dfdeed01d92c5503de373fb072cba514abf58386144349fe5759cac2ed3b2a0"), looks := true }, kinds := [], alts := [], laidByText := true, laidKinds := [.data, .data, .data, .sentinel, .sentinel, .data, .data, .data, .mapped, .data, .widerDeep, .mapped], laidTests := true, laidLooks := .later }
def RecordOthersUptoCardSaid : Prop := Claim7.holds Tryz.pinned (.plain (OpenSpec.upto recordOthersSpec)) recordOthersUptoCard

/-- THE SECOND FORM's CARD OF 'palinglaw14.SealBrands'. -/
def sealBrandsUptoCard : Claim7 := { stood := { row := sealBrandsUptoRow, standIns := [], harness := (true, "3dfdeed01d92c5503de373fb072cba514abf58386144349fe5759cac2ed3b2a0"), looks := true }, kinds := [], alts := [], laidByText := true, laidKinds := [.data, .data, .data, .sentinel, .sentinel, .data, .data, .data, .mapped, .data, .widerDeep, .mapped], laidTests := true, laidLooks := .later }
def SealBrandsUptoCardSaid : Prop := Claim7.holds Tryz.pinned (.plain (OpenSpec.upto sealBrandsSpec)) sealBrandsUptoCard

/-- THE SECOND FORM's CARD OF 'palinglaw14.SealOthers'. -/
def sealOthersUptoCard : Claim7 := { stood := { row := sealOthersUptoRow, standIns := [], harness := (true, "3dfdeed01d92c5503de373fb072cba514abf58386144349fe5759cac2ed3b2a0"), looks := true }, kinds := [], alts := [], laidByText := true, laidKinds := [.data, .data, .data, .sentinel, .sentinel, .data, .data, .data, .mapped, .data, .widerDeep, .mapped], laidTests := true, laidLooks := .later }
def SealOthersUptoCardSaid : Prop := Claim7.holds Tryz.pinned (.plain (OpenSpec.upto sealOthersSpec)) sealOthersUptoCard
end Rows
end Go.Proofs.YthomiajjiikmaaaGreatDoor

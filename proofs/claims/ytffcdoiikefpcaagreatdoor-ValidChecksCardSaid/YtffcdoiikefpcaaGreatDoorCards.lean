/-
  DERIVED. GIVEN WITH THE SEED: THE CARDS: each row of YtffcdoiikefpcaaGreatDoorRows.lean that lists a variable, with what it lists TIED to the program's text (the seventh form; the later family's looks); each row that meets fmt, with fmt's text TOLD by the authors' own Lean function (tested against real Go, not proved from fmt's source: count such statements apart). THE CARD IS WHAT COUNTS. Prove the row's statement (the work); the ties are given (YtffcdoiikefpcaaGreatDoorTie.lean); close each card by the builder's one call (the guide's Derived/Test/ToyasCard.lean, 'card_holds'). Laid BY PROGRAM, IN A SANDBOX (cutbox-door.mjs). By AI agents, Wed Nov 11 2026. No macro, syntax, notation, axiom, sorry.
-/
import Derived.Test.YtffcdoiikefpcaaGreatDoorRows
import GoSem.ClaimSeven
namespace Go.Proofs.YtffcdoiikefpcaaGreatDoor
namespace Rows

/-- THE TIED CARD OF 'palinglaw11.ValidChecks'. -/
def validChecksCard : Claim7 := { stood := { row := validChecksRow, standIns := [], harness := (true, "9009cc5fd925804bde06e5e04f42af737455de33d891d87758bb3c4e5ca03abb"), looks := true }, kinds := [], alts := [], laidByText := true, laidKinds := [.data, .data, .data, .sentinel, .sentinel, .data, .data, .data, .mapped, .data, .widerDeep, .mapped], laidTests := true, laidLooks := .later }
def ValidChecksCardSaid : Prop := Claim7.holds Tryz.pinned (.plain (OpenSpec.ofChange validChecksSpec)) validChecksCard

/-- THE TIED CARD OF 'palinglaw11.ValidMany'. -/
def validManyCard : Claim7 := { stood := { row := validManyRow, standIns := [], harness := (true, "9009cc5fd925804bde06e5e04f42af737455de33d891d87758bb3c4e5ca03abb"), looks := true }, kinds := [], alts := [], laidByText := true, laidKinds := [.data, .data, .data, .sentinel, .sentinel, .data, .data, .data, .mapped, .data, .widerDeep, .mapped], laidTests := true, laidLooks := .later }
def ValidManyCardSaid : Prop := Claim7.holds Tryz.pinned (.plain (OpenSpec.ofChange validManySpec)) validManyCard

/-- THE SECOND FORM's CARD OF 'palinglaw11.ValidChecks'. -/
def validChecksUptoCard : Claim7 := { stood := { row := validChecksUptoRow, standIns := [], harness := (true, "9009cc5fd925804bde06e5e04f42af737455de33d891d87758bb3c4e5ca03abb"), looks := true }, kinds := [], alts := [], laidByText := true, laidKinds := [.data, .data, .data, .sentinel, .sentinel, .data, .data, .data, .mapped, .data, .widerDeep, .mapped], laidTests := true, laidLooks := .later }
def ValidChecksUptoCardSaid : Prop := Claim7.holds Tryz.pinned (.plain (OpenSpec.upto validChecksSpec)) validChecksUptoCard

/-- THE SECOND FORM's CARD OF 'palinglaw11.ValidMany'. -/
def validManyUptoCard : Claim7 := { stood := { row := validManyUptoRow, standIns := [], harness := (true, "9009cc5fd925804bde06e5e04f42af737455de33d891d87758bb3c4e5ca03abb"), looks := true }, kinds := [], alts := [], laidByText := true, laidKinds := [.data, .data, .data, .sentinel, .sentinel, .data, .data, .data, .mapped, .data, .widerDeep, .mapped], laidTests := true, laidLooks := .later }
def ValidManyUptoCardSaid : Prop := Claim7.holds Tryz.pinned (.plain (OpenSpec.upto validManySpec)) validManyUptoCard
end Rows
end Go.Proofs.YtffcdoiikefpcaaGreatDoor

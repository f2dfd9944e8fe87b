/-
  DERIVED. GIVEN WITH THE SEED: THE CARDS: each row of YtkcljohkcpdfaaaGreatDoorRows.lean that lists a variable, with what it lists TIED to the program's text (the seventh form; the later family's looks); each row that meets fmt, with fmt's text TOLD by the authors' own Lean function (tested against real Go, not proved from fmt's source: count such statements apart). THE CARD IS WHAT COUNTS. Prove the row's statement (the work); the ties are given (YtkcljohkcpdfaaaGreatDoorTie.lean); close each card by the builder's one call (the guide's Derived/Test/ToyasCard.lean, 'card_holds'). Laid BY PROGRAM, IN A SANDBOX (cutbox-door.mjs). By AI agents, Wed Nov 11 2026. No macro, syntax, notation, axiom, sorry.
-/
import Derived.Test.YtkcljohkcpdfaaaGreatDoorRows
import GoSem.ClaimSeven
namespace Go.Proofs.YtkcljohkcpdfaaaGreatDoor
namespace Rows

/-- THE TIED CARD OF 'palinglaw19.GraphTurns'. -/
def graphTurnsCard : Claim7 := { stood := { row := graphTurnsRow, standIns := [], harness := (true, "a386fe3b9cac483c7f64839f3eaea23499dd8a1ffcd0e2b81b6c13ce0ff7c7ce"), looks := true }, kinds := [], alts := [], laidByText := true, laidKinds := [.data, .data, .data, .sentinel, .sentinel, .data, .mapped, .data, .data, .data, .data, .mapped, .data, .widerDeep, .mapped], laidTests := true, laidLooks := .later }
def GraphTurnsCardSaid : Prop := Claim7.holds Tryz.pinned (.plain (OpenSpec.ofChange graphTurnsSpec)) graphTurnsCard

/-- THE TIED CARD OF 'palinglaw19.GraphDead'. -/
def graphDeadCard : Claim7 := { stood := { row := graphDeadRow, standIns := [], harness := (true, "a386fe3b9cac483c7f64839f3eaea23499dd8a1ffcd0e2b81b6c13ce0ff7c7ce"), looks := true }, kinds := [], alts := [], laidByText := true, laidKinds := [.data, .data, .data, .sentinel, .sentinel, .data, .mapped, .data, .data, .data, .data, .mapped, .data, .widerDeep, .mapped], laidTests := true, laidLooks := .later }
def GraphDeadCardSaid : Prop := Claim7.holds Tryz.pinned (.plain (OpenSpec.ofChange graphDeadSpec)) graphDeadCard

/-- THE SECOND FORM's CARD OF 'palinglaw19.GraphTurns'. -/
def graphTurnsUptoCard : Claim7 := { stood := { row := graphTurnsUptoRow, standIns := [], harness := (true, "a386fe3b9cac483c7f64839f3eaea23499dd8a1ffcd0e2b81b6c13ce0ff7c7ce"), looks := true }, kinds := [], alts := [], laidByText := true, laidKinds := [.data, .data, .data, .sentinel, .sentinel, .data, .mapped, .data, .data, .data, .data, .mapped, .data, .widerDeep, .mapped], laidTests := true, laidLooks := .later }
def GraphTurnsUptoCardSaid : Prop := Claim7.holds Tryz.pinned (.plain (OpenSpec.upto graphTurnsSpec)) graphTurnsUptoCard

/-- THE SECOND FORM's CARD OF 'palinglaw19.GraphDead'. -/
def graphDeadUptoCard : Claim7 := { stood := { row := graphDeadUptoRow, standIns := [], harness := (true, "a386fe3b9cac483c7f64839f3eaea23499dd8a1ffcd0e2b81b6c13ce0ff7c7ce"), looks := true }, kinds := [], alts := [], laidByText := true, laidKinds := [.data, .data, .data, .sentinel, .sentinel, .data, .mapped, .data, .data, .data, .data, .mapped, .data, .widerDeep, .mapped], laidTests := true, laidLooks := .later }
def GraphDeadUptoCardSaid : Prop := Claim7.holds Tryz.pinned (.plain (OpenSpec.upto graphDeadSpec)) graphDeadUptoCard
end Rows
end Go.Proofs.YtkcljohkcpdfaaaGreatDoor

/-
  DERIVED. GIVEN WITH THE SEED: THE CARDS: each row of YtdgeilfopkbacaaGreatDoorRows.lean that lists a variable, with what it lists TIED to the program's text (the seventh form; the later family's looks); each row that meets fmt, with fmt's text TOLD by the authors' own Lean function (tested against real Go, not proved from fmt's source: count such statements apart). THE CARD IS WHAT COUNTS. Prove the row's statement (the work); the ties are given (YtdgeilfopkbacaaGreatDoorTie.lean); close each card by the builder's one call (the guide's Derived/Test/ToyasCard.lean, 'card_holds'). Laid BY PROGRAM, IN A SANDBOX (cutbox-door.mjs). By AI agents, Wed Nov 11 2026. No macro, syntax, notation, axiom, sorry.
-/
import Derived.Test.YtdgeilfopkbacaaGreatDoorRows
import GoSem.ClaimSeven
namespace Go.Proofs.YtdgeilfopkbacaaGreatDoor
namespace Rows

/-- THE TIED CARD OF 'palinglaw15.WrapSides'. -/
def wrapSidesCard : Claim7 := { stood := { row := wrapSidesRow, standIns := [], harness := (true, "068face221bef3ef85270cfcc9956c9f1a07a14bfcda0f6a460f262008e501d2"), looks := true }, kinds := [], alts := [], laidByText := true, laidKinds := [.data, .data, .data, .sentinel, .sentinel, .data, .data, .data, .mapped, .data, .widerDeep, .mapped], laidTests := true, laidLooks := .later }
def WrapSidesCardSaid : Prop := Claim7.holds Tryz.pinned (.plain (OpenSpec.ofChange wrapSidesSpec)) wrapSidesCard

/-- THE TIED CARD OF 'palinglaw15.WrapFull'. -/
def wrapFullCard : Claim7 := { stood := { row := wrapFullRow, standIns := [], harness := (true, "068face221bef3ef85270cfcc9956c9f1a07a14bfcda0f6a460f262008e501d2"), looks := true }, kinds := [], alts := [], laidByText := true, laidKinds := [.data, .data, .data, .sentinel, .sentinel, .data, .data, .data, .mapped, .data, .widerDeep, .mapped], laidTests := true, laidLooks := .later }
def WrapFullCardSaid : Prop := Claim7.holds Tryz.pinned (.plain (OpenSpec.ofChange wrapFullSpec)) wrapFullCard

/-- THE TIED CARD OF 'palinglaw16.FrameWorlds'. -/
def frameWorldsCard : Claim7 := { stood := { row := frameWorldsRow, standIns := [], harness := (true, "068face221bef3ef85270cfcc9956c9f1a07a14bfcda0f6a460f262008e501d2"), looks := true }, kinds := [], alts := [], laidByText := true, laidKinds := [.data, .data, .data, .sentinel, .sentinel, .data, .data, .data, .mapped, .data, .widerDeep, .mapped], laidTests := true, laidLooks := .later }
def FrameWorldsCardSaid : Prop := Claim7.holds Tryz.pinned (.plain (OpenSpec.ofChange frameWorldsSpec)) frameWorldsCard

/-- THE TIED CARD OF 'palinglaw16.FrameOf'. -/
def frameOfCard : Claim7 := { stood := { row := frameOfRow, standIns := [], harness := (true, "068face221bef3ef85270cfcc9956c9f1a07a14bfcda0f6a460f262008e501d2"), looks := true }, kinds := [], alts := [], laidByText := true, laidKinds := [.data, .data, .data, .sentinel, .sentinel, .data, .data, .data, .mapped, .data, .widerDeep, .mapped], laidTests := true, laidLooks := .later }
def FrameOfCardSaid : Prop := Claim7.holds Tryz.pinned (.plain (OpenSpec.ofChange frameOfSpec)) frameOfCard

/-- THE TIED CARD OF 'palinglaw17.MachineErrors'. -/
def machineErrorsCard : Claim7 := { stood := { row := machineErrorsRow, standIns := [], harness := (true, "068face221bef3ef85270cfcc9956c9f1a07a14bfcda0f6a460f262008e501d2"), looks := true }, kinds := [], alts := [], laidByText := true, laidKinds := [.data, .data, .data, .sentinel, .sentinel, .data, .mapped, .data, .data, .data, .data, .mapped, .data, .widerDeep, .mapped], laidTests := true, laidLooks := .later }
def MachineErrorsCardSaid : Prop := Claim7.holds Tryz.pinned (.plain (OpenSpec.ofChange machineErrorsSpec)) machineErrorsCard

/-- THE TIED CARD OF 'palinglaw17.MachineSums'. -/
def machineSumsCard : Claim7 := { stood := { row := machineSumsRow, standIns := [], harness := (true, "068face221bef3ef85270cfcc9956c9f1a07a14bfcda0f6a460f262008e501d2"), looks := true }, kinds := [], alts := [], laidByText := true, laidKinds := [.data, .data, .data, .sentinel, .sentinel, .data, .mapped, .data, .data, .data, .data, .mapped, .data, .widerDeep, .mapped], laidTests := true, laidLooks := .later }
def MachineSumsCardSaid : Prop := Claim7.holds Tryz.pinned (.plain (OpenSpec.ofChange machineSumsSpec)) machineSumsCard

/-- THE TIED CARD OF 'palinglaw17.MachineHolds'. -/
def machineHoldsCard : Claim7 := { stood := { row := machineHoldsRow, standIns := [], harness := (true, "068face221bef3ef85270cfcc9956c9f1a07a14bfcda0f6a460f262008e501d2"), looks := true }, kinds := [], alts := [], laidByText := true, laidKinds := [.data, .data, .data, .sentinel, .sentinel, .data, .mapped, .data, .data, .data, .data, .mapped, .data, .widerDeep, .mapped], laidTests := true, laidLooks := .later }
def MachineHoldsCardSaid : Prop := Claim7.holds Tryz.pinned (.plain (OpenSpec.ofChange machineHoldsSpec)) machineHoldsCard

/-- THE TIED CARD OF 'palinglaw19.GraphTurns'. -/
def graphTurnsCard : Claim7 := { stood := { row := graphTurnsRow, standIns := [], harness := (true, "068face221bef3ef85270cfcc9956c9f1a07a14bfcda0f6a460f262008e501d2"), looks := true }, kinds := [], alts := [], laidByText := true, laidKinds := [.data, .data, .data, .sentinel, .sentinel, .data, .mapped, .data, .data, .data, .data, .mapped, .data, .widerDeep, .mapped], laidTests := true, laidLooks := .later }
def GraphTurnsCardSaid : Prop := Claim7.holds Tryz.pinned (.plain (OpenSpec.ofChange graphTurnsSpec)) graphTurnsCard

/-- THE TIED CARD OF 'palinglaw19.GraphDead'. -/
def graphDeadCard : Claim7 := { stood := { row := graphDeadRow, standIns := [], harness := (true, "068face221bef3ef85270cfcc9956c9f1a07a14bfcda0f6a460f262008e501d2"), looks := true }, kinds := [], alts := [], laidByText := true, laidKinds := [.data, .data, .data, .sentinel, .sentinel, .data, .mapped, .data, .data, .data, .data, .mapped, .data, .widerDeep, .mapped], laidTests := true, laidLooks := .later }
def GraphDeadCardSaid : Prop := Claim7.holds Tryz.pinned (.plain (OpenSpec.ofChange graphDeadSpec)) graphDeadCard

/-- THE TIED CARD OF 'palinglaw20.HostLimits'. -/
def hostLimitsCard : Claim7 := { stood := { row := hostLimitsRow, standIns := [], harness := (true, "068face221bef3ef85270cfcc9956c9f1a07a14bfcda0f6a460f262008e501d2"), looks := true }, kinds := [], alts := [], laidByText := true, laidKinds := [.data, .data, .data, .sentinel, .sentinel, .data, .mapped, .data, .data, .data, .data, .mapped, .data, .widerDeep, .mapped], laidTests := true, laidLooks := .later }
def HostLimitsCardSaid : Prop := Claim7.holds Tryz.pinned (.plain (OpenSpec.ofChange hostLimitsSpec)) hostLimitsCard

/-- THE TIED CARD OF 'palinglaw20.HostGives'. -/
def hostGivesCard : Claim7 := { stood := { row := hostGivesRow, standIns := [], harness := (true, "068face221bef3ef85270cfcc9956c9f1a07a14bfcda0f6a460f262008e501d2"), looks := true }, kinds := [], alts := [], laidByText := true, laidKinds := [.data, .data, .data, .sentinel, .sentinel, .data, .mapped, .data, .data, .data, .data, .mapped, .data, .widerDeep, .mapped], laidTests := true, laidLooks := .later }
def HostGivesCardSaid : Prop := Claim7.holds Tryz.pinned (.plain (OpenSpec.ofChange hostGivesSpec)) hostGivesCard

/-- THE TIED CARD OF 'palinglaw20.HostHandles'. -/
def hostHandlesCard : Claim7 := { stood := { row := hostHandlesRow, standIns := [], harness := (true, "068face221bef3ef85270cfcc9956c9f1a07a14bfcda0f6a460f262008e501d2"), looks := true }, kinds := [], alts := [], laidByText := true, laidKinds := [.data, .data, .data, .data, .sentinel, .sentinel, .data, .mapped, .data, .data, .data, .data, .mapped, .data, .widerDeep, .mapped, .pinned, .pinned, .pinned, .pinned, .pinned, .pinned], laidTests := true, laidLooks := .later }
def HostHandlesCardSaid : Prop := Claim7.holds Tryz.pinned (.plain (OpenSpec.ofChange hostHandlesSpec)) hostHandlesCard

/-- THE SECOND FORM's CARD OF 'palinglaw15.WrapSides'. -/
def wrapSidesUptoCard : Claim7 := { stood := { row := wrapSidesUptoRow, standIns := [], harness := (true, "068face221bef3ef85270cfcc9956c9f1a07a14bfcda0f6a460f262008e501d2"), looks := true }, kinds := [], alts := [], laidByText := true, laidKinds := [.data, .data, .data, .sentinel, .sentinel, .data, .data, .data, .mapped, .data, .widerDeep, .mapped], laidTests := true, laidLooks := .later }
def WrapSidesUptoCardSaid : Prop := Claim7.holds Tryz.pinned (.plain (OpenSpec.upto wrapSidesSpec)) wrapSidesUptoCard

/-- THE SECOND FORM's CARD OF 'palinglaw15.WrapFull'. -/
def wrapFullUptoCard : Claim7 := { stood := { row := wrapFullUptoRow, standIns := [], harness := (true, "068face221bef3ef85270cfcc9956c9f1a07a14bfcda0f6a460f262008e501d2"), looks := true }, kinds := [], alts := [], laidByText := true, laidKinds := [.data, .data, .data, .sentinel, .sentinel, .data, .data, .data, .mapped, .data, .widerDeep, .mapped], laidTests := true, laidLooks := .later }
def WrapFullUptoCardSaid : Prop := Claim7.holds Tryz.pinned (.plain (OpenSpec.upto wrapFullSpec)) wrapFullUptoCard

/-- THE SECOND FORM's CARD OF 'palinglaw16.FrameWorlds'. -/
def frameWorldsUptoCard : Claim7 := { stood := { row := frameWorldsUptoRow, standIns := [], harness := (true, "068face221bef3ef85270cfcc9956c9f1a07a14bfcda0f6a460f262008e501d2"), looks := true }, kinds := [], alts := [], laidByText := true, laidKinds := [.data, .data, .data, .sentinel, .sentinel, .data, .data, .data, .mapped, .data, .widerDeep, .mapped], laidTests := true, laidLooks := .later }
def FrameWorldsUptoCardSaid : Prop := Claim7.holds Tryz.pinned (.plain (OpenSpec.upto frameWorldsSpec)) frameWorldsUptoCard

/-- THE SECOND FORM's CARD OF 'palinglaw16.FrameOf'. -/
def frameOfUptoCard : Claim7 := { stood := { row := frameOfUptoRow, standIns := [], harness := (true, "068face221bef3ef85270cfcc9956c9f1a07a14bfcda0f6a460f262008e501d2"), looks := true }, kinds := [], alts := [], laidByText := true, laidKinds := [.data, .data, .data, .sentinel, .sentinel, .data, .data, .data, .mapped, .data, .widerDeep, .mapped], laidTests := true, laidLooks := .later }
def FrameOfUptoCardSaid : Prop := Claim7.holds Tryz.pinned (.plain (OpenSpec.upto frameOfSpec)) frameOfUptoCard

/-- THE SECOND FORM's CARD OF 'palinglaw17.MachineErrors'. -/
def machineErrorsUptoCard : Claim7 := { stood := { row := machineErrorsUptoRow, standIns := [], harness := (true, "068face221bef3ef85270cfcc9956c9f1a07a14bfcda0f6a460f262008e501d2"), looks := true }, kinds := [], alts := [], laidByText := true, laidKinds := [.data, .data, .data, .sentinel, .sentinel, .data, .mapped, .data, .data, .data, .data, .mapped, .data, .widerDeep, .mapped], laidTests := true, laidLooks := .later }
def MachineErrorsUptoCardSaid : Prop := Claim7.holds Tryz.pinned (.plain (OpenSpec.upto machineErrorsSpec)) machineErrorsUptoCard

/-- THE SECOND FORM's CARD OF 'palinglaw17.MachineSums'. -/
def machineSumsUptoCard : Claim7 := { stood := { row := machineSumsUptoRow, standIns := [], harness := (true, "068face221bef3ef85270cfcc9956c9f1a07a14bfcda0f6a460f262008e501d2"), looks := true }, kinds := [], alts := [], laidByText := true, laidKinds := [.data, .data, .data, .sentinel, .sentinel, .data, .mapped, .data, .data, .data, .data, .mapped, .data, .widerDeep, .mapped], laidTests := true, laidLooks := .later }
def MachineSumsUptoCardSaid : Prop := Claim7.holds Tryz.pinned (.plain (OpenSpec.upto machineSumsSpec)) machineSumsUptoCard

/-- THE SECOND FORM's CARD OF 'palinglaw17.MachineHolds'. -/
def machineHoldsUptoCard : Claim7 := { stood := { row := machineHoldsUptoRow, standIns := [], harness := (true, "068face221bef3ef85270cfcc9956c9f1a07a14bfcda0f6a460f262008e501d2"), looks := true }, kinds := [], alts := [], laidByText := true, laidKinds := [.data, .data, .data, .sentinel, .sentinel, .data, .mapped, .data, .data, .data, .data, .mapped, .data, .widerDeep, .mapped], laidTests := true, laidLooks := .later }
def MachineHoldsUptoCardSaid : Prop := Claim7.holds Tryz.pinned (.plain (OpenSpec.upto machineHoldsSpec)) machineHoldsUptoCard

/-- THE SECOND FORM's CARD OF 'palinglaw19.GraphTurns'. -/
def graphTurnsUptoCard : Claim7 := { stood := { row := graphTurnsUptoRow, standIns := [], harness := (true, "068face221bef3ef85270cfcc9956c9f1a07a14bfcda0f6a460f262008e501d2"), looks := true }, kinds := [], alts := [], laidByText := true, laidKinds := [.data, .data, .data, .sentinel, .sentinel, .data, .mapped, .data, .data, .data, .data, .mapped, .data, .widerDeep, .mapped], laidTests := true, laidLooks := .later }
def GraphTurnsUptoCardSaid : Prop := Claim7.holds Tryz.pinned (.plain (OpenSpec.upto graphTurnsSpec)) graphTurnsUptoCard

/-- THE SECOND FORM's CARD OF 'palinglaw19.GraphDead'. -/
def graphDeadUptoCard : Claim7 := { stood := { row := graphDeadUptoRow, standIns := [], harness := (true, "068face221bef3ef85270cfcc9956c9f1a07a14bfcda0f6a460f262008e501d2"), looks := true }, kinds := [], alts := [], laidByText := true, laidKinds := [.data, .data, .data, .sentinel, .sentinel, .data, .mapped, .data, .data, .data, .data, .mapped, .data, .widerDeep, .mapped], laidTests := true, laidLooks := .later }
def GraphDeadUptoCardSaid : Prop := Claim7.holds Tryz.pinned (.plain (OpenSpec.upto graphDeadSpec)) graphDeadUptoCard

/-- THE SECOND FORM's CARD OF 'palinglaw20.HostLimits'. -/
def hostLimitsUptoCard : Claim7 := { stood := { row := hostLimitsUptoRow, standIns := [], harness := (true, "068face221bef3ef85270cfcc9956c9f1a07a14bfcda0f6a460f262008e501d2"), looks := true }, kinds := [], alts := [], laidByText := true, laidKinds := [.data, .data, .data, .sentinel, .sentinel, .data, .mapped, .data, .data, .data, .data, .mapped, .data, .widerDeep, .mapped], laidTests := true, laidLooks := .later }
def HostLimitsUptoCardSaid : Prop := Claim7.holds Tryz.pinned (.plain (OpenSpec.upto hostLimitsSpec)) hostLimitsUptoCard

/-- THE SECOND FORM's CARD OF 'palinglaw20.HostGives'. -/
def hostGivesUptoCard : Claim7 := { stood := { row := hostGivesUptoRow, standIns := [], harness := (true, "068face221bef3ef85270cfcc9956c9f1a07a14bfcda0f6a460f262008e501d2"), looks := true }, kinds := [], alts := [], laidByText := true, laidKinds := [.data, .data, .data, .sentinel, .sentinel, .data, .mapped, .data, .data, .data, .data, .mapped, .data, .widerDeep, .mapped], laidTests := true, laidLooks := .later }
def HostGivesUptoCardSaid : Prop := Claim7.holds Tryz.pinned (.plain (OpenSpec.upto hostGivesSpec)) hostGivesUptoCard

/-- THE SECOND FORM's CARD OF 'palinglaw20.HostHandles'. -/
def hostHandlesUptoCard : Claim7 := { stood := { row := hostHandlesUptoRow, standIns := [], harness := (true, "068face221bef3ef85270cfcc9956c9f1a07a14bfcda0f6a460f262008e501d2"), looks := true }, kinds := [], alts := [], laidByText := true, laidKinds := [.data, .data, .data, .data, .sentinel, .sentinel, .data, .mapped, .data, .data, .data, .data, .mapped, .data, .widerDeep, .mapped, .pinned, .pinned, .pinned, .pinned, .pinned, .pinned], laidTests := true, laidLooks := .later }
def HostHandlesUptoCardSaid : Prop := Claim7.holds Tryz.pinned (.plain (OpenSpec.upto hostHandlesSpec)) hostHandlesUptoCard
end Rows
end Go.Proofs.YtdgeilfopkbacaaGreatDoor

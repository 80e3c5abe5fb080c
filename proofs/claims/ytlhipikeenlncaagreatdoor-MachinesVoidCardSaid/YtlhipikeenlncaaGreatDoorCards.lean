/-
  DERIVED. GIVEN WITH THE SEED: THE CARDS: each row of YtlhipikeenlncaaGreatDoorRows.lean that lists a variable, with what it lists TIED to the program's text (the seventh form; the later family's looks); each row that meets fmt, with fmt's text TOLD by the authors' own Lean function (tested against real Go, not proved from fmt's source: count such statements apart). THE CARD IS WHAT COUNTS. Prove the row's statement (the work); the ties are given (YtlhipikeenlncaaGreatDoorTie.lean); close each card by the builder's one call (the guide's Derived/Test/ToyasCard.lean, 'card_holds'). Laid BY PROGRAM, IN A SANDBOX (cutbox-door.mjs). By AI agents, Wed Nov 11 2026. No macro, syntax, notation, axiom, sorry.
-/
import Derived.Test.YtlhipikeenlncaaGreatDoorRows
import GoSem.ClaimSeven
namespace Go.Proofs.YtlhipikeenlncaaGreatDoor
namespace Rows

/-- THE TIED CARD OF 'nestboxlaw35.MachinesVoid'. -/
def machinesVoidCard : Claim7 := { stood := { row := machinesVoidRow, standIns := [], harness := (true, "e939c6bc943355ed5513aeed1deeec6a96a424672dd5165b09bbb41f0cb84fb7"), looks := true }, kinds := [], alts := [], laidByText := true, laidKinds := [.data, .data, .data, .data, .sentinel, .sentinel, .pinned], laidTests := true, laidLooks := .later }
def MachinesVoidCardSaid : Prop := Claim7.holds Tryz.pinned (.plain (OpenSpec.ofChange machinesVoidSpec)) machinesVoidCard

/-- THE SECOND FORM's CARD OF 'nestboxlaw35.MachinesVoid'. -/
def machinesVoidUptoCard : Claim7 := { stood := { row := machinesVoidUptoRow, standIns := [], harness := (true, "e939c6bc943355ed5513aeed1deeec6a96a424672dd5165b09bbb41f0cb84fb7"), looks := true }, kinds := [], alts := [], laidByText := true, laidKinds := [.data, .data, .data, .data, .sentinel, .sentinel, .pinned], laidTests := true, laidLooks := .later }
def MachinesVoidUptoCardSaid : Prop := Claim7.holds Tryz.pinned (.plain (OpenSpec.upto machinesVoidSpec)) machinesVoidUptoCard
end Rows
end Go.Proofs.YtlhipikeenlncaaGreatDoor

/-
  DERIVED. GIVEN WITH THE SEED: THE CARDS: each row of YtjbhfehboajpcaaGreatDoorRows.lean that lists a variable, with what it lists TIED to the program's text (the seventh form; the later family's looks); each row that meets fmt, with fmt's text TOLD by the authors' own Lean function (tested against real Go, not proved from fmt's source: count such statements apart). THE CARD IS WHAT COUNTS. Prove the row's statement (the work); the ties are given (YtjbhfehboajpcaaGreatDoorTie.lean); close each card by the builder's one call (the guide's Derived/Test/ToyasCard.lean, 'card_holds'). Laid BY PROGRAM, IN A SANDBOX (cutbox-door.mjs). By AI agents, Wed Nov 11 2026. No macro, syntax, notation, axiom, sorry.
-/
import Derived.Test.YtjbhfehboajpcaaGreatDoorRows
import GoSem.ClaimSeven
namespace Go.Proofs.YtjbhfehboajpcaaGreatDoor
namespace Rows

/-- THE TIED CARD OF 'nestboxlaw39.RunsVoid'. -/
def runsVoidCard : Claim7 := { stood := { row := runsVoidRow, standIns := [], harness := (true, "daed3c8967138b6ad832692064b07c33158968cb959b7e2b1852e054164f4c34"), looks := true }, kinds := [], alts := [], laidByText := true, laidKinds := [.pinned, .data, .sentinel, .sentinel, .data, .data, .data], laidTests := true, laidLooks := .later }
def RunsVoidCardSaid : Prop := Claim7.holds Tryz.pinned (.plain (OpenSpec.ofChange runsVoidSpec)) runsVoidCard

/-- THE SECOND FORM's CARD OF 'nestboxlaw39.RunsVoid'. -/
def runsVoidUptoCard : Claim7 := { stood := { row := runsVoidUptoRow, standIns := [], harness := (true, "daed3c8967138b6ad832692064b07c33158968cb959b7e2b1852e054164f4c34"), looks := true }, kinds := [], alts := [], laidByText := true, laidKinds := [.pinned, .data, .sentinel, .sentinel, .data, .data, .data], laidTests := true, laidLooks := .later }
def RunsVoidUptoCardSaid : Prop := Claim7.holds Tryz.pinned (.plain (OpenSpec.upto runsVoidSpec)) runsVoidUptoCard
end Rows
end Go.Proofs.YtjbhfehboajpcaaGreatDoor

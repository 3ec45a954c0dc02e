/-
  DERIVED. GIVEN WITH THE SEED: THE CARDS: each row of YtiblpnadninmbaaGreatDoorRows.lean that lists a variable, with what it lists TIED to the program's text (the seventh form; the later family's looks); each row that meets fmt, with fmt's text TOLD by the authors' own Lean function (tested against real Go, not proved from fmt's source: count such statements apart). THE CARD IS WHAT COUNTS. Prove the row's statement (the work); the ties are given (YtiblpnadninmbaaGreatDoorTie.lean); close each card by the builder's one call (the guide's Derived/Test/ToyasCard.lean, 'card_holds'). Laid BY PROGRAM, IN A SANDBOX (cutbox-door.mjs). By AI agents, Wed Nov 11 2026. No macro, syntax, notation, axiom, sorry.
-/
import Derived.Test.YtiblpnadninmbaaGreatDoorRows
import GoSem.ClaimSeven
namespace Go.Proofs.YtiblpnadninmbaaGreatDoor
namespace Rows

/-- THE TIED CARD OF 'vergelaw10.TicklessPlays'. -/
def ticklessPlaysCard : Claim7 := { stood := { row := ticklessPlaysRow, standIns := [], harness := (true, "ab6c3d68b243edc9091277922ec0e1065f981719d9d1e82332c83105f25158b0"), looks := false }, kinds := [], alts := [], laidByText := true, laidKinds := [.data], laidTests := true, laidLooks := .later }
def TicklessPlaysCardSaid : Prop := Claim7.holds Tryz.pinned (.plain (OpenSpec.ofChange ticklessPlaysSpec)) ticklessPlaysCard

/-- THE SECOND FORM's CARD OF 'vergelaw10.TicklessPlays'. -/
def ticklessPlaysUptoCard : Claim7 := { stood := { row := ticklessPlaysUptoRow, standIns := [], harness := (true, "ab6c3d68b243edc9091277922ec0e1065f981719d9d1e82332c83105f25158b0"), looks := false }, kinds := [], alts := [], laidByText := true, laidKinds := [.data], laidTests := true, laidLooks := .later }
def TicklessPlaysUptoCardSaid : Prop := Claim7.holds Tryz.pinned (.plain (OpenSpec.upto ticklessPlaysSpec)) ticklessPlaysUptoCard
end Rows
end Go.Proofs.YtiblpnadninmbaaGreatDoor

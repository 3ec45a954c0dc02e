/-
  DERIVED. GIVEN WITH THE SEED: THE CARDS: each row of YtpncbkodhojicaaDoorRows.lean that lists a variable, with what it lists TIED to the program's text (the seventh form; the later family's looks); each row that meets fmt, with fmt's text TOLD by the authors' own Lean function (tested against real Go, not proved from fmt's source: count such statements apart). THE CARD IS WHAT COUNTS. Prove the row's statement (the work); the ties are given (YtpncbkodhojicaaDoorTie.lean); close each card by the builder's one call (the guide's Derived/Test/ToyasCard.lean, 'card_holds'). Laid BY PROGRAM, IN A SANDBOX (cutbox-door.mjs). By AI agents, Wed Nov 11 2026. No macro, syntax, notation, axiom, sorry.
-/
import Derived.Test.YtpncbkodhojicaaDoorRows
import GoSem.ClaimSeven
namespace Go.Proofs.YtpncbkodhojicaaDoor
namespace Rows

/-- THE TIED CARD OF 'vergelaw19.IrqPlays'. -/
def irqPlaysCard : Claim7 := { stood := { row := irqPlaysRow, standIns := [], harness := (true, "c36116d5c2e87f9c81cf1210f20cd249900c96f616dfd7dafee51291fac96686"), looks := false }, kinds := [], alts := [], laidByText := true, laidKinds := [.data], laidTests := true, laidLooks := .later }
def IrqPlaysCardSaid : Prop := Claim7.holds Tryd.pinned (.plain (OpenSpec.ofChange irqPlaysSpec)) irqPlaysCard

/-- THE TIED CARD OF 'vergelaw19.IrqNests'. -/
def irqNestsCard : Claim7 := { stood := { row := irqNestsRow, standIns := [], harness := (true, "c36116d5c2e87f9c81cf1210f20cd249900c96f616dfd7dafee51291fac96686"), looks := false }, kinds := [], alts := [], laidByText := true, laidKinds := [.data], laidTests := true, laidLooks := .later }
def IrqNestsCardSaid : Prop := Claim7.holds Tryd.pinned (.plain (OpenSpec.ofChange irqNestsSpec)) irqNestsCard

/-- THE SECOND FORM's CARD OF 'vergelaw19.IrqPlays'. -/
def irqPlaysUptoCard : Claim7 := { stood := { row := irqPlaysUptoRow, standIns := [], harness := (true, "c36116d5c2e87f9c81cf1210f20cd249900c96f616dfd7dafee51291fac96686"), looks := false }, kinds := [], alts := [], laidByText := true, laidKinds := [.data], laidTests := true, laidLooks := .later }
def IrqPlaysUptoCardSaid : Prop := Claim7.holds Tryd.pinned (.plain (OpenSpec.upto irqPlaysSpec)) irqPlaysUptoCard

/-- THE SECOND FORM's CARD OF 'vergelaw19.IrqNests'. -/
def irqNestsUptoCard : Claim7 := { stood := { row := irqNestsUptoRow, standIns := [], harness := (true, "c36116d5c2e87f9c81cf1210f20cd249900c96f616dfd7dafee51291fac96686"), looks := false }, kinds := [], alts := [], laidByText := true, laidKinds := [.data], laidTests := true, laidLooks := .later }
def IrqNestsUptoCardSaid : Prop := Claim7.holds Tryd.pinned (.plain (OpenSpec.upto irqNestsSpec)) irqNestsUptoCard
end Rows
end Go.Proofs.YtpncbkodhojicaaDoor

/-
  DERIVED. GIVEN WITH THE SEED: THE CARDS: each row of YtiblpnadninmbaaDoorRows.lean that lists a variable, with what it lists TIED to the program's text (the seventh form; the later family's looks); each row that meets fmt, with fmt's text TOLD by the authors' own Lean function (tested against real Go, not proved from fmt's source: count such statements apart). THE CARD IS WHAT COUNTS. Prove the row's statement (the work); the ties are given (YtiblpnadninmbaaDoorTie.lean); close each card by the builder's one call (the guide's Derived/Test/ToyasCard.lean, 'card_holds'). Laid BY PROGRAM, IN A SANDBOX (cutbox-door.mjs). By AI agents, Wed Nov 11 2026. No macro, syntax, notation, axiom, sorry.
-/
import Derived.Test.YtiblpnadninmbaaDoorRows
import GoSem.ClaimSeven
namespace Go.Proofs.YtiblpnadninmbaaDoor
namespace Rows

/-- THE TIED CARD OF 'vergelaw09.TimersPlay'. -/
def timersPlayCard : Claim7 := { stood := { row := timersPlayRow, standIns := [], harness := (true, "5d8f6386e07761472d3930f43cd867105b4d6d09cf64d616fb82dcfb3d3c753f"), looks := false }, kinds := [], alts := [], laidByText := true, laidKinds := [.data], laidTests := true, laidLooks := .later }
def TimersPlayCardSaid : Prop := Claim7.holds Tryd.pinned (.plain (OpenSpec.ofChange timersPlaySpec)) timersPlayCard

/-- THE TIED CARD OF 'vergelaw09.TimersDrift'. -/
def timersDriftCard : Claim7 := { stood := { row := timersDriftRow, standIns := [], harness := (true, "5d8f6386e07761472d3930f43cd867105b4d6d09cf64d616fb82dcfb3d3c753f"), looks := false }, kinds := [], alts := [], laidByText := true, laidKinds := [.data], laidTests := true, laidLooks := .later }
def TimersDriftCardSaid : Prop := Claim7.holds Tryd.pinned (.plain (OpenSpec.ofChange timersDriftSpec)) timersDriftCard

/-- THE TIED CARD OF 'vergelaw09.TimersParts'. -/
def timersPartsCard : Claim7 := { stood := { row := timersPartsRow, standIns := [], harness := (true, "5d8f6386e07761472d3930f43cd867105b4d6d09cf64d616fb82dcfb3d3c753f"), looks := false }, kinds := [], alts := [], laidByText := true, laidKinds := [.data], laidTests := true, laidLooks := .later }
def TimersPartsCardSaid : Prop := Claim7.holds Tryd.pinned (.plain (OpenSpec.ofChange timersPartsSpec)) timersPartsCard

/-- THE TIED CARD OF 'vergelaw10.TicklessLate'. -/
def ticklessLateCard : Claim7 := { stood := { row := ticklessLateRow, standIns := [], harness := (true, "5d8f6386e07761472d3930f43cd867105b4d6d09cf64d616fb82dcfb3d3c753f"), looks := false }, kinds := [], alts := [], laidByText := true, laidKinds := [.data], laidTests := true, laidLooks := .later }
def TicklessLateCardSaid : Prop := Claim7.holds Tryd.pinned (.plain (OpenSpec.ofChange ticklessLateSpec)) ticklessLateCard

/-- THE TIED CARD OF 'vergelaw08.WheelPlays'. -/
def wheelPlaysCard : Claim7 := { stood := { row := wheelPlaysRow, standIns := [], harness := (true, "5d8f6386e07761472d3930f43cd867105b4d6d09cf64d616fb82dcfb3d3c753f"), looks := false }, kinds := [], alts := [], laidByText := true, laidKinds := [.data], laidTests := true, laidLooks := .later }
def WheelPlaysCardSaid : Prop := Claim7.holds Tryd.pinned (.plain (OpenSpec.ofChange wheelPlaysSpec)) wheelPlaysCard

/-- THE TIED CARD OF 'vergelaw08.WheelParts'. -/
def wheelPartsCard : Claim7 := { stood := { row := wheelPartsRow, standIns := [], harness := (true, "5d8f6386e07761472d3930f43cd867105b4d6d09cf64d616fb82dcfb3d3c753f"), looks := false }, kinds := [], alts := [], laidByText := true, laidKinds := [.data], laidTests := true, laidLooks := .later }
def WheelPartsCardSaid : Prop := Claim7.holds Tryd.pinned (.plain (OpenSpec.ofChange wheelPartsSpec)) wheelPartsCard

/-- THE TIED CARD OF 'vergelaw08.WheelNext'. -/
def wheelNextCard : Claim7 := { stood := { row := wheelNextRow, standIns := [], harness := (true, "5d8f6386e07761472d3930f43cd867105b4d6d09cf64d616fb82dcfb3d3c753f"), looks := false }, kinds := [], alts := [], laidByText := true, laidKinds := [.data], laidTests := true, laidLooks := .later }
def WheelNextCardSaid : Prop := Claim7.holds Tryd.pinned (.plain (OpenSpec.ofChange wheelNextSpec)) wheelNextCard

/-- THE TIED CARD OF 'vergelaw08.WheelOnce'. -/
def wheelOnceCard : Claim7 := { stood := { row := wheelOnceRow, standIns := [], harness := (true, "5d8f6386e07761472d3930f43cd867105b4d6d09cf64d616fb82dcfb3d3c753f"), looks := false }, kinds := [], alts := [], laidByText := true, laidKinds := [.data], laidTests := true, laidLooks := .later }
def WheelOnceCardSaid : Prop := Claim7.holds Tryd.pinned (.plain (OpenSpec.ofChange wheelOnceSpec)) wheelOnceCard

/-- THE SECOND FORM's CARD OF 'vergelaw09.TimersPlay'. -/
def timersPlayUptoCard : Claim7 := { stood := { row := timersPlayUptoRow, standIns := [], harness := (true, "5d8f6386e07761472d3930f43cd867105b4d6d09cf64d616fb82dcfb3d3c753f"), looks := false }, kinds := [], alts := [], laidByText := true, laidKinds := [.data], laidTests := true, laidLooks := .later }
def TimersPlayUptoCardSaid : Prop := Claim7.holds Tryd.pinned (.plain (OpenSpec.upto timersPlaySpec)) timersPlayUptoCard

/-- THE SECOND FORM's CARD OF 'vergelaw09.TimersDrift'. -/
def timersDriftUptoCard : Claim7 := { stood := { row := timersDriftUptoRow, standIns := [], harness := (true, "5d8f6386e07761472d3930f43cd867105b4d6d09cf64d616fb82dcfb3d3c753f"), looks := false }, kinds := [], alts := [], laidByText := true, laidKinds := [.data], laidTests := true, laidLooks := .later }
def TimersDriftUptoCardSaid : Prop := Claim7.holds Tryd.pinned (.plain (OpenSpec.upto timersDriftSpec)) timersDriftUptoCard

/-- THE SECOND FORM's CARD OF 'vergelaw09.TimersParts'. -/
def timersPartsUptoCard : Claim7 := { stood := { row := timersPartsUptoRow, standIns := [], harness := (true, "5d8f6386e07761472d3930f43cd867105b4d6d09cf64d616fb82dcfb3d3c753f"), looks := false }, kinds := [], alts := [], laidByText := true, laidKinds := [.data], laidTests := true, laidLooks := .later }
def TimersPartsUptoCardSaid : Prop := Claim7.holds Tryd.pinned (.plain (OpenSpec.upto timersPartsSpec)) timersPartsUptoCard

/-- THE SECOND FORM's CARD OF 'vergelaw10.TicklessLate'. -/
def ticklessLateUptoCard : Claim7 := { stood := { row := ticklessLateUptoRow, standIns := [], harness := (true, "5d8f6386e07761472d3930f43cd867105b4d6d09cf64d616fb82dcfb3d3c753f"), looks := false }, kinds := [], alts := [], laidByText := true, laidKinds := [.data], laidTests := true, laidLooks := .later }
def TicklessLateUptoCardSaid : Prop := Claim7.holds Tryd.pinned (.plain (OpenSpec.upto ticklessLateSpec)) ticklessLateUptoCard

/-- THE SECOND FORM's CARD OF 'vergelaw08.WheelPlays'. -/
def wheelPlaysUptoCard : Claim7 := { stood := { row := wheelPlaysUptoRow, standIns := [], harness := (true, "5d8f6386e07761472d3930f43cd867105b4d6d09cf64d616fb82dcfb3d3c753f"), looks := false }, kinds := [], alts := [], laidByText := true, laidKinds := [.data], laidTests := true, laidLooks := .later }
def WheelPlaysUptoCardSaid : Prop := Claim7.holds Tryd.pinned (.plain (OpenSpec.upto wheelPlaysSpec)) wheelPlaysUptoCard

/-- THE SECOND FORM's CARD OF 'vergelaw08.WheelParts'. -/
def wheelPartsUptoCard : Claim7 := { stood := { row := wheelPartsUptoRow, standIns := [], harness := (true, "5d8f6386e07761472d3930f43cd867105b4d6d09cf64d616fb82dcfb3d3c753f"), looks := false }, kinds := [], alts := [], laidByText := true, laidKinds := [.data], laidTests := true, laidLooks := .later }
def WheelPartsUptoCardSaid : Prop := Claim7.holds Tryd.pinned (.plain (OpenSpec.upto wheelPartsSpec)) wheelPartsUptoCard

/-- THE SECOND FORM's CARD OF 'vergelaw08.WheelNext'. -/
def wheelNextUptoCard : Claim7 := { stood := { row := wheelNextUptoRow, standIns := [], harness := (true, "5d8f6386e07761472d3930f43cd867105b4d6d09cf64d616fb82dcfb3d3c753f"), looks := false }, kinds := [], alts := [], laidByText := true, laidKinds := [.data], laidTests := true, laidLooks := .later }
def WheelNextUptoCardSaid : Prop := Claim7.holds Tryd.pinned (.plain (OpenSpec.upto wheelNextSpec)) wheelNextUptoCard

/-- THE SECOND FORM's CARD OF 'vergelaw08.WheelOnce'. -/
def wheelOnceUptoCard : Claim7 := { stood := { row := wheelOnceUptoRow, standIns := [], harness := (true, "5d8f6386e07761472d3930f43cd867105b4d6d09cf64d616fb82dcfb3d3c753f"), looks := false }, kinds := [], alts := [], laidByText := true, laidKinds := [.data], laidTests := true, laidLooks := .later }
def WheelOnceUptoCardSaid : Prop := Claim7.holds Tryd.pinned (.plain (OpenSpec.upto wheelOnceSpec)) wheelOnceUptoCard
end Rows
end Go.Proofs.YtiblpnadninmbaaDoor

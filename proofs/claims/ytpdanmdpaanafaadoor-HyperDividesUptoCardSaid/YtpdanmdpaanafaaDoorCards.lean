/-
  DERIVED. GIVEN WITH THE SEED: THE CARDS: each row of YtpdanmdpaanafaaDoorRows.lean that lists a variable, with what it lists TIED to the program's text (the seventh form; the later family's looks); each row that meets fmt, with fmt's text TOLD by the authors' own Lean function (tested against real Go, not proved from fmt's source: count such statements apart). THE CARD IS WHAT COUNTS. Prove the row's statement (the work); the ties are given (YtpdanmdpaanafaaDoorTie.lean); close each card by the builder's one call (the guide's Derived/Test/ToyasCard.lean, 'card_holds'). Laid BY PROGRAM, IN A SANDBOX (cutbox-door.mjs). By AI agents, Wed Nov 11 2026. No macro, syntax, notation, axiom, sorry.
-/
import Derived.Test.YtpdanmdpaanafaaDoorRows
import GoSem.ClaimSeven
namespace Go.Proofs.YtpdanmdpaanafaaDoor
namespace Rows

/-- THE TIED CARD OF 'vergelaw35.HyperNumbers'. -/
def hyperNumbersCard : Claim7 := { stood := { row := hyperNumbersRow, standIns := [], harness := (true, "e4d7c3c0b71e8097c61b2f07b399b93e4f9447efdd563c34272eee8af9678613"), looks := false }, kinds := [], alts := [], laidByText := true, laidKinds := [.data], laidTests := true, laidLooks := .later }
def HyperNumbersCardSaid : Prop := Claim7.holds Tryd.pinned (.plain (OpenSpec.ofChange hyperNumbersSpec)) hyperNumbersCard

/-- THE TIED CARD OF 'vergelaw35.HyperTimes'. -/
def hyperTimesCard : Claim7 := { stood := { row := hyperTimesRow, standIns := [], harness := (true, "e4d7c3c0b71e8097c61b2f07b399b93e4f9447efdd563c34272eee8af9678613"), looks := false }, kinds := [], alts := [], laidByText := true, laidKinds := [.data], laidTests := true, laidLooks := .later }
def HyperTimesCardSaid : Prop := Claim7.holds Tryd.pinned (.plain (OpenSpec.ofChange hyperTimesSpec)) hyperTimesCard

/-- THE TIED CARD OF 'vergelaw35.HyperDivides'. -/
def hyperDividesCard : Claim7 := { stood := { row := hyperDividesRow, standIns := [], harness := (true, "e4d7c3c0b71e8097c61b2f07b399b93e4f9447efdd563c34272eee8af9678613"), looks := false }, kinds := [], alts := [], laidByText := true, laidKinds := [.data], laidTests := true, laidLooks := .later }
def HyperDividesCardSaid : Prop := Claim7.holds Tryd.pinned (.plain (OpenSpec.ofChange hyperDividesSpec)) hyperDividesCard

/-- THE TIED CARD OF 'vergelaw35.HyperAgain'. -/
def hyperAgainCard : Claim7 := { stood := { row := hyperAgainRow, standIns := [], harness := (true, "e4d7c3c0b71e8097c61b2f07b399b93e4f9447efdd563c34272eee8af9678613"), looks := false }, kinds := [], alts := [], laidByText := true, laidKinds := [.data], laidTests := true, laidLooks := .later }
def HyperAgainCardSaid : Prop := Claim7.holds Tryd.pinned (.plain (OpenSpec.ofChange hyperAgainSpec)) hyperAgainCard

/-- THE SECOND FORM's CARD OF 'vergelaw35.HyperNumbers'. -/
def hyperNumbersUptoCard : Claim7 := { stood := { row := hyperNumbersUptoRow, standIns := [], harness := (true, "e4d7c3c0b71e8097c61b2f07b399b93e4f9447efdd563c34272eee8af9678613"), looks := false }, kinds := [], alts := [], laidByText := true, laidKinds := [.data], laidTests := true, laidLooks := .later }
def HyperNumbersUptoCardSaid : Prop := Claim7.holds Tryd.pinned (.plain (OpenSpec.upto hyperNumbersSpec)) hyperNumbersUptoCard

/-- THE SECOND FORM's CARD OF 'vergelaw35.HyperTimes'. -/
def hyperTimesUptoCard : Claim7 := { stood := { row := hyperTimesUptoRow, standIns := [], harness := (true, "e4d7c3c0b71e8097c61b2f07b399b93e4f9447efdd563c34272eee8af9678613"), looks := false }, kinds := [], alts := [], laidByText := true, laidKinds := [.data], laidTests := true, laidLooks := .later }
def HyperTimesUptoCardSaid : Prop := Claim7.holds Tryd.pinned (.plain (OpenSpec.upto hyperTimesSpec)) hyperTimesUptoCard

/-- THE SECOND FORM's CARD OF 'vergelaw35.HyperDivides'. -/
def hyperDividesUptoCard : Claim7 := { stood := { row := hyperDividesUptoRow, standIns := [], harness := (true, "e4d7c3c0b71e8097c61b2f07b399b93e4f9447efdd563c34272eee8af9678613"), looks := false }, kinds := [], alts := [], laidByText := true, laidKinds := [.data], laidTests := true, laidLooks := .later }
def HyperDividesUptoCardSaid : Prop := Claim7.holds Tryd.pinned (.plain (OpenSpec.upto hyperDividesSpec)) hyperDividesUptoCard

/-- THE SECOND FORM's CARD OF 'vergelaw35.HyperAgain'. -/
def hyperAgainUptoCard : Claim7 := { stood := { row := hyperAgainUptoRow, standIns := [], harness := (true, "e4d7c3c0b71e8097c61b2f07b399b93e4f9447efdd563c34272eee8af9678613"), looks := false }, kinds := [], alts := [], laidByText := true, laidKinds := [.data], laidTests := true, laidLooks := .later }
def HyperAgainUptoCardSaid : Prop := Claim7.holds Tryd.pinned (.plain (OpenSpec.upto hyperAgainSpec)) hyperAgainUptoCard
end Rows
end Go.Proofs.YtpdanmdpaanafaaDoor

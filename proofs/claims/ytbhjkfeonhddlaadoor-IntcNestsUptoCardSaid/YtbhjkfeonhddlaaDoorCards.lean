/-
  DERIVED. GIVEN WITH THE SEED: THE CARDS: each row of YtbhjkfeonhddlaaDoorRows.lean that lists a variable, with what it lists TIED to the program's text (the seventh form; the later family's looks); each row that meets fmt, with fmt's text TOLD by the authors' own Lean function (tested against real Go, not proved from fmt's source: count such statements apart). THE CARD IS WHAT COUNTS. Prove the row's statement (the work); the ties are given (YtbhjkfeonhddlaaDoorTie.lean); close each card by the builder's one call (the guide's Derived/Test/ToyasCard.lean, 'card_holds'). Laid BY PROGRAM, IN A SANDBOX (cutbox-door.mjs). By AI agents, Wed Nov 11 2026. No macro, syntax, notation, axiom, sorry.
-/
import Derived.Test.YtbhjkfeonhddlaaDoorRows
import GoSem.ClaimSeven
namespace Go.Proofs.YtbhjkfeonhddlaaDoor
namespace Rows

/-- THE TIED CARD OF 'vergelaw06.IntcServes'. -/
def intcServesCard : Claim7 := { stood := { row := intcServesRow, standIns := [], harness := (true, "85bfc1db060ae5f7182bbd894eba9571b101a68456ac20085cd3f43d64e21f46"), looks := false }, kinds := [], alts := [], laidByText := true, laidKinds := [.data], laidTests := true, laidLooks := .later }
def IntcServesCardSaid : Prop := Claim7.holds Tryd.pinned (.plain (OpenSpec.ofChange intcServesSpec)) intcServesCard

/-- THE TIED CARD OF 'vergelaw06.IntcAgain'. -/
def intcAgainCard : Claim7 := { stood := { row := intcAgainRow, standIns := [], harness := (true, "85bfc1db060ae5f7182bbd894eba9571b101a68456ac20085cd3f43d64e21f46"), looks := false }, kinds := [], alts := [], laidByText := true, laidKinds := [.data], laidTests := true, laidLooks := .later }
def IntcAgainCardSaid : Prop := Claim7.holds Tryd.pinned (.plain (OpenSpec.ofChange intcAgainSpec)) intcAgainCard

/-- THE TIED CARD OF 'vergelaw06.IntcNests'. -/
def intcNestsCard : Claim7 := { stood := { row := intcNestsRow, standIns := [], harness := (true, "85bfc1db060ae5f7182bbd894eba9571b101a68456ac20085cd3f43d64e21f46"), looks := false }, kinds := [], alts := [], laidByText := true, laidKinds := [.data], laidTests := true, laidLooks := .later }
def IntcNestsCardSaid : Prop := Claim7.holds Tryd.pinned (.plain (OpenSpec.ofChange intcNestsSpec)) intcNestsCard

/-- THE TIED CARD OF 'vergelaw06.IntcTurns'. -/
def intcTurnsCard : Claim7 := { stood := { row := intcTurnsRow, standIns := [], harness := (true, "85bfc1db060ae5f7182bbd894eba9571b101a68456ac20085cd3f43d64e21f46"), looks := false }, kinds := [], alts := [], laidByText := true, laidKinds := [.data], laidTests := true, laidLooks := .later }
def IntcTurnsCardSaid : Prop := Claim7.holds Tryd.pinned (.plain (OpenSpec.ofChange intcTurnsSpec)) intcTurnsCard

/-- THE SECOND FORM's CARD OF 'vergelaw06.IntcServes'. -/
def intcServesUptoCard : Claim7 := { stood := { row := intcServesUptoRow, standIns := [], harness := (true, "85bfc1db060ae5f7182bbd894eba9571b101a68456ac20085cd3f43d64e21f46"), looks := false }, kinds := [], alts := [], laidByText := true, laidKinds := [.data], laidTests := true, laidLooks := .later }
def IntcServesUptoCardSaid : Prop := Claim7.holds Tryd.pinned (.plain (OpenSpec.upto intcServesSpec)) intcServesUptoCard

/-- THE SECOND FORM's CARD OF 'vergelaw06.IntcAgain'. -/
def intcAgainUptoCard : Claim7 := { stood := { row := intcAgainUptoRow, standIns := [], harness := (true, "85bfc1db060ae5f7182bbd894eba9571b101a68456ac20085cd3f43d64e21f46"), looks := false }, kinds := [], alts := [], laidByText := true, laidKinds := [.data], laidTests := true, laidLooks := .later }
def IntcAgainUptoCardSaid : Prop := Claim7.holds Tryd.pinned (.plain (OpenSpec.upto intcAgainSpec)) intcAgainUptoCard

/-- THE SECOND FORM's CARD OF 'vergelaw06.IntcNests'. -/
def intcNestsUptoCard : Claim7 := { stood := { row := intcNestsUptoRow, standIns := [], harness := (true, "85bfc1db060ae5f7182bbd894eba9571b101a68456ac20085cd3f43d64e21f46"), looks := false }, kinds := [], alts := [], laidByText := true, laidKinds := [.data], laidTests := true, laidLooks := .later }
def IntcNestsUptoCardSaid : Prop := Claim7.holds Tryd.pinned (.plain (OpenSpec.upto intcNestsSpec)) intcNestsUptoCard

/-- THE SECOND FORM's CARD OF 'vergelaw06.IntcTurns'. -/
def intcTurnsUptoCard : Claim7 := { stood := { row := intcTurnsUptoRow, standIns := [], harness := (true, "85bfc1db060ae5f7182bbd894eba9571b101a68456ac20085cd3f43d64e21f46"), looks := false }, kinds := [], alts := [], laidByText := true, laidKinds := [.data], laidTests := true, laidLooks := .later }
def IntcTurnsUptoCardSaid : Prop := Claim7.holds Tryd.pinned (.plain (OpenSpec.upto intcTurnsSpec)) intcTurnsUptoCard
end Rows
end Go.Proofs.YtbhjkfeonhddlaaDoor

/-
  DERIVED. GIVEN WITH THE SEED: THE CARDS: each row of YtlmhgfgdkenpfaaDoorRows.lean that lists a variable, with what it lists TIED to the program's text (the seventh form; the later family's looks); each row that meets fmt, with fmt's text TOLD by the authors' own Lean function (tested against real Go, not proved from fmt's source: count such statements apart). THE CARD IS WHAT COUNTS. Prove the row's statement (the work); the ties are given (YtlmhgfgdkenpfaaDoorTie.lean); close each card by the builder's one call (the guide's Derived/Test/ToyasCard.lean, 'card_holds'). Laid BY PROGRAM, IN A SANDBOX (cutbox-door.mjs). By AI agents, Wed Nov 11 2026. No macro, syntax, notation, axiom, sorry.
-/
import Derived.Test.YtlmhgfgdkenpfaaDoorRows
import GoSem.ClaimSeven
namespace Go.Proofs.YtlmhgfgdkenpfaaDoor
namespace Rows

/-- THE TIED CARD OF 'vergelaw39.ChartRuns'. -/
def chartRunsCard : Claim7 := { stood := { row := chartRunsRow, standIns := [], harness := (true, "a3f968f139b18cc5dfd3f5a2212ddc7502b1141182353545a342b2bf8507214e"), looks := false }, kinds := [], alts := [], laidByText := true, laidKinds := [.data, .data, .data, .data], laidTests := true, laidLooks := .later }
def ChartRunsCardSaid : Prop := Claim7.holds Tryd.pinned (.plain (OpenSpec.ofChange chartRunsSpec)) chartRunsCard

/-- THE TIED CARD OF 'vergelaw39.ChartAsks'. -/
def chartAsksCard : Claim7 := { stood := { row := chartAsksRow, standIns := [], harness := (true, "a3f968f139b18cc5dfd3f5a2212ddc7502b1141182353545a342b2bf8507214e"), looks := false }, kinds := [], alts := [], laidByText := true, laidKinds := [.data, .data, .data, .data], laidTests := true, laidLooks := .later }
def ChartAsksCardSaid : Prop := Claim7.holds Tryd.pinned (.plain (OpenSpec.ofChange chartAsksSpec)) chartAsksCard

/-- THE TIED CARD OF 'vergelaw39.ChartCovers'. -/
def chartCoversCard : Claim7 := { stood := { row := chartCoversRow, standIns := [], harness := (true, "a3f968f139b18cc5dfd3f5a2212ddc7502b1141182353545a342b2bf8507214e"), looks := false }, kinds := [], alts := [], laidByText := true, laidKinds := [.data, .data, .data, .data], laidTests := true, laidLooks := .later }
def ChartCoversCardSaid : Prop := Claim7.holds Tryd.pinned (.plain (OpenSpec.ofChange chartCoversSpec)) chartCoversCard

/-- THE SECOND FORM's CARD OF 'vergelaw39.ChartRuns'. -/
def chartRunsUptoCard : Claim7 := { stood := { row := chartRunsUptoRow, standIns := [], harness := (true, "a3f968f139b18cc5dfd3f5a2212ddc7502b1141182353545a342b2bf8507214e"), looks := false }, kinds := [], alts := [], laidByText := true, laidKinds := [.data, .data, .data, .data], laidTests := true, laidLooks := .later }
def ChartRunsUptoCardSaid : Prop := Claim7.holds Tryd.pinned (.plain (OpenSpec.upto chartRunsSpec)) chartRunsUptoCard

/-- THE SECOND FORM's CARD OF 'vergelaw39.ChartAsks'. -/
def chartAsksUptoCard : Claim7 := { stood := { row := chartAsksUptoRow, standIns := [], harness := (true, "a3f968f139b18cc5dfd3f5a2212ddc7502b1141182353545a342b2bf8507214e"), looks := false }, kinds := [], alts := [], laidByText := true, laidKinds := [.data, .data, .data, .data], laidTests := true, laidLooks := .later }
def ChartAsksUptoCardSaid : Prop := Claim7.holds Tryd.pinned (.plain (OpenSpec.upto chartAsksSpec)) chartAsksUptoCard

/-- THE SECOND FORM's CARD OF 'vergelaw39.ChartCovers'. -/
def chartCoversUptoCard : Claim7 := { stood := { row := chartCoversUptoRow, standIns := [], harness := (true, "a3f968f139b18cc5dfd3f5a2212ddc7502b1141182353545a342b2bf8507214e"), looks := false }, kinds := [], alts := [], laidByText := true, laidKinds := [.data, .data, .data, .data], laidTests := true, laidLooks := .later }
def ChartCoversUptoCardSaid : Prop := Claim7.holds Tryd.pinned (.plain (OpenSpec.upto chartCoversSpec)) chartCoversUptoCard
end Rows
end Go.Proofs.YtlmhgfgdkenpfaaDoor

/-
  No cell of these rows narrows 'for every input' (looked for: loops, veiled, ifaces, maps, wideKeys, modest, calm, conditions, laid).
  DERIVED. THE GIVEN ROWS OF THIS SEAT. 6 by the template 'for every input the law returns true; each argument reads behind the call as it read before'; 0 by the template 'total and deterministic' (their statements: YtpdanmdpaanafaaTotals.lean).
  GIVEN WITH THE SEED: the statements are not yours to turn. If you find one false, say at which input.
  Laid BY PROGRAM, IN A SANDBOX (cutbox-rows.mjs): the forced cells as the released guide's own fill.sh prints them over the translation dc31387787df27d0… (all of the seat's roots in one cut). By AI agents, Wed Nov 11 2026. No macro, syntax, notation, axiom, sorry.
-/
import Derived.Test.YtpdanmdpaanafaaChecked
import GoSem.Claim
import GoSem.ClaimJoined
import GoSem.ClaimMapViews
import Derived.JoinedTies
import Derived.KernelRfl
namespace Go.Proofs.Ytpdanmdpaanafaa
/- THE CELL 'sum', in the pinned program and in every row, IS THE sha256 OF THE DUMP (.gsa) THAT YtpdanmdpaanafaaProg.lean LOADS. Nothing in Lean hashes anything: it is a label: what it is worth is what the hold of that sum in a sandbox is worth. -/
noncomputable def Try.pinned : Pinned := { name := "ytpdanmdpaanafaa", sum := "dc31387787df27d08287436150a3129936d8849245603223a95fd6f91cd90075", checked := Try.checked }
namespace Rows
def none {H : Type} : Left H := { results := [], args := [] }

/-- 'vergelaw27.VetEnough': WHATEVER THE INPUT: true; the input reads as it did. -/
def vetEnoughSpec : ChangeSpec := { name := "vetEnough", fn := fun _ => fun
  | [d] => { results := [.lit (.bool true)], args := [d] }
  | _ => none }
def vetEnoughRow : OpenClaim := { program := "ytpdanmdpaanafaa", sum := "dc31387787df27d08287436150a3129936d8849245603223a95fd6f91cd90075", func := "verge/vergelaw27.VetEnough", spec := "vetEnough", unfollowed := true, recurses := true, apart := false }
def VetEnoughSaid : Prop := vetEnoughRow.holds Try.pinned (OpenSpec.ofChange vetEnoughSpec)

/-- ITS FALSE NEIGHBOUR: 'it returns false'. Refute it at one input. -/
def vetEnoughWrong : ChangeSpec := { name := "vetEnough", fn := fun _ => fun
  | [d] => { results := [.lit (.bool false)], args := [d] }
  | _ => none }
def VetEnoughWrongFalsely : Prop := vetEnoughRow.holds Try.pinned (OpenSpec.ofChange vetEnoughWrong)

/-- 'vergelaw33.ConformTells': WHATEVER THE INPUT: true; the input reads as it did. -/
def conformTellsSpec : ChangeSpec := { name := "conformTells", fn := fun _ => fun
  | [d1, d2, d3, d4] => { results := [.lit (.bool true)], args := [d1, d2, d3, d4] }
  | _ => none }
def conformTellsRow : OpenClaim := { program := "ytpdanmdpaanafaa", sum := "dc31387787df27d08287436150a3129936d8849245603223a95fd6f91cd90075", func := "verge/vergelaw33.ConformTells", spec := "conformTells", unfollowed := true, recurses := true, apart := false }
def ConformTellsSaid : Prop := conformTellsRow.holds Try.pinned (OpenSpec.ofChange conformTellsSpec)

/-- ITS FALSE NEIGHBOUR: 'it returns false'. Refute it at one input. -/
def conformTellsWrong : ChangeSpec := { name := "conformTells", fn := fun _ => fun
  | [d1, d2, d3, d4] => { results := [.lit (.bool false)], args := [d1, d2, d3, d4] }
  | _ => none }
def ConformTellsWrongFalsely : Prop := conformTellsRow.holds Try.pinned (OpenSpec.ofChange conformTellsWrong)

/-- 'vergelaw33.ConformMakes': WHATEVER THE INPUT: true; the input reads as it did. -/
def conformMakesSpec : ChangeSpec := { name := "conformMakes", fn := fun _ => fun
  | [d1, d2, d3] => { results := [.lit (.bool true)], args := [d1, d2, d3] }
  | _ => none }
def conformMakesRow : OpenClaim := { program := "ytpdanmdpaanafaa", sum := "dc31387787df27d08287436150a3129936d8849245603223a95fd6f91cd90075", func := "verge/vergelaw33.ConformMakes", spec := "conformMakes", unfollowed := true, recurses := true, apart := false }
def ConformMakesSaid : Prop := conformMakesRow.holds Try.pinned (OpenSpec.ofChange conformMakesSpec)

/-- ITS FALSE NEIGHBOUR: 'it returns false'. Refute it at one input. -/
def conformMakesWrong : ChangeSpec := { name := "conformMakes", fn := fun _ => fun
  | [d1, d2, d3] => { results := [.lit (.bool false)], args := [d1, d2, d3] }
  | _ => none }
def ConformMakesWrongFalsely : Prop := conformMakesRow.holds Try.pinned (OpenSpec.ofChange conformMakesWrong)

/-- 'vergelaw28.RtaWithin': WHATEVER THE INPUT: true; the input reads as it did. -/
def rtaWithinSpec : ChangeSpec := { name := "rtaWithin", fn := fun _ => fun
  | [d1, d2] => { results := [.lit (.bool true)], args := [d1, d2] }
  | _ => none }
def rtaWithinRow : OpenClaim := { program := "ytpdanmdpaanafaa", sum := "dc31387787df27d08287436150a3129936d8849245603223a95fd6f91cd90075", func := "verge/vergelaw28.RtaWithin", spec := "rtaWithin", unfollowed := true, recurses := true, apart := false }
def RtaWithinSaid : Prop := rtaWithinRow.holds Try.pinned (OpenSpec.ofChange rtaWithinSpec)

/-- ITS FALSE NEIGHBOUR: 'it returns false'. Refute it at one input. -/
def rtaWithinWrong : ChangeSpec := { name := "rtaWithin", fn := fun _ => fun
  | [d1, d2] => { results := [.lit (.bool false)], args := [d1, d2] }
  | _ => none }
def RtaWithinWrongFalsely : Prop := rtaWithinRow.holds Try.pinned (OpenSpec.ofChange rtaWithinWrong)

/-- 'vergelaw28.RtaMore': WHATEVER THE INPUT: true; the input reads as it did. -/
def rtaMoreSpec : ChangeSpec := { name := "rtaMore", fn := fun _ => fun
  | [d1, d2, d3, d4, d5, d6, d7] => { results := [.lit (.bool true)], args := [d1, d2, d3, d4, d5, d6, d7] }
  | _ => none }
def rtaMoreRow : OpenClaim := { program := "ytpdanmdpaanafaa", sum := "dc31387787df27d08287436150a3129936d8849245603223a95fd6f91cd90075", func := "verge/vergelaw28.RtaMore", spec := "rtaMore", unfollowed := true, recurses := true, apart := false }
def RtaMoreSaid : Prop := rtaMoreRow.holds Try.pinned (OpenSpec.ofChange rtaMoreSpec)

/-- ITS FALSE NEIGHBOUR: 'it returns false'. Refute it at one input. -/
def rtaMoreWrong : ChangeSpec := { name := "rtaMore", fn := fun _ => fun
  | [d1, d2, d3, d4, d5, d6, d7] => { results := [.lit (.bool false)], args := [d1, d2, d3, d4, d5, d6, d7] }
  | _ => none }
def RtaMoreWrongFalsely : Prop := rtaMoreRow.holds Try.pinned (OpenSpec.ofChange rtaMoreWrong)

/-- 'vergelaw28.RtaUrgent': WHATEVER THE INPUT: true; the input reads as it did. -/
def rtaUrgentSpec : ChangeSpec := { name := "rtaUrgent", fn := fun _ => fun
  | [d1, d2] => { results := [.lit (.bool true)], args := [d1, d2] }
  | _ => none }
def rtaUrgentRow : OpenClaim := { program := "ytpdanmdpaanafaa", sum := "dc31387787df27d08287436150a3129936d8849245603223a95fd6f91cd90075", func := "verge/vergelaw28.RtaUrgent", spec := "rtaUrgent", unfollowed := true, recurses := true, apart := false }
def RtaUrgentSaid : Prop := rtaUrgentRow.holds Try.pinned (OpenSpec.ofChange rtaUrgentSpec)

/-- ITS FALSE NEIGHBOUR: 'it returns false'. Refute it at one input. -/
def rtaUrgentWrong : ChangeSpec := { name := "rtaUrgent", fn := fun _ => fun
  | [d1, d2] => { results := [.lit (.bool false)], args := [d1, d2] }
  | _ => none }
def RtaUrgentWrongFalsely : Prop := rtaUrgentRow.holds Try.pinned (OpenSpec.ofChange rtaUrgentWrong)

/- THE SECOND FORM. 'bulk': how many values and letters a reading holds, each counted each time it is reached (what is shared counts as often as it is met; a slice's spare places count too). A statement '..UptoSaid' is the law's where the arguments, and the package variables that the reading takes, are together of bulk at most 1048576: NARROWER than '..Said'. Prove '..Said' where nothing that the law and all that it calls make is longer than what came in: it says more and counts as full. Else prove '..UptoSaid'. A law counts once. -/
mutual
def uptoBulk {H : Type} : DataW H → Nat
  | .lit (.string bytes) => bytes.length + 1
  | .lit _ => 1
  | .nil => 1
  | .ptr d => uptoBulk d + 1
  | .slice elems spare => uptoBulkAll elems + uptoBulkAll spare + 1
  | .agg parts => uptoBulkAll parts + 1
  | .iface _ d => uptoBulk d + 1
  | .map entries => uptoBulkEntries entries + 1
  | .held _ => 1
def uptoBulkAll {H : Type} : List (DataW H) → Nat
  | [] => 0
  | d :: r => uptoBulk d + uptoBulkAll r
def uptoBulkEntries {H : Type} : List (Lit × DataW H) → Nat
  | [] => 0
  | x :: r => uptoBulkEntry x + uptoBulkEntries r
def uptoBulkEntry {H : Type} : Lit × DataW H → Nat
  | (.string bytes, d) => bytes.length + uptoBulk d + 1
  | (_, d) => uptoBulk d + 1
 end
def uptoSmall : (H : Type) → List (DataW H) → Bool := fun _ ds => decide (uptoBulkAll ds ≤ 1048576)
def OpenSpec.upto (s : _root_.Go.ChangeSpec) : _root_.Go.OpenSpec := { _root_.Go.OpenSpec.ofChange s with cond := some uptoSmall }

/-- 'vergelaw27.VetEnough', WHERE WHAT IT READS IS OF BULK AT MOST 1048576: true; the input reads as it did. -/
def vetEnoughUptoRow : OpenClaim := { program := "ytpdanmdpaanafaa", sum := "dc31387787df27d08287436150a3129936d8849245603223a95fd6f91cd90075", func := "verge/vergelaw27.VetEnough", spec := "vetEnough", unfollowed := true, recurses := true, apart := false, narrowed := true }
def VetEnoughUptoSaid : Prop := vetEnoughUptoRow.holds Try.pinned (OpenSpec.upto vetEnoughSpec)

/-- 'vergelaw33.ConformTells', WHERE WHAT IT READS IS OF BULK AT MOST 1048576: true; the input reads as it did. -/
def conformTellsUptoRow : OpenClaim := { program := "ytpdanmdpaanafaa", sum := "dc31387787df27d08287436150a3129936d8849245603223a95fd6f91cd90075", func := "verge/vergelaw33.ConformTells", spec := "conformTells", unfollowed := true, recurses := true, apart := false, narrowed := true }
def ConformTellsUptoSaid : Prop := conformTellsUptoRow.holds Try.pinned (OpenSpec.upto conformTellsSpec)

/-- 'vergelaw33.ConformMakes', WHERE WHAT IT READS IS OF BULK AT MOST 1048576: true; the input reads as it did. -/
def conformMakesUptoRow : OpenClaim := { program := "ytpdanmdpaanafaa", sum := "dc31387787df27d08287436150a3129936d8849245603223a95fd6f91cd90075", func := "verge/vergelaw33.ConformMakes", spec := "conformMakes", unfollowed := true, recurses := true, apart := false, narrowed := true }
def ConformMakesUptoSaid : Prop := conformMakesUptoRow.holds Try.pinned (OpenSpec.upto conformMakesSpec)

/-- 'vergelaw28.RtaWithin', WHERE WHAT IT READS IS OF BULK AT MOST 1048576: true; the input reads as it did. -/
def rtaWithinUptoRow : OpenClaim := { program := "ytpdanmdpaanafaa", sum := "dc31387787df27d08287436150a3129936d8849245603223a95fd6f91cd90075", func := "verge/vergelaw28.RtaWithin", spec := "rtaWithin", unfollowed := true, recurses := true, apart := false, narrowed := true }
def RtaWithinUptoSaid : Prop := rtaWithinUptoRow.holds Try.pinned (OpenSpec.upto rtaWithinSpec)

/-- 'vergelaw28.RtaMore', WHERE WHAT IT READS IS OF BULK AT MOST 1048576: true; the input reads as it did. -/
def rtaMoreUptoRow : OpenClaim := { program := "ytpdanmdpaanafaa", sum := "dc31387787df27d08287436150a3129936d8849245603223a95fd6f91cd90075", func := "verge/vergelaw28.RtaMore", spec := "rtaMore", unfollowed := true, recurses := true, apart := false, narrowed := true }
def RtaMoreUptoSaid : Prop := rtaMoreUptoRow.holds Try.pinned (OpenSpec.upto rtaMoreSpec)

/-- 'vergelaw28.RtaUrgent', WHERE WHAT IT READS IS OF BULK AT MOST 1048576: true; the input reads as it did. -/
def rtaUrgentUptoRow : OpenClaim := { program := "ytpdanmdpaanafaa", sum := "dc31387787df27d08287436150a3129936d8849245603223a95fd6f91cd90075", func := "verge/vergelaw28.RtaUrgent", spec := "rtaUrgent", unfollowed := true, recurses := true, apart := false, narrowed := true }
def RtaUrgentUptoSaid : Prop := rtaUrgentUptoRow.holds Try.pinned (OpenSpec.upto rtaUrgentSpec)

end Rows
end Go.Proofs.Ytpdanmdpaanafaa

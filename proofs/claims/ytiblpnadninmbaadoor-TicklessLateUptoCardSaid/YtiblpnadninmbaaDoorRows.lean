/-
  NARROWER THAN 'FOR EVERY INPUT', by the rows' own cells (each row's printed sentence says how): TimersPlay: laid · TimersDrift: laid · TimersParts: laid · TicklessLate: laid · WheelPlays: laid · WheelParts: laid · WheelNext: laid · WheelOnce: laid.
  DERIVED. THE GIVEN ROWS OF THIS SEAT. 8 by the template 'for every input the law returns true; each argument reads behind the call as it read before'; 0 by the template 'total and deterministic' (their statements: YtiblpnadninmbaaDoorTotals.lean).
  GIVEN WITH THE SEED: the statements are not yours to turn. If you find one false, say at which input.
  Laid BY PROGRAM, IN A SANDBOX (cutbox-rows.mjs): the forced cells as the released guide's own fill.sh prints them over the translation 59c7518946d74a1b… (all of the seat's roots in one cut). By AI agents, Wed Nov 11 2026. No macro, syntax, notation, axiom, sorry.
-/
import Derived.Test.YtiblpnadninmbaaDoorChecked
import GoSem.Claim
import GoSem.ClaimJoined
import GoSem.ClaimMapViews
import Derived.JoinedTies
import Derived.KernelRfl
namespace Go.Proofs.YtiblpnadninmbaaDoor
/- THE CELL 'sum', in the pinned program and in every row, IS THE sha256 OF THE DUMP (.gsa) THAT YtiblpnadninmbaaDoorProg.lean LOADS. Nothing in Lean hashes anything: it is a label: what it is worth is what the hold of that sum in a sandbox is worth. -/
noncomputable def Tryd.pinned : Pinned := { name := "ytiblpnadninmbaadoor", sum := "59c7518946d74a1b3eba6dd363b417c6dda9327222cf4dff87c961492e213371", checked := Tryd.checked }
namespace Rows
def none {H : Type} : Left H := { results := [], args := [] }

/- WHAT THE LISTED PACKAGE-LEVEL VARIABLES READ AS WHEN THE CALL BEGINS. Each datum BY PROGRAM (the guide's laid-datum.mjs) off the statement by which the dump's own 'gosem.cut.vars' lays the variable. In a bare row this is a premise. The card (YtiblpnadninmbaaDoorCards.lean) ties it to the program's text. -/
def laid_math_bits_deBruijn64tab {H : Type} : DataW H := .agg [.lit (.int .u8 0), .lit (.int .u8 1), .lit (.int .u8 56), .lit (.int .u8 2), .lit (.int .u8 57), .lit (.int .u8 49), .lit (.int .u8 28), .lit (.int .u8 3), .lit (.int .u8 61), .lit (.int .u8 58), .lit (.int .u8 42), .lit (.int .u8 50), .lit (.int .u8 38), .lit (.int .u8 29), .lit (.int .u8 17), .lit (.int .u8 4), .lit (.int .u8 62), .lit (.int .u8 47), .lit (.int .u8 59), .lit (.int .u8 36), .lit (.int .u8 45), .lit (.int .u8 43), .lit (.int .u8 51), .lit (.int .u8 22), .lit (.int .u8 53), .lit (.int .u8 39), .lit (.int .u8 33), .lit (.int .u8 30), .lit (.int .u8 24), .lit (.int .u8 18), .lit (.int .u8 12), .lit (.int .u8 5), .lit (.int .u8 63), .lit (.int .u8 55), .lit (.int .u8 48), .lit (.int .u8 27), .lit (.int .u8 60), .lit (.int .u8 41), .lit (.int .u8 37), .lit (.int .u8 16), .lit (.int .u8 46), .lit (.int .u8 35), .lit (.int .u8 44), .lit (.int .u8 21), .lit (.int .u8 52), .lit (.int .u8 32), .lit (.int .u8 23), .lit (.int .u8 11), .lit (.int .u8 54), .lit (.int .u8 26), .lit (.int .u8 40), .lit (.int .u8 15), .lit (.int .u8 34), .lit (.int .u8 20), .lit (.int .u8 31), .lit (.int .u8 10), .lit (.int .u8 25), .lit (.int .u8 14), .lit (.int .u8 19), .lit (.int .u8 9), .lit (.int .u8 13), .lit (.int .u8 8), .lit (.int .u8 7), .lit (.int .u8 6)]

/-- 'vergelaw09.TimersPlay': WHATEVER THE INPUT: true; the input reads as it did. -/
def timersPlaySpec : ChangeSpec := { name := "timersPlay", fn := fun _ => fun
  | [d1, d2, d3] => { results := [.lit (.bool true)], args := [d1, d2, d3] }
  | _ => none }
def timersPlayRow : OpenClaim := { program := "ytiblpnadninmbaadoor", sum := "59c7518946d74a1b3eba6dd363b417c6dda9327222cf4dff87c961492e213371", func := "verge/vergelaw09.TimersPlay", spec := "timersPlay", unfollowed := true, recurses := true, named := ["math/bits.deBruijn64tab"], apart := false, laid := [("math/bits.deBruijn64tab", laid_math_bits_deBruijn64tab)] }
def TimersPlaySaid : Prop := timersPlayRow.holds Tryd.pinned (OpenSpec.ofChange timersPlaySpec)

/-- ITS FALSE NEIGHBOUR: 'it returns false'. Refute it at one input. -/
def timersPlayWrong : ChangeSpec := { name := "timersPlay", fn := fun _ => fun
  | [d1, d2, d3] => { results := [.lit (.bool false)], args := [d1, d2, d3] }
  | _ => none }
def TimersPlayWrongFalsely : Prop := timersPlayRow.holds Tryd.pinned (OpenSpec.ofChange timersPlayWrong)

/-- 'vergelaw09.TimersDrift': WHATEVER THE INPUT: true; the input reads as it did. -/
def timersDriftSpec : ChangeSpec := { name := "timersDrift", fn := fun _ => fun
  | [d1, d2, d3, d4] => { results := [.lit (.bool true)], args := [d1, d2, d3, d4] }
  | _ => none }
def timersDriftRow : OpenClaim := { program := "ytiblpnadninmbaadoor", sum := "59c7518946d74a1b3eba6dd363b417c6dda9327222cf4dff87c961492e213371", func := "verge/vergelaw09.TimersDrift", spec := "timersDrift", unfollowed := true, recurses := true, named := ["math/bits.deBruijn64tab"], apart := false, laid := [("math/bits.deBruijn64tab", laid_math_bits_deBruijn64tab)] }
def TimersDriftSaid : Prop := timersDriftRow.holds Tryd.pinned (OpenSpec.ofChange timersDriftSpec)

/-- ITS FALSE NEIGHBOUR: 'it returns false'. Refute it at one input. -/
def timersDriftWrong : ChangeSpec := { name := "timersDrift", fn := fun _ => fun
  | [d1, d2, d3, d4] => { results := [.lit (.bool false)], args := [d1, d2, d3, d4] }
  | _ => none }
def TimersDriftWrongFalsely : Prop := timersDriftRow.holds Tryd.pinned (OpenSpec.ofChange timersDriftWrong)

/-- 'vergelaw09.TimersParts': WHATEVER THE INPUT: true; the input reads as it did. -/
def timersPartsSpec : ChangeSpec := { name := "timersParts", fn := fun _ => fun
  | [d1, d2, d3, d4, d5] => { results := [.lit (.bool true)], args := [d1, d2, d3, d4, d5] }
  | _ => none }
def timersPartsRow : OpenClaim := { program := "ytiblpnadninmbaadoor", sum := "59c7518946d74a1b3eba6dd363b417c6dda9327222cf4dff87c961492e213371", func := "verge/vergelaw09.TimersParts", spec := "timersParts", unfollowed := true, recurses := true, named := ["math/bits.deBruijn64tab"], apart := false, laid := [("math/bits.deBruijn64tab", laid_math_bits_deBruijn64tab)] }
def TimersPartsSaid : Prop := timersPartsRow.holds Tryd.pinned (OpenSpec.ofChange timersPartsSpec)

/-- ITS FALSE NEIGHBOUR: 'it returns false'. Refute it at one input. -/
def timersPartsWrong : ChangeSpec := { name := "timersParts", fn := fun _ => fun
  | [d1, d2, d3, d4, d5] => { results := [.lit (.bool false)], args := [d1, d2, d3, d4, d5] }
  | _ => none }
def TimersPartsWrongFalsely : Prop := timersPartsRow.holds Tryd.pinned (OpenSpec.ofChange timersPartsWrong)

/-- 'vergelaw10.TicklessLate': WHATEVER THE INPUT: true; the input reads as it did. -/
def ticklessLateSpec : ChangeSpec := { name := "ticklessLate", fn := fun _ => fun
  | [d1, d2, d3, d4] => { results := [.lit (.bool true)], args := [d1, d2, d3, d4] }
  | _ => none }
def ticklessLateRow : OpenClaim := { program := "ytiblpnadninmbaadoor", sum := "59c7518946d74a1b3eba6dd363b417c6dda9327222cf4dff87c961492e213371", func := "verge/vergelaw10.TicklessLate", spec := "ticklessLate", unfollowed := true, recurses := true, named := ["math/bits.deBruijn64tab"], apart := false, laid := [("math/bits.deBruijn64tab", laid_math_bits_deBruijn64tab)] }
def TicklessLateSaid : Prop := ticklessLateRow.holds Tryd.pinned (OpenSpec.ofChange ticklessLateSpec)

/-- ITS FALSE NEIGHBOUR: 'it returns false'. Refute it at one input. -/
def ticklessLateWrong : ChangeSpec := { name := "ticklessLate", fn := fun _ => fun
  | [d1, d2, d3, d4] => { results := [.lit (.bool false)], args := [d1, d2, d3, d4] }
  | _ => none }
def TicklessLateWrongFalsely : Prop := ticklessLateRow.holds Tryd.pinned (OpenSpec.ofChange ticklessLateWrong)

/-- 'vergelaw08.WheelPlays': WHATEVER THE INPUT: true; the input reads as it did. -/
def wheelPlaysSpec : ChangeSpec := { name := "wheelPlays", fn := fun _ => fun
  | [d1, d2, d3] => { results := [.lit (.bool true)], args := [d1, d2, d3] }
  | _ => none }
def wheelPlaysRow : OpenClaim := { program := "ytiblpnadninmbaadoor", sum := "59c7518946d74a1b3eba6dd363b417c6dda9327222cf4dff87c961492e213371", func := "verge/vergelaw08.WheelPlays", spec := "wheelPlays", unfollowed := true, recurses := true, named := ["math/bits.deBruijn64tab"], apart := false, laid := [("math/bits.deBruijn64tab", laid_math_bits_deBruijn64tab)] }
def WheelPlaysSaid : Prop := wheelPlaysRow.holds Tryd.pinned (OpenSpec.ofChange wheelPlaysSpec)

/-- ITS FALSE NEIGHBOUR: 'it returns false'. Refute it at one input. -/
def wheelPlaysWrong : ChangeSpec := { name := "wheelPlays", fn := fun _ => fun
  | [d1, d2, d3] => { results := [.lit (.bool false)], args := [d1, d2, d3] }
  | _ => none }
def WheelPlaysWrongFalsely : Prop := wheelPlaysRow.holds Tryd.pinned (OpenSpec.ofChange wheelPlaysWrong)

/-- 'vergelaw08.WheelParts': WHATEVER THE INPUT: true; the input reads as it did. -/
def wheelPartsSpec : ChangeSpec := { name := "wheelParts", fn := fun _ => fun
  | [d1, d2, d3, d4] => { results := [.lit (.bool true)], args := [d1, d2, d3, d4] }
  | _ => none }
def wheelPartsRow : OpenClaim := { program := "ytiblpnadninmbaadoor", sum := "59c7518946d74a1b3eba6dd363b417c6dda9327222cf4dff87c961492e213371", func := "verge/vergelaw08.WheelParts", spec := "wheelParts", unfollowed := true, recurses := true, named := ["math/bits.deBruijn64tab"], apart := false, laid := [("math/bits.deBruijn64tab", laid_math_bits_deBruijn64tab)] }
def WheelPartsSaid : Prop := wheelPartsRow.holds Tryd.pinned (OpenSpec.ofChange wheelPartsSpec)

/-- ITS FALSE NEIGHBOUR: 'it returns false'. Refute it at one input. -/
def wheelPartsWrong : ChangeSpec := { name := "wheelParts", fn := fun _ => fun
  | [d1, d2, d3, d4] => { results := [.lit (.bool false)], args := [d1, d2, d3, d4] }
  | _ => none }
def WheelPartsWrongFalsely : Prop := wheelPartsRow.holds Tryd.pinned (OpenSpec.ofChange wheelPartsWrong)

/-- 'vergelaw08.WheelNext': WHATEVER THE INPUT: true; the input reads as it did. -/
def wheelNextSpec : ChangeSpec := { name := "wheelNext", fn := fun _ => fun
  | [d1, d2, d3] => { results := [.lit (.bool true)], args := [d1, d2, d3] }
  | _ => none }
def wheelNextRow : OpenClaim := { program := "ytiblpnadninmbaadoor", sum := "59c7518946d74a1b3eba6dd363b417c6dda9327222cf4dff87c961492e213371", func := "verge/vergelaw08.WheelNext", spec := "wheelNext", unfollowed := true, recurses := true, named := ["math/bits.deBruijn64tab"], apart := false, laid := [("math/bits.deBruijn64tab", laid_math_bits_deBruijn64tab)] }
def WheelNextSaid : Prop := wheelNextRow.holds Tryd.pinned (OpenSpec.ofChange wheelNextSpec)

/-- ITS FALSE NEIGHBOUR: 'it returns false'. Refute it at one input. -/
def wheelNextWrong : ChangeSpec := { name := "wheelNext", fn := fun _ => fun
  | [d1, d2, d3] => { results := [.lit (.bool false)], args := [d1, d2, d3] }
  | _ => none }
def WheelNextWrongFalsely : Prop := wheelNextRow.holds Tryd.pinned (OpenSpec.ofChange wheelNextWrong)

/-- 'vergelaw08.WheelOnce': WHATEVER THE INPUT: true; the input reads as it did. -/
def wheelOnceSpec : ChangeSpec := { name := "wheelOnce", fn := fun _ => fun
  | [d1, d2, d3, d4, d5] => { results := [.lit (.bool true)], args := [d1, d2, d3, d4, d5] }
  | _ => none }
def wheelOnceRow : OpenClaim := { program := "ytiblpnadninmbaadoor", sum := "59c7518946d74a1b3eba6dd363b417c6dda9327222cf4dff87c961492e213371", func := "verge/vergelaw08.WheelOnce", spec := "wheelOnce", unfollowed := true, recurses := true, named := ["math/bits.deBruijn64tab"], apart := false, laid := [("math/bits.deBruijn64tab", laid_math_bits_deBruijn64tab)] }
def WheelOnceSaid : Prop := wheelOnceRow.holds Tryd.pinned (OpenSpec.ofChange wheelOnceSpec)

/-- ITS FALSE NEIGHBOUR: 'it returns false'. Refute it at one input. -/
def wheelOnceWrong : ChangeSpec := { name := "wheelOnce", fn := fun _ => fun
  | [d1, d2, d3, d4, d5] => { results := [.lit (.bool false)], args := [d1, d2, d3, d4, d5] }
  | _ => none }
def WheelOnceWrongFalsely : Prop := wheelOnceRow.holds Tryd.pinned (OpenSpec.ofChange wheelOnceWrong)

/- THE SECOND FORM. 'bulk': how many values and letters a reading holds, each counted each time it is reached (what is shared counts as often as it is met; a slice's spare places count too). A statement '..UptoSaid' is the law's where the arguments, and the package variables that the reading takes, are together of bulk at most 1048576: NARROWER than '..Said'. Prove '..Said' where nothing that the law and all that it calls make is longer than what came in: it says more and counts as full. Else prove '..UptoSaid'. A law counts once. -/
mutual
def uptoBulk {H : Type} : DataW H → Nat
  | .lit (.string bytes) => bytes.length + 1
  | .lit _ => 1
  | .nil => 1
  | .ptr d => uptoBulk d + 1
  | .slice elems spare => uptoBulkAll elems + uptoBulkAll spare + 1
  | .agg parts => uptoBulkAll parts + 1
  | .iface _ d => uptoBulk d + 1
  | .map entries => uptoBulkEntries entries + 1
  | .held _ => 1
def uptoBulkAll {H : Type} : List (DataW H) → Nat
  | [] => 0
  | d :: r => uptoBulk d + uptoBulkAll r
def uptoBulkEntries {H : Type} : List (Lit × DataW H) → Nat
  | [] => 0
  | x :: r => uptoBulkEntry x + uptoBulkEntries r
def uptoBulkEntry {H : Type} : Lit × DataW H → Nat
  | (.string bytes, d) => bytes.length + uptoBulk d + 1
  | (_, d) => uptoBulk d + 1
 end
def uptoSmall : (H : Type) → List (DataW H) → Bool := fun _ ds => decide (uptoBulkAll ds ≤ 1048576)
def OpenSpec.upto (s : _root_.Go.ChangeSpec) : _root_.Go.OpenSpec := { _root_.Go.OpenSpec.ofChange s with cond := some uptoSmall }

/-- 'vergelaw09.TimersPlay', WHERE WHAT IT READS IS OF BULK AT MOST 1048576: true; the input reads as it did. -/
def timersPlayUptoRow : OpenClaim := { program := "ytiblpnadninmbaadoor", sum := "59c7518946d74a1b3eba6dd363b417c6dda9327222cf4dff87c961492e213371", func := "verge/vergelaw09.TimersPlay", spec := "timersPlay", unfollowed := true, recurses := true, named := ["math/bits.deBruijn64tab"], apart := false, laid := [("math/bits.deBruijn64tab", laid_math_bits_deBruijn64tab)], narrowed := true }
def TimersPlayUptoSaid : Prop := timersPlayUptoRow.holds Tryd.pinned (OpenSpec.upto timersPlaySpec)

/-- 'vergelaw09.TimersDrift', WHERE WHAT IT READS IS OF BULK AT MOST 1048576: true; the input reads as it did. -/
def timersDriftUptoRow : OpenClaim := { program := "ytiblpnadninmbaadoor", sum := "59c7518946d74a1b3eba6dd363b417c6dda9327222cf4dff87c961492e213371", func := "verge/vergelaw09.TimersDrift", spec := "timersDrift", unfollowed := true, recurses := true, named := ["math/bits.deBruijn64tab"], apart := false, laid := [("math/bits.deBruijn64tab", laid_math_bits_deBruijn64tab)], narrowed := true }
def TimersDriftUptoSaid : Prop := timersDriftUptoRow.holds Tryd.pinned (OpenSpec.upto timersDriftSpec)

/-- 'vergelaw09.TimersParts', WHERE WHAT IT READS IS OF BULK AT MOST 1048576: true; the input reads as it did. -/
def timersPartsUptoRow : OpenClaim := { program := "ytiblpnadninmbaadoor", sum := "59c7518946d74a1b3eba6dd363b417c6dda9327222cf4dff87c961492e213371", func := "verge/vergelaw09.TimersParts", spec := "timersParts", unfollowed := true, recurses := true, named := ["math/bits.deBruijn64tab"], apart := false, laid := [("math/bits.deBruijn64tab", laid_math_bits_deBruijn64tab)], narrowed := true }
def TimersPartsUptoSaid : Prop := timersPartsUptoRow.holds Tryd.pinned (OpenSpec.upto timersPartsSpec)

/-- 'vergelaw10.TicklessLate', WHERE WHAT IT READS IS OF BULK AT MOST 1048576: true; the input reads as it did. -/
def ticklessLateUptoRow : OpenClaim := { program := "ytiblpnadninmbaadoor", sum := "59c7518946d74a1b3eba6dd363b417c6dda9327222cf4dff87c961492e213371", func := "verge/vergelaw10.TicklessLate", spec := "ticklessLate", unfollowed := true, recurses := true, named := ["math/bits.deBruijn64tab"], apart := false, laid := [("math/bits.deBruijn64tab", laid_math_bits_deBruijn64tab)], narrowed := true }
def TicklessLateUptoSaid : Prop := ticklessLateUptoRow.holds Tryd.pinned (OpenSpec.upto ticklessLateSpec)

/-- 'vergelaw08.WheelPlays', WHERE WHAT IT READS IS OF BULK AT MOST 1048576: true; the input reads as it did. -/
def wheelPlaysUptoRow : OpenClaim := { program := "ytiblpnadninmbaadoor", sum := "59c7518946d74a1b3eba6dd363b417c6dda9327222cf4dff87c961492e213371", func := "verge/vergelaw08.WheelPlays", spec := "wheelPlays", unfollowed := true, recurses := true, named := ["math/bits.deBruijn64tab"], apart := false, laid := [("math/bits.deBruijn64tab", laid_math_bits_deBruijn64tab)], narrowed := true }
def WheelPlaysUptoSaid : Prop := wheelPlaysUptoRow.holds Tryd.pinned (OpenSpec.upto wheelPlaysSpec)

/-- 'vergelaw08.WheelParts', WHERE WHAT IT READS IS OF BULK AT MOST 1048576: true; the input reads as it did. -/
def wheelPartsUptoRow : OpenClaim := { program := "ytiblpnadninmbaadoor", sum := "59c7518946d74a1b3eba6dd363b417c6dda9327222cf4dff87c961492e213371", func := "verge/vergelaw08.WheelParts", spec := "wheelParts", unfollowed := true, recurses := true, named := ["math/bits.deBruijn64tab"], apart := false, laid := [("math/bits.deBruijn64tab", laid_math_bits_deBruijn64tab)], narrowed := true }
def WheelPartsUptoSaid : Prop := wheelPartsUptoRow.holds Tryd.pinned (OpenSpec.upto wheelPartsSpec)

/-- 'vergelaw08.WheelNext', WHERE WHAT IT READS IS OF BULK AT MOST 1048576: true; the input reads as it did. -/
def wheelNextUptoRow : OpenClaim := { program := "ytiblpnadninmbaadoor", sum := "59c7518946d74a1b3eba6dd363b417c6dda9327222cf4dff87c961492e213371", func := "verge/vergelaw08.WheelNext", spec := "wheelNext", unfollowed := true, recurses := true, named := ["math/bits.deBruijn64tab"], apart := false, laid := [("math/bits.deBruijn64tab", laid_math_bits_deBruijn64tab)], narrowed := true }
def WheelNextUptoSaid : Prop := wheelNextUptoRow.holds Tryd.pinned (OpenSpec.upto wheelNextSpec)

/-- 'vergelaw08.WheelOnce', WHERE WHAT IT READS IS OF BULK AT MOST 1048576: true; the input reads as it did. -/
def wheelOnceUptoRow : OpenClaim := { program := "ytiblpnadninmbaadoor", sum := "59c7518946d74a1b3eba6dd363b417c6dda9327222cf4dff87c961492e213371", func := "verge/vergelaw08.WheelOnce", spec := "wheelOnce", unfollowed := true, recurses := true, named := ["math/bits.deBruijn64tab"], apart := false, laid := [("math/bits.deBruijn64tab", laid_math_bits_deBruijn64tab)], narrowed := true }
def WheelOnceUptoSaid : Prop := wheelOnceUptoRow.holds Tryd.pinned (OpenSpec.upto wheelOnceSpec)

end Rows
end Go.Proofs.YtiblpnadninmbaaDoor

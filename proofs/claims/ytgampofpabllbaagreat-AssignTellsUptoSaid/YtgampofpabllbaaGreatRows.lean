/-
  No cell of these rows narrows 'for every input' (looked for: loops, veiled, ifaces, maps, wideKeys, modest, calm, conditions, laid).
  DERIVED. THE GIVEN ROWS OF THIS SEAT. 4 by the template 'for every input the law returns true; each argument reads behind the call as it read before'; 0 by the template 'total and deterministic' (their statements: YtgampofpabllbaaGreatTotals.lean).
  GIVEN WITH THE SEED: the statements are not yours to turn. If you find one false, say at which input.
  Laid BY PROGRAM, IN A SANDBOX (cutbox-rows.mjs): the forced cells as the released guide's own fill.sh prints them over the translation e3332ed80100f8ee… (all of the seat's roots in one cut). By AI agents, Wed Nov 11 2026. No macro, syntax, notation, axiom, sorry.
-/
import Derived.Test.YtgampofpabllbaaGreatChecked
import GoSem.Claim
import GoSem.ClaimJoined
import GoSem.ClaimMapViews
import Derived.JoinedTies
import Derived.KernelRfl
namespace Go.Proofs.YtgampofpabllbaaGreat
/- THE CELL 'sum', in the pinned program and in every row, IS THE sha256 OF THE DUMP (.gsa) THAT YtgampofpabllbaaGreatProg.lean LOADS. Nothing in Lean hashes anything: it is a label: what it is worth is what the hold of that sum in a sandbox is worth. -/
noncomputable def Tryz.pinned : Pinned := { name := "ytgampofpabllbaagreat", sum := "e3332ed80100f8ee7ed3b0fa95fa6232d0f051854feb7b0bd3ddaaf51a29181b", checked := Tryz.checked }
namespace Rows
def none {H : Type} : Left H := { results := [], args := [] }

/-- 'vergelaw36.AssignTells': WHATEVER THE INPUT: true; the input reads as it did. -/
def assignTellsSpec : ChangeSpec := { name := "assignTells", fn := fun _ => fun
  | [d1, d2] => { results := [.lit (.bool true)], args := [d1, d2] }
  | _ => none }
def assignTellsRow : OpenClaim := { program := "ytgampofpabllbaagreat", sum := "e3332ed80100f8ee7ed3b0fa95fa6232d0f051854feb7b0bd3ddaaf51a29181b", func := "verge/vergelaw36.AssignTells", spec := "assignTells", unfollowed := true, recurses := true, apart := false }
def AssignTellsSaid : Prop := assignTellsRow.holds Tryz.pinned (OpenSpec.ofChange assignTellsSpec)

/-- ITS FALSE NEIGHBOUR: 'it returns false'. Refute it at one input. -/
def assignTellsWrong : ChangeSpec := { name := "assignTells", fn := fun _ => fun
  | [d1, d2] => { results := [.lit (.bool false)], args := [d1, d2] }
  | _ => none }
def AssignTellsWrongFalsely : Prop := assignTellsRow.holds Tryz.pinned (OpenSpec.ofChange assignTellsWrong)

/-- 'vergelaw36.AssignOrder': WHATEVER THE INPUT: true; the input reads as it did. -/
def assignOrderSpec : ChangeSpec := { name := "assignOrder", fn := fun _ => fun
  | [d] => { results := [.lit (.bool true)], args := [d] }
  | _ => none }
def assignOrderRow : OpenClaim := { program := "ytgampofpabllbaagreat", sum := "e3332ed80100f8ee7ed3b0fa95fa6232d0f051854feb7b0bd3ddaaf51a29181b", func := "verge/vergelaw36.AssignOrder", spec := "assignOrder", unfollowed := true, recurses := true, apart := false }
def AssignOrderSaid : Prop := assignOrderRow.holds Tryz.pinned (OpenSpec.ofChange assignOrderSpec)

/-- ITS FALSE NEIGHBOUR: 'it returns false'. Refute it at one input. -/
def assignOrderWrong : ChangeSpec := { name := "assignOrder", fn := fun _ => fun
  | [d] => { results := [.lit (.bool false)], args := [d] }
  | _ => none }
def AssignOrderWrongFalsely : Prop := assignOrderRow.holds Tryz.pinned (OpenSpec.ofChange assignOrderWrong)

/-- 'vergelaw36.AssignGood': WHATEVER THE INPUT: true; the input reads as it did. -/
def assignGoodSpec : ChangeSpec := { name := "assignGood", fn := fun _ => fun
  | [d] => { results := [.lit (.bool true)], args := [d] }
  | _ => none }
def assignGoodRow : OpenClaim := { program := "ytgampofpabllbaagreat", sum := "e3332ed80100f8ee7ed3b0fa95fa6232d0f051854feb7b0bd3ddaaf51a29181b", func := "verge/vergelaw36.AssignGood", spec := "assignGood", unfollowed := true, recurses := true, apart := false }
def AssignGoodSaid : Prop := assignGoodRow.holds Tryz.pinned (OpenSpec.ofChange assignGoodSpec)

/-- ITS FALSE NEIGHBOUR: 'it returns false'. Refute it at one input. -/
def assignGoodWrong : ChangeSpec := { name := "assignGood", fn := fun _ => fun
  | [d] => { results := [.lit (.bool false)], args := [d] }
  | _ => none }
def AssignGoodWrongFalsely : Prop := assignGoodRow.holds Tryz.pinned (OpenSpec.ofChange assignGoodWrong)

/-- 'vergelaw36.AssignBest': WHATEVER THE INPUT: true; the input reads as it did. -/
def assignBestSpec : ChangeSpec := { name := "assignBest", fn := fun _ => fun
  | [d1, d2] => { results := [.lit (.bool true)], args := [d1, d2] }
  | _ => none }
def assignBestRow : OpenClaim := { program := "ytgampofpabllbaagreat", sum := "e3332ed80100f8ee7ed3b0fa95fa6232d0f051854feb7b0bd3ddaaf51a29181b", func := "verge/vergelaw36.AssignBest", spec := "assignBest", unfollowed := true, recurses := true, apart := false }
def AssignBestSaid : Prop := assignBestRow.holds Tryz.pinned (OpenSpec.ofChange assignBestSpec)

/-- ITS FALSE NEIGHBOUR: 'it returns false'. Refute it at one input. -/
def assignBestWrong : ChangeSpec := { name := "assignBest", fn := fun _ => fun
  | [d1, d2] => { results := [.lit (.bool false)], args := [d1, d2] }
  | _ => none }
def AssignBestWrongFalsely : Prop := assignBestRow.holds Tryz.pinned (OpenSpec.ofChange assignBestWrong)

/- THE SECOND FORM. 'bulk': how many values and letters a reading holds, each counted each time it is reached (what is shared counts as often as it is met; a slice's spare places count too). A statement '..UptoSaid' is the law's where the arguments, and the package variables that the reading takes, are together of bulk at most 1048576: NARROWER than '..Said'. Prove '..Said' where nothing that the law and all that it calls make is longer than what came in: it says more and counts as full. Else prove '..UptoSaid'. A law counts once. -/
mutual
def uptoBulk {H : Type} : DataW H → Nat
  | .lit (.string bytes) => bytes.length + 1
  | .lit _ => 1
  | .nil => 1
  | .ptr d => uptoBulk d + 1
  | .slice elems spare => uptoBulkAll elems + uptoBulkAll spare + 1
  | .agg parts => uptoBulkAll parts + 1
  | .iface _ d => uptoBulk d + 1
  | .map entries => uptoBulkEntries entries + 1
  | .held _ => 1
def uptoBulkAll {H : Type} : List (DataW H) → Nat
  | [] => 0
  | d :: r => uptoBulk d + uptoBulkAll r
def uptoBulkEntries {H : Type} : List (Lit × DataW H) → Nat
  | [] => 0
  | x :: r => uptoBulkEntry x + uptoBulkEntries r
def uptoBulkEntry {H : Type} : Lit × DataW H → Nat
  | (.string bytes, d) => bytes.length + uptoBulk d + 1
  | (_, d) => uptoBulk d + 1
 end
def uptoSmall : (H : Type) → List (DataW H) → Bool := fun _ ds => decide (uptoBulkAll ds ≤ 1048576)
def OpenSpec.upto (s : _root_.Go.ChangeSpec) : _root_.Go.OpenSpec := { _root_.Go.OpenSpec.ofChange s with cond := some uptoSmall }

/-- 'vergelaw36.AssignTells', WHERE WHAT IT READS IS OF BULK AT MOST 1048576: true; the input reads as it did. -/
def assignTellsUptoRow : OpenClaim := { program := "ytgampofpabllbaagreat", sum := "e3332ed80100f8ee7ed3b0fa95fa6232d0f051854feb7b0bd3ddaaf51a29181b", func := "verge/vergelaw36.AssignTells", spec := "assignTells", unfollowed := true, recurses := true, apart := false, narrowed := true }
def AssignTellsUptoSaid : Prop := assignTellsUptoRow.holds Tryz.pinned (OpenSpec.upto assignTellsSpec)

/-- 'vergelaw36.AssignOrder', WHERE WHAT IT READS IS OF BULK AT MOST 1048576: true; the input reads as it did. -/
def assignOrderUptoRow : OpenClaim := { program := "ytgampofpabllbaagreat", sum := "e3332ed80100f8ee7ed3b0fa95fa6232d0f051854feb7b0bd3ddaaf51a29181b", func := "verge/vergelaw36.AssignOrder", spec := "assignOrder", unfollowed := true, recurses := true, apart := false, narrowed := true }
def AssignOrderUptoSaid : Prop := assignOrderUptoRow.holds Tryz.pinned (OpenSpec.upto assignOrderSpec)

/-- 'vergelaw36.AssignGood', WHERE WHAT IT READS IS OF BULK AT MOST 1048576: true; the input reads as it did. -/
def assignGoodUptoRow : OpenClaim := { program := "ytgampofpabllbaagreat", sum := "e3332ed80100f8ee7ed3b0fa95fa6232d0f051854feb7b0bd3ddaaf51a29181b", func := "verge/vergelaw36.AssignGood", spec := "assignGood", unfollowed := true, recurses := true, apart := false, narrowed := true }
def AssignGoodUptoSaid : Prop := assignGoodUptoRow.holds Tryz.pinned (OpenSpec.upto assignGoodSpec)

/-- 'vergelaw36.AssignBest', WHERE WHAT IT READS IS OF BULK AT MOST 1048576: true; the input reads as it did. -/
def assignBestUptoRow : OpenClaim := { program := "ytgampofpabllbaagreat", sum := "e3332ed80100f8ee7ed3b0fa95fa6232d0f051854feb7b0bd3ddaaf51a29181b", func := "verge/vergelaw36.AssignBest", spec := "assignBest", unfollowed := true, recurses := true, apart := false, narrowed := true }
def AssignBestUptoSaid : Prop := assignBestUptoRow.holds Tryz.pinned (OpenSpec.upto assignBestSpec)

end Rows
end Go.Proofs.YtgampofpabllbaaGreat

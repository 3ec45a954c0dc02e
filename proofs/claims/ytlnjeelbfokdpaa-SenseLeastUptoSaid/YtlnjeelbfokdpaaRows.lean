/-
  No cell of these rows narrows 'for every input' (looked for: loops, veiled, ifaces, maps, wideKeys, modest, calm, conditions, laid).
  DERIVED. THE GIVEN ROWS OF THIS SEAT. 4 by the template 'for every input the law returns true; each argument reads behind the call as it read before'; 0 by the template 'total and deterministic' (their statements: YtlnjeelbfokdpaaTotals.lean).
  GIVEN WITH THE SEED: the statements are not yours to turn. If you find one false, say at which input.
  Laid BY PROGRAM, IN A SANDBOX (cutbox-rows.mjs): the forced cells as the released guide's own fill.sh prints them over the translation 26ebe0f3bb5ed29d… (all of the seat's roots in one cut). By AI agents, Wed Nov 11 2026. No macro, syntax, notation, axiom, sorry.
-/
import Derived.Test.YtlnjeelbfokdpaaChecked
import GoSem.Claim
import GoSem.ClaimJoined
import GoSem.ClaimMapViews
import Derived.JoinedTies
import Derived.KernelRfl
namespace Go.Proofs.Ytlnjeelbfokdpaa
/- THE CELL 'sum', in the pinned program and in every row, IS THE sha256 OF THE DUMP (.gsa) THAT YtlnjeelbfokdpaaProg.lean LOADS. Nothing in Lean hashes anything: it is a label: what it is worth is what the hold of that sum in a sandbox is worth. -/
noncomputable def Try.pinned : Pinned := { name := "ytlnjeelbfokdpaa", sum := "26ebe0f3bb5ed29dc6bd8b4f56e0136ef6d2858ff13d102691099f7cbd25555e", checked := Try.checked }
namespace Rows
def none {H : Type} : Left H := { results := [], args := [] }

/-- 'vergelaw29.AdmitSome': WHATEVER THE INPUT: true; the input reads as it did. -/
def admitSomeSpec : ChangeSpec := { name := "admitSome", fn := fun _ => fun
  | [d] => { results := [.lit (.bool true)], args := [d] }
  | _ => none }
def admitSomeRow : OpenClaim := { program := "ytlnjeelbfokdpaa", sum := "26ebe0f3bb5ed29dc6bd8b4f56e0136ef6d2858ff13d102691099f7cbd25555e", func := "verge/vergelaw29.AdmitSome", spec := "admitSome", unfollowed := true, recurses := true, apart := false }
def AdmitSomeSaid : Prop := admitSomeRow.holds Try.pinned (OpenSpec.ofChange admitSomeSpec)

/-- ITS FALSE NEIGHBOUR: 'it returns false'. Refute it at one input. -/
def admitSomeWrong : ChangeSpec := { name := "admitSome", fn := fun _ => fun
  | [d] => { results := [.lit (.bool false)], args := [d] }
  | _ => none }
def AdmitSomeWrongFalsely : Prop := admitSomeRow.holds Try.pinned (OpenSpec.ofChange admitSomeWrong)

/-- 'vergelaw29.AdmitAll': WHATEVER THE INPUT: true; the input reads as it did. -/
def admitAllSpec : ChangeSpec := { name := "admitAll", fn := fun _ => fun
  | [d] => { results := [.lit (.bool true)], args := [d] }
  | _ => none }
def admitAllRow : OpenClaim := { program := "ytlnjeelbfokdpaa", sum := "26ebe0f3bb5ed29dc6bd8b4f56e0136ef6d2858ff13d102691099f7cbd25555e", func := "verge/vergelaw29.AdmitAll", spec := "admitAll", unfollowed := true, recurses := true, apart := false }
def AdmitAllSaid : Prop := admitAllRow.holds Try.pinned (OpenSpec.ofChange admitAllSpec)

/-- ITS FALSE NEIGHBOUR: 'it returns false'. Refute it at one input. -/
def admitAllWrong : ChangeSpec := { name := "admitAll", fn := fun _ => fun
  | [d] => { results := [.lit (.bool false)], args := [d] }
  | _ => none }
def AdmitAllWrongFalsely : Prop := admitAllRow.holds Try.pinned (OpenSpec.ofChange admitAllWrong)

/-- 'vergelaw37.SenseEdge': WHATEVER THE INPUT: true; the input reads as it did. -/
def senseEdgeSpec : ChangeSpec := { name := "senseEdge", fn := fun _ => fun
  | [d1, d2] => { results := [.lit (.bool true)], args := [d1, d2] }
  | _ => none }
def senseEdgeRow : OpenClaim := { program := "ytlnjeelbfokdpaa", sum := "26ebe0f3bb5ed29dc6bd8b4f56e0136ef6d2858ff13d102691099f7cbd25555e", func := "verge/vergelaw37.SenseEdge", spec := "senseEdge", unfollowed := true, recurses := true, apart := false }
def SenseEdgeSaid : Prop := senseEdgeRow.holds Try.pinned (OpenSpec.ofChange senseEdgeSpec)

/-- ITS FALSE NEIGHBOUR: 'it returns false'. Refute it at one input. -/
def senseEdgeWrong : ChangeSpec := { name := "senseEdge", fn := fun _ => fun
  | [d1, d2] => { results := [.lit (.bool false)], args := [d1, d2] }
  | _ => none }
def SenseEdgeWrongFalsely : Prop := senseEdgeRow.holds Try.pinned (OpenSpec.ofChange senseEdgeWrong)

/-- 'vergelaw37.SenseLeast': WHATEVER THE INPUT: true; the input reads as it did. -/
def senseLeastSpec : ChangeSpec := { name := "senseLeast", fn := fun _ => fun
  | [d1, d2] => { results := [.lit (.bool true)], args := [d1, d2] }
  | _ => none }
def senseLeastRow : OpenClaim := { program := "ytlnjeelbfokdpaa", sum := "26ebe0f3bb5ed29dc6bd8b4f56e0136ef6d2858ff13d102691099f7cbd25555e", func := "verge/vergelaw37.SenseLeast", spec := "senseLeast", unfollowed := true, recurses := true, apart := false }
def SenseLeastSaid : Prop := senseLeastRow.holds Try.pinned (OpenSpec.ofChange senseLeastSpec)

/-- ITS FALSE NEIGHBOUR: 'it returns false'. Refute it at one input. -/
def senseLeastWrong : ChangeSpec := { name := "senseLeast", fn := fun _ => fun
  | [d1, d2] => { results := [.lit (.bool false)], args := [d1, d2] }
  | _ => none }
def SenseLeastWrongFalsely : Prop := senseLeastRow.holds Try.pinned (OpenSpec.ofChange senseLeastWrong)

/- THE SECOND FORM. 'bulk': how many values and letters a reading holds, each counted each time it is reached (what is shared counts as often as it is met; a slice's spare places count too). A statement '..UptoSaid' is the law's where the arguments, and the package variables that the reading takes, are together of bulk at most 1048576: NARROWER than '..Said'. Prove '..Said' where nothing that the law and all that it calls make is longer than what came in: it says more and counts as full. Else prove '..UptoSaid'. A law counts once. -/
mutual
def uptoBulk {H : Type} : DataW H → Nat
  | .lit (.string bytes) => bytes.length + 1
  | .lit _ => 1
  | .nil => 1
  | .ptr d => uptoBulk d + 1
  | .slice elems spare => uptoBulkAll elems + uptoBulkAll spare + 1
  | .agg parts => uptoBulkAll parts + 1
  | .iface _ d => uptoBulk d + 1
  | .map entries => uptoBulkEntries entries + 1
  | .held _ => 1
def uptoBulkAll {H : Type} : List (DataW H) → Nat
  | [] => 0
  | d :: r => uptoBulk d + uptoBulkAll r
def uptoBulkEntries {H : Type} : List (Lit × DataW H) → Nat
  | [] => 0
  | x :: r => uptoBulkEntry x + uptoBulkEntries r
def uptoBulkEntry {H : Type} : Lit × DataW H → Nat
  | (.string bytes, d) => bytes.length + uptoBulk d + 1
  | (_, d) => uptoBulk d + 1
 end
def uptoSmall : (H : Type) → List (DataW H) → Bool := fun _ ds => decide (uptoBulkAll ds ≤ 1048576)
def OpenSpec.upto (s : _root_.Go.ChangeSpec) : _root_.Go.OpenSpec := { _root_.Go.OpenSpec.ofChange s with cond := some uptoSmall }

/-- 'vergelaw29.AdmitSome', WHERE WHAT IT READS IS OF BULK AT MOST 1048576: true; the input reads as it did. -/
def admitSomeUptoRow : OpenClaim := { program := "ytlnjeelbfokdpaa", sum := "26ebe0f3bb5ed29dc6bd8b4f56e0136ef6d2858ff13d102691099f7cbd25555e", func := "verge/vergelaw29.AdmitSome", spec := "admitSome", unfollowed := true, recurses := true, apart := false, narrowed := true }
def AdmitSomeUptoSaid : Prop := admitSomeUptoRow.holds Try.pinned (OpenSpec.upto admitSomeSpec)

/-- 'vergelaw29.AdmitAll', WHERE WHAT IT READS IS OF BULK AT MOST 1048576: true; the input reads as it did. -/
def admitAllUptoRow : OpenClaim := { program := "ytlnjeelbfokdpaa", sum := "26ebe0f3bb5ed29dc6bd8b4f56e0136ef6d2858ff13d102691099f7cbd25555e", func := "verge/vergelaw29.AdmitAll", spec := "admitAll", unfollowed := true, recurses := true, apart := false, narrowed := true }
def AdmitAllUptoSaid : Prop := admitAllUptoRow.holds Try.pinned (OpenSpec.upto admitAllSpec)

/-- 'vergelaw37.SenseEdge', WHERE WHAT IT READS IS OF BULK AT MOST 1048576: true; the input reads as it did. -/
def senseEdgeUptoRow : OpenClaim := { program := "ytlnjeelbfokdpaa", sum := "26ebe0f3bb5ed29dc6bd8b4f56e0136ef6d2858ff13d102691099f7cbd25555e", func := "verge/vergelaw37.SenseEdge", spec := "senseEdge", unfollowed := true, recurses := true, apart := false, narrowed := true }
def SenseEdgeUptoSaid : Prop := senseEdgeUptoRow.holds Try.pinned (OpenSpec.upto senseEdgeSpec)

/-- 'vergelaw37.SenseLeast', WHERE WHAT IT READS IS OF BULK AT MOST 1048576: true; the input reads as it did. -/
def senseLeastUptoRow : OpenClaim := { program := "ytlnjeelbfokdpaa", sum := "26ebe0f3bb5ed29dc6bd8b4f56e0136ef6d2858ff13d102691099f7cbd25555e", func := "verge/vergelaw37.SenseLeast", spec := "senseLeast", unfollowed := true, recurses := true, apart := false, narrowed := true }
def SenseLeastUptoSaid : Prop := senseLeastUptoRow.holds Try.pinned (OpenSpec.upto senseLeastSpec)

end Rows
end Go.Proofs.Ytlnjeelbfokdpaa

/- Package rta: the walks of Blocking, Base, Lag, Loads, Bound. Conditions: lists that read. -/
import Derived.Test.YtgampofpabllbaaGreatRtJP
import Derived.Test.YtgampofpabllbaaGreatRtQP
namespace Go.Proofs.YtgampofpabllbaaGreat
open Go.RowKit

theorem askY_zero {why : Int} {ts : List Tk} {n : Int} (h : askY why ts n = 0) : why = 0 ∧ n.toNat < ts.length ∧ n = (n.toNat : Int) := by
  unfold askY at h
  split at h
  · rename_i h1; exact absurd h h1
  · rename_i h1
    split at h
    · cases h
    · rename_i h2
      refine ⟨by simpa using h1, by omega, by omega⟩
/-- What Bound hands back of a task that may be asked for. -/
def boundR (mn sw : Int) (ts : List Tk) (ls : List Ln) (hs : List Th) (x : Tk) : Int × Int :=
  if x.deadline < lagT mn x then (0, 11) else
  if (stepsY (baseN sw ts x) (loadsL mn sw ts ls hs x.prio) (x.deadline - lagT mn x)).2 = 0 then (wrap64 ((stepsY (baseN sw ts x) (loadsL mn sw ts ls hs x.prio) (x.deadline - lagT mn x)).1 + lagT mn x), 0)
  else (0, (stepsY (baseN sw ts x) (loadsL mn sw ts ls hs x.prio) (x.deadline - lagT mn x)).2)
/-- A list of loads, and an error. -/
def RetLY (l : List Ld) (y : Int) (w : World) (e : Ending) (w' : World) : Prop :=
  ∃ A c, e = .returned (.tuple #[.slice A l.length c, .int .i64 y]) ∧ Rd w' A (l.flatMap ldc) ∧ Below w.heap.size w w'
end Go.Proofs.YtgampofpabllbaaGreat

/- Package vet: within, and a task. Conditions: none (a task's numbers are as they read). -/
import Derived.Test.YtgampofpabllbaaKit
namespace Go.Proofs.Ytgampofpabllbaa
open Go.RowKit

/-- A task's data. -/
structure Tk where
  kind : Int
  prio : Int
  period : Int
  offset : Int
  deadline : Int
  cost : Int
  room : Int
  lock : Int
  lo : Int
  hi : Int
def tkv (t : Tk) : Value := .agg #[.int .u8 t.kind, .int .i64 t.prio, .int .i64 t.period, .int .i64 t.offset, .int .i64 t.deadline, .int .i64 t.cost, .int .i64 t.room, .int .i64 t.lock, .int .i64 t.lo, .int .i64 t.hi]
/-- Whether a number is from one to another one. -/
def inB (n lo hi : Int) : Bool := decide (lo ≤ n ∧ n ≤ hi)
theorem inB_true {n lo hi : Int} : inB n lo hi = true ↔ lo ≤ n ∧ n ≤ hi := by unfold inB; exact decide_eq_true_iff
theorem inB_false {n lo hi : Int} : inB n lo hi = false ↔ ¬ (lo ≤ n ∧ n ≤ hi) := by unfold inB; exact decide_eq_false_iff_not
/-- Why a task is not right. -/
def tkWhy (t : Tk) (ch : Int) : Int :=
  if t.kind ≠ 1 ∧ t.kind ≠ 2 then 2
  else if inB t.prio 0 63 = false ∨ inB t.room 1 16 = false ∨ 16 ≤ t.lock then 1
  else if inB t.period 1 1099511627776 = false ∨ inB t.offset 0 1099511627776 = false ∨ inB t.deadline 1 1099511627776 = false then 1
  else if t.kind = 2 ∧ 0 < t.offset then 1
  else if t.period < t.deadline then 11
  else if inB t.cost 1 t.deadline = false ∨ t.deadline - t.cost < ch then 14
  else if 0 ≤ t.lock ∧ (t.lo < 0 ∨ t.hi ≤ t.lo ∨ t.cost < t.hi) then 14
  else 0
theorem within_any (n lo hi : Int) (w : World) : Calls Try.prog 40 #[.int .i64 n, .int .i64 lo, .int .i64 hi] w fun e w' => e = .returned (.bool (inB n lo hi)) ∧ w = w' := by
  by_cases h1 : lo ≤ n
  · by_cases h2 : n ≤ hi
    · go_enter Try.func40, Try.ntmps40
      go_wp2
      go_ret
      exact ⟨ret_bool (inB_true.2 ⟨h1, h2⟩).symm, rfl⟩
    · go_enter Try.func40, Try.ntmps40
      go_wp2
      go_ret
      exact ⟨ret_bool (inB_false.2 (fun x => by have := x.2; omega)).symm, rfl⟩
  · go_enter Try.func40, Try.ntmps40
    go_wp2
    go_ret
    exact ⟨ret_bool (inB_false.2 (fun x => by have := x.1; omega)).symm, rfl⟩

end Go.Proofs.Ytgampofpabllbaa

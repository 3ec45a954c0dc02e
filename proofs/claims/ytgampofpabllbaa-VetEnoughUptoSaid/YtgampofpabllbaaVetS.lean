/- What is wrong with a configuration, as data: all things that are looked at, each with its error. No program in sight. -/
import Derived.Test.YtgampofpabllbaaVetA0
namespace Go.Proofs.Ytgampofpabllbaa
open Go.RowKit

/-- A line's data. -/
structure Ln where
  prio : Int
  top : Int
  many : Int
  window : Int
def lnv (x : Ln) : Value := .agg #[.int .i64 x.prio, .int .i64 x.top, .int .i64 x.many, .int .i64 x.window]
/-- A thread's data. -/
structure Th where
  prio : Int
  budget : Int
  period : Int
  depth : Int
def thv (x : Th) : Value := .agg #[.int .i64 x.prio, .int .i64 x.budget, .int .i64 x.period, .int .i64 x.depth]
/-- A configuration's data. -/
structure Cf where
  mn : Int
  mx : Int
  sw : Int
  ts : List Tk
  ls : List Ln
  hs : List Th

def tkc (t : Tk) : List Value := [.int .u8 t.kind, .int .i64 t.prio, .int .i64 t.period, .int .i64 t.offset, .int .i64 t.deadline, .int .i64 t.cost, .int .i64 t.room, .int .i64 t.lock, .int .i64 t.lo, .int .i64 t.hi]
def lnc (x : Ln) : List Value := [.int .i64 x.prio, .int .i64 x.top, .int .i64 x.many, .int .i64 x.window]
def thc (x : Th) : List Value := [.int .i64 x.prio, .int .i64 x.budget, .int .i64 x.period, .int .i64 x.depth]

/-- Why a timing is not right. -/
def tmWhy (mn mx : Int) : Int := if mn < 1 ∨ 2147483648 ≤ mx ∨ mx < 2 * mn then 2 else 0
/-- Why what a switch takes is not right. -/
def chWhy (sw : Int) : Int := if inB sw 0 1099511627776 then 0 else 1
/-- Why there are not as many as there may be. -/
def mnWhy (nt nl nh : Nat) : Int := if 1 ≤ nt ∧ nt ≤ 32 ∧ nl ≤ 64 ∧ nh = nl then 0 else 1
/-- Whether a line may be made. -/
def lnOk (x : Ln) : Bool := decide (1 ≤ x.many ∧ x.many ≤ 64) && decide (1 ≤ x.window ∧ x.window ≤ 1099511627776) && decide (1 ≤ x.top ∧ x.top ≤ 1099511627776) && decide (1 ≤ x.prio ∧ x.prio ≤ 15)
def lnWhy (x : Ln) : Int := if lnOk x then (if 1099511627776 < x.many * x.top then 10 else 0) else 1
/-- Whether a thread may be made. -/
def thOk (x : Th) : Bool := decide (1 ≤ x.budget ∧ x.budget ≤ x.period ∧ x.period ≤ 1099511627776) && decide (0 ≤ x.prio ∧ x.prio ≤ 63) && decide (1 ≤ x.depth ∧ x.depth ≤ 64)
def thWhy (x : Th) : Int := if thOk x then 0 else 1
/-- The priorities: whether each is there already. -/
def prWhys : List Int → List Int → List Int
  | _, [] => []
  | seen, p :: l => (if p ∈ seen then 12 else 0) :: prWhys (p :: seen) l

/-- A thing that is looked at: its part, its place, its error. -/
structure Fl where
  part : Int
  idx : Nat
  why : Int
def flv (f : Fl) : Value := .agg #[.int .u8 f.part, .int .i64 f.idx, .int .i64 f.why]
def flc (f : Fl) : List Value := [.int .u8 f.part, .int .i64 f.idx, .int .i64 f.why]
def numb (p : Int) : Nat → List Int → List Fl
  | _, [] => []
  | i, y :: l => ⟨p, i, y⟩ :: numb p (i + 1) l
theorem numb_append (p : Int) : ∀ (i : Nat) (a b : List Int), numb p i (a ++ b) = numb p i a ++ numb p (i + a.length) b
  | i, [], b => by simp [numb]
  | i, y :: a, b => by simp [numb, numb_append p (i + 1) a b, Nat.add_assoc, Nat.add_comm 1]
theorem numb_length (p : Int) : ∀ (i : Nat) (a : List Int), (numb p i a).length = a.length
  | i, [] => rfl
  | i, y :: a => by simp [numb, numb_length p (i + 1) a]
theorem prWhys_append : ∀ (s a b : List Int), prWhys s (a ++ b) = prWhys s a ++ prWhys (a.reverse ++ s) b
  | s, [], b => by simp [prWhys]
  | s, y :: a, b => by simp [prWhys, prWhys_append (y :: s) a b]
theorem prWhys_length : ∀ (s a : List Int), (prWhys s a).length = a.length
  | s, [] => rfl
  | s, y :: a => by simp [prWhys, prWhys_length (y :: s) a]

def Cf.prios (c : Cf) : List Int := c.ts.map (·.prio) ++ c.hs.map (·.prio)
def Cf.heads (c : Cf) : List Fl := [⟨1, 0, tmWhy c.mn c.mx⟩, ⟨2, 0, chWhy c.sw⟩, ⟨3, 0, mnWhy c.ts.length c.ls.length c.hs.length⟩]
/-- All things that are looked at. -/
def Cf.looks (c : Cf) : List Fl :=
  c.heads ++ (numb 4 0 (c.ts.map fun t => tkWhy t c.sw) ++ (numb 5 0 (c.ls.map lnWhy) ++ (numb 6 0 (c.hs.map thWhy) ++ numb 7 0 (prWhys [] c.prios))))
/-- All faults. -/
def Cf.faults (c : Cf) : List Fl := c.looks.filter fun f => decide (f.why ≠ 0)
/-- The first one. -/
def firstOf : List Fl → Fl × Bool
  | [] => (⟨0, 0, 0⟩, false)
  | f :: l => if f.why ≠ 0 then (f, true) else firstOf l
def Cf.why (c : Cf) : Int := (firstOf c.looks).1.why

theorem firstOf_cons (f : Fl) (l : List Fl) : firstOf (f :: l) = if f.why ≠ 0 then (f, true) else firstOf l := rfl
theorem firstOf_skip {a : List Fl} (h : ∀ f ∈ a, f.why = 0) (b : List Fl) : firstOf (a ++ b) = firstOf b := by
  induction a with
  | nil => rfl
  | cons f a ih =>
    have h0 : f.why = 0 := h f (by simp)
    rw [List.cons_append, firstOf_cons, if_neg (by omega)]
    exact ih (fun g hg => h g (by simp [hg]))
theorem firstOf_hit {f : Fl} (h : f.why ≠ 0) (b : List Fl) : firstOf (f :: b) = (f, true) := by
  rw [firstOf_cons, if_pos h]
theorem firstOf_filter : ∀ l : List Fl, firstOf (l.filter fun f => decide (f.why ≠ 0)) = firstOf l
  | [] => rfl
  | f :: l => by
    by_cases h : f.why = 0
    · rw [List.filter_cons_of_neg (by simp [h]), firstOf_filter l, firstOf_cons, if_neg (by omega)]
    · rw [List.filter_cons_of_pos (by simp [h]), firstOf_hit h, firstOf_hit h]
theorem why_faults (c : Cf) : c.why = (firstOf c.faults).1.why := by unfold Cf.why Cf.faults; rw [firstOf_filter]

/-- The cells of a row of structs. -/
theorem flatMap_get {α : Type} {f : α → List Value} {k : Nat} (hk : ∀ x, (f x).length = k) (d : α) : ∀ (l : List α) (i : Nat), i < l.length → ∀ j, j < k → (l.flatMap f)[i * k + j]? = (f (l.getD i d))[j]?
  | [], i, h, _, _ => by simp at h
  | x :: l, 0, _, j, hj => by
    rw [List.flatMap_cons, Nat.zero_mul, Nat.zero_add, List.getElem?_append_left (by rw [hk]; exact hj)]
    rfl
  | x :: l, i + 1, h, j, hj => by
    have ih := flatMap_get hk d l i (by simpa using h) j hj
    rw [List.flatMap_cons, List.getElem?_append_right (by rw [hk, Nat.add_mul]; omega), hk, show (i + 1) * k + j - k = i * k + j by rw [Nat.add_mul]; omega, ih]
    rfl
end Go.Proofs.Ytgampofpabllbaa

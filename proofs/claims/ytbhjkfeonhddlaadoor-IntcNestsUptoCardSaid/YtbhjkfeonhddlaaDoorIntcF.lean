/- Package intc: what the calls come to, and facts on an open desk. Conditions: none of its own. -/
import Derived.Test.YtbhjkfeonhddlaaDoorIntcE
import Derived.Test.YtbhjkfeonhddlaaDoorSetOps
namespace Go.Proofs.YtbhjkfeonhddlaaDoor
open Go.RowKit Go.Shelf

def IC.zero : IC := ⟨0, 0, 0, 0, [], 0, []⟩
/-- Two slices that lie in blocks from b on. -/
def New (b : Nat) (pA sA : Option Addr) : Prop := (∀ a, pA = some a → b ≤ a.block) ∧ (∀ a, sA = some a → b ≤ a.block)
theorem New.none (b : Nat) : New b none none := ⟨fun _ h => (Option.some_ne_none _ h.symm).elim, fun _ h => (Option.some_ne_none _ h.symm).elim⟩
theorem New.mono {b b' : Nat} {pA sA : Option Addr} (h : New b pA sA) (hb : b' ≤ b) : New b' pA sA := ⟨fun a ha => Nat.le_trans hb (h.1 a ha), fun a ha => Nat.le_trans hb (h.2 a ha)⟩
/-- A controller and why. -/
def RetI (x : IC × Int) (w : World) (e : Ending) (w' : World) : Prop :=
  ∃ pA pc sA sc, e = .returned (.tuple #[icv x.1 pA pc sA sc, .int .i64 x.2]) ∧ Rd w' pA (x.1.prio.map (.int .i64)) ∧ Rd w' sA (x.1.stack.map (.int .i64)) ∧ Below w.heap.size w w' ∧ New w.heap.size pA sA
/-- A controller, a number, and why. -/
def RetIN (x : IC × Int × Int) (w : World) (e : Ending) (w' : World) : Prop :=
  ∃ pA pc sA sc, e = .returned (.tuple #[icv x.1 pA pc sA sc, .int .i64 x.2.1, .int .i64 x.2.2]) ∧ Rd w' pA (x.1.prio.map (.int .i64)) ∧ Rd w' sA (x.1.stack.map (.int .i64)) ∧ Below w.heap.size w w' ∧ New w.heap.size pA sA
/-- A number and why. -/
def RetN (x : Int × Int) (w : World) (e : Ending) (w' : World) : Prop := e = .returned (.tuple #[.int .i64 x.1, .int .i64 x.2]) ∧ Below w.heap.size w w'

open Classical in
/-- What a call on a line comes to: f says what becomes of a right controller. -/
noncomputable def IC.on (d : IC) (line : Int) (f : Nat → IC × Int) : IC × Int :=
  if ¬ d.ok then (IC.zero, 2) else if 0 ≤ line ∧ line < d.prio.length then f line.toNat else (d, 1)
theorem IC.on_bad {d : IC} (hk : ¬ d.ok) (line : Int) (f : Nat → IC × Int) : d.on line f = (IC.zero, 2) := by unfold IC.on; rw [if_pos hk]
theorem IC.on_out {d : IC} (hk : d.ok) {line : Int} (hl : ¬ (0 ≤ line ∧ line < d.prio.length)) (f : Nat → IC × Int) : d.on line f = (d, 1) := by unfold IC.on; rw [if_neg (by simpa using hk), if_neg hl]
theorem IC.on_in {d : IC} (hk : d.ok) {n : Nat} (hl : (n : Int) < d.prio.length) (f : Nat → IC × Int) : d.on n f = f n := by unfold IC.on; rw [if_neg (by simpa using hk), if_pos ⟨by omega, hl⟩]; rfl

def IC.lowerF (d : IC) (n : Nat) : IC × Int := if d.g.testBit n = true then (d, 7) else ({ d with r := setB d.r n false, p := setB d.p n false }, 0)
def IC.enableF (d : IC) (on : Bool) (n : Nat) : IC × Int := ({ d with e := setB d.e n on }, 0)
def IC.raiseF (d : IC) (n : Nat) : IC × Int :=
  if d.g.testBit n = true then (if d.p.testBit n = true then (d, 4) else ({ d with p := setB d.p n true }, 0))
  else ({ d with r := setB d.r n true, p := if (ofList d.stack).testBit n = true then d.p else setB d.p n true }, 0)
def IC.limitF (d : IC) (t : Int) : IC × Int := if 0 ≤ t ∧ t ≤ 15 then ({ d with t := t }, 0) else (d, 1)

theorem Rd.set {w : World} {A : Option Addr} {vs : List Value} (h : Rd w A vs) {p : Addr} (hne : ∀ a, A = some a → a.block ≠ p.block) (u : Value) : Rd (w.setCell p u) A vs := fun i v hv => by
  obtain ⟨a, ha, hc⟩ := h i v hv
  exact ⟨a, ha, cell_set_far hc (fun e => hne a ha (by rw [e, add_block])) u⟩

/-- What is known of a desk that was opened, the result's cell at r. -/
structure Opened (w1 : World) (r D : Nat) (d : IC) (pA : Option Addr) (sA : Option Addr) : Prop where
  prio : Rd w1 pA (d.prio.map (.int .i64))
  stack : Rd w1 sA (d.stack.map (.int .i64))
  p1 : ∀ a, pA = some a → a.block ≠ r
  p2 : ∀ a, pA = some a → a.block ≠ D
  s1 : ∀ a, sA = some a → a.block ≠ r
  s2 : ∀ a, sA = some a → a.block ≠ D
  new : New r pA sA
theorem own_block {w : World} {base : Nat} {e : TypeId} {A : Option Addr} {n c : Nat} {vs : List Value} (h : w.ownsRow base e 1 (.slice A n c) n vs) {a : Addr} (ha : A = some a) : base ≤ a.block ∧ ∃ cur, w.heap[a.block]? = some (.cells cur e (0, 0)) := by
  subst ha
  rcases h.2 with ⟨h1, _⟩ | ⟨g, cap, cur, h1, h2, h3, _⟩
  · injection h1 with h1; cases h1
  · injection h1 with h1
    cases h1
    exact ⟨h2, cur, h3⟩
theorem own_other {w : World} {base : Nat} {A : Option Addr} {n c : Nat} {vs : List Value} (h : w.ownsRow base 3 1 (.slice A n c) n vs) {D : Nat} {cs : Array Value} {t : TypeId} (hD : w.heap[D]? = some (.cells cs t (0, 0))) (ht : t ≠ 3) : ∀ a, A = some a → a.block ≠ D := by
  intro a ha e
  obtain ⟨_, cur, hc⟩ := own_block h ha
  rw [e, hD] at hc
  injection hc with hc
  injection hc with _ hc
  exact ht hc
theorem opened {w1 : World} {base r D : Nat} {d : IC} {pA : Option Addr} {pc : Nat} {sA : Option Addr} {sc : Nat} (h : Desk w1 base D d pA pc sA sc) (hr : r < base) : Opened w1 r D d pA sA :=
  ⟨own_rd h.prio, own_rd h.stack, fun a ha e => by have := (own_block h.prio ha).1; omega, own_other h.prio h.blk (by decide),
   fun a ha e => by have := (own_block h.stack ha).1; omega, own_other h.stack h.blk (by decide),
   ⟨fun a ha => by have := (own_block h.prio ha).1; omega, fun a ha => by have := (own_block h.stack ha).1; omega⟩⟩
end Go.Proofs.YtbhjkfeonhddlaaDoor

/- Package intc: what making one comes to. Conditions: none of its own. -/
import Derived.Test.YtgampofpabllbaaIntcBV
namespace Go.Proofs.Ytgampofpabllbaa
open Go.RowKit

def IC.zero : IC := ⟨0, 0, 0, 0, [], 0, []⟩
/-- Two slices that lie in blocks from b on. -/
def New (b : Nat) (pA sA : Option Addr) : Prop := (∀ a, pA = some a → b ≤ a.block) ∧ (∀ a, sA = some a → b ≤ a.block)
theorem New.none (b : Nat) : New b none none := ⟨fun _ h => (Option.some_ne_none _ h.symm).elim, fun _ h => (Option.some_ne_none _ h.symm).elim⟩
theorem New.mono {b b' : Nat} {pA sA : Option Addr} (h : New b pA sA) (hb : b' ≤ b) : New b' pA sA := ⟨fun a ha => Nat.le_trans hb (h.1 a ha), fun a ha => Nat.le_trans hb (h.2 a ha)⟩
/-- A controller and why. -/
def RetI (x : IC × Int) (w : World) (e : Ending) (w' : World) : Prop :=
  ∃ pA pc sA sc, e = .returned (.tuple #[icv x.1 pA pc sA sc, .int .i64 x.2]) ∧ Rd w' pA (x.1.prio.map (.int .i64)) ∧ Rd w' sA (x.1.stack.map (.int .i64)) ∧ Below w.heap.size w w' ∧ New w.heap.size pA sA
theorem Rd.set {w : World} {A : Option Addr} {vs : List Value} (h : Rd w A vs) {p : Addr} (hne : ∀ a, A = some a → a.block ≠ p.block) (u : Value) : Rd (w.setCell p u) A vs := fun i v hv => by
  obtain ⟨a, ha, hc⟩ := h i v hv
  exact ⟨a, ha, cell_set_far hc (fun e => hne a ha (by rw [e, add_block])) u⟩

theorem own_block {w : World} {base : Nat} {e : TypeId} {A : Option Addr} {n c : Nat} {vs : List Value} (h : w.ownsRow base e 1 (.slice A n c) n vs) {a : Addr} (ha : A = some a) : base ≤ a.block ∧ ∃ cur, w.heap[a.block]? = some (.cells cur e (0, 0)) := by
  subst ha
  rcases h.2 with ⟨h1, _⟩ | ⟨g, cap, cur, h1, h2, h3, _⟩
  · injection h1 with h1; cases h1
  · injection h1 with h1
    cases h1
    exact ⟨h2, cur, h3⟩
theorem own_other {w : World} {base : Nat} {A : Option Addr} {n c : Nat} {vs : List Value} (h : w.ownsRow base 3 1 (.slice A n c) n vs) {D : Nat} {cs : Array Value} {t : TypeId} (hD : w.heap[D]? = some (.cells cs t (0, 0))) (ht : t ≠ 3) : ∀ a, A = some a → a.block ≠ D := by
  intro a ha e
  obtain ⟨_, cur, hc⟩ := own_block h ha
  rw [e, hD] at hc
  injection hc with hc
  injection hc with _ hc
  exact ht hc
end Go.Proofs.Ytgampofpabllbaa

/- Package intc: what is right of a controller, and the walks of slices.Clone, of Check and of what it calls. Conditions: sets below 2^64, lists of at most 2^40 numbers, as the arguments read. -/
import Derived.Test.YtgampofpabllbaaBitsV
namespace Go.Proofs.Ytgampofpabllbaa
open Go.RowKit

/-- A controller's data. -/
structure IC where
  p : Nat
  e : Nat
  r : Nat
  g : Nat
  prio : List Int
  t : Int
  stack : List Int

/-- Words below 2^64, lists that can lie in memory. -/
structure IC.Fits (d : IC) : Prop where
  p : d.p < 18446744073709551616
  e : d.e < 18446744073709551616
  r : d.r < 18446744073709551616
  g : d.g < 18446744073709551616
  prio : d.prio.length ≤ 549755813888
  stack : d.stack.length ≤ 549755813888

def IC.pr (d : IC) (n : Int) : Int := d.prio.getD n.toNat 0
def IC.st (d : IC) (i : Nat) : Int := d.stack.getD i 0
/-- what the i-th one that is served was to be more urgent than -/
def IC.ahead (d : IC) : Nat → Int
  | 0 => 0
  | i + 1 => d.pr (d.st i)
def IC.good (d : IC) (i : Nat) : Prop := 0 ≤ d.st i ∧ d.st i < d.prio.length ∧ d.ahead i < d.pr (d.st i)
def oddP (p : Int) : Bool := decide (p < 1) || decide (15 < p)
/-- A right controller. -/
structure IC.ok (d : IC) : Prop where
  len1 : 1 ≤ d.prio.length
  len2 : d.prio.length ≤ 64
  prio : ∀ i, i < d.prio.length → oddP (d.prio.getD i 0) = false
  sets : ∀ i, d.prio.length ≤ i → i < 64 → d.p.testBit i = false ∧ d.e.testBit i = false ∧ d.r.testBit i = false ∧ d.g.testBit i = false
  rg : ∀ i, i < 64 → d.r.testBit i = true → d.g.testBit i = false
  t0 : 0 ≤ d.t
  t1 : d.t ≤ 15
  stack : ∀ i, i < d.stack.length → d.good i

theorem odd_any (p : Int) (w : World) : Calls Try.prog 39 #[.int .i64 p] w fun e w' => e = .returned (.bool (oddP p)) ∧ w = w' := by
  by_cases h : p < 1
  · go_enter Try.func39, Try.ntmps39
    go_wp2
    go_ret
    exact ⟨ret_bool (by simp [oddP, h]), rfl⟩
  · go_enter Try.func39, Try.ntmps39
    go_wp2
    go_ret
    exact ⟨ret_bool (by simp [oddP]; omega), rfl⟩

theorem indexOdd_any (A : Option Addr) (xs : List Int) (c : Nat) (w : World) (hl : xs.length ≤ 549755813888) (hr : Rd w A (xs.map (.int .i64))) :
    Calls Try.prog 38 #[.slice A xs.length c, .func (.func 39) #[] #[]] w fun e w' => (∃ z : Int, e = .returned (.int .i64 z) ∧ ((0 ≤ z ∧ ∃ i, i < xs.length ∧ oddP (xs.getD i 0) = true) ∨ (z = -1 ∧ ∀ i, i < xs.length → oddP (xs.getD i 0) = false))) ∧ w = w' := by
  have Hr := Lib.hid hr; clear hr
  go_enter Try.func38, Try.ntmps38
  go_wp2
  go_loop [8] (fun i => ∃ k : Nat, k ≤ xs.length ∧ i = .int .i64 k ∧ Hid (∀ j, j < k → oddP (xs.getD j 0) = false)) (fun i => xs.length - (intOf i).toNat)
  case atStart => exact ⟨0, by omega, rfl, fun j hj => absurd hj (Nat.not_lt_zero _)⟩
  case round =>
    obtain ⟨k, hk, rfl, hj⟩ := hrel
    by_cases hlt : k < xs.length
    · obtain ⟨a, rfl, h1⟩ := Hr.out.int hlt
      have f1 := Lib.hid (fun w => odd_any (xs.getD k 0) w)
      have HX : Hid (∀ t, oddP (xs.getD k 0) = t → oddP (xs.getD k 0) = t) := fun t h => h
      generalize ho : oddP (xs.getD k 0) = t at f1
      have Ho := Lib.hid ho; clear ho HX
      generalize hx : xs.getD k 0 = x at *
      have Hx := Lib.hid hx; clear hx
      cases t with
      | true =>
        go_wp2_with (refine (f1.out _).mono ?_; rintro e w' ⟨rfl, rfl⟩)
        go_ret
        exact ⟨⟨k, rfl, .inl ⟨by omega, k, hlt, by rw [Hx.out]; exact Ho.out⟩⟩, rfl⟩
      | false =>
        go_wp2_with (refine (f1.out _).mono ?_; rintro e w' ⟨rfl, rfl⟩)
        go_round
        case rel =>
          refine ⟨k + 1, by omega, by go_num, fun j hj' => ?_⟩
          by_cases he : j = k
          · subst he; rw [Hx.out]; exact Ho.out
          · exact hj.out j (by omega)
        case measure => simp [intOf]; omega
    · obtain rfl : k = xs.length := by omega
      go_wp2
      go_ret
      exact ⟨⟨-1, rfl, .inr ⟨rfl, hj.out⟩⟩, rfl⟩

theorem containsOdd_yes (A : Option Addr) (xs : List Int) (c : Nat) (w : World) (hl : xs.length ≤ 549755813888) (hr : Rd w A (xs.map (.int .i64))) (t : Bool)
    (ht : (t = true ∧ ∃ i, i < xs.length ∧ oddP (xs.getD i 0) = true) ∨ (t = false ∧ ∀ i, i < xs.length → oddP (xs.getD i 0) = false)) :
    Calls Try.prog 24 #[.slice A xs.length c, .func (.func 39) #[] #[]] w fun e w' => e = .returned (.bool t) ∧ w = w' := by
  have f1 := Lib.hid (fun w hr => indexOdd_any A xs c w hl hr)
  have Hr := Lib.hid hr; clear hr
  have Ht := Lib.hid ht; clear ht
  go_enter Try.func24, Try.ntmps24
  go_wp2_with fail
  refine (f1.out _ Hr.out).mono ?_
  rintro e w' ⟨⟨z, rfl, hz⟩, rfl⟩
  have Hz := Lib.hid hz; clear hz
  go_wp2_with fail
  go_ret
  refine ⟨ret_bool ?_, rfl⟩
  rcases Ht.out with ⟨rfl, i, hi, ho⟩ | ⟨rfl, h⟩
  · rcases Hz.out with ⟨h0, _⟩ | ⟨_, h⟩
    · simp [h0]
    · rw [h i hi] at ho; cases ho
  · rcases Hz.out with ⟨_, i, hi, ho⟩ | ⟨rfl, _⟩
    · rw [h i hi] at ho; cases ho
    · rfl

theorem clone_vs (A : Option Addr) (vs : List Value) (c : Nat) (w : World) (hl : vs.length ≤ 549755813888) (hr : Rd w A vs) (h1 : ∀ u ∈ vs, u.oneCell' = true) :
    Calls Try.prog 25 #[.slice A vs.length c] w fun e w' => ∃ A' c', e = .returned (.slice A' vs.length c') ∧ w'.ownsRow w.heap.size 3 1 (.slice A' vs.length c') vs.length vs ∧ Below w.heap.size w w' := by
  have q : ∀ (w : World) (a : Option Addr) (n c n' c' : Nat), (binOp .eql 62 (.slice a n c) (.slice none n' c')).run Try.prog w = .ok (.bool a.isNone) w := fun w a n c n' c' => Lib.run_eql_slice_nil w _ _ a n c n' c' Try.underlying62
  rcases A with _ | ad
  · have hx : vs = [] := by
      cases vs with
      | nil => rfl
      | cons y ys => obtain ⟨a', ha, _⟩ := hr 0 _ rfl; cases ha
    subst hx
    go_enter Try.func25, Try.ntmps25
    go_wp2
    go_ret
    exact ⟨none, 0, rfl, own_nil _ _ _, Below.refl _ _⟩
  · have Hr := Lib.hid hr; clear hr
    have Hone := Lib.hid h1; clear h1
    go_enter Try.func25, Try.ntmps25
    go_wp2_with (at_builtin; refine wp_appN rfl _ _ sl_int (by decide) rfl (own_empty w _ (Nat.le_refl _)) rfl (by simp) (some ad) c vs rfl (Hr.out.alloc _) Hone.out (by omega) ?_; intro A' c' w1 hown' hB'; rw [List.nil_append, Nat.zero_add] at hown'; rw [Nat.zero_add])
    go_ret
    exact ⟨A', c', rfl, hown', ((Below.refl _ _).alloc (Nat.le_refl _) _).trans hB'⟩

/-- slices.Clone at []int: a slice of its own. -/
theorem clone_any (A : Option Addr) (xs : List Int) (c : Nat) (w : World) (hl : xs.length ≤ 549755813888) (hr : Rd w A (xs.map (.int .i64))) :
    Calls Try.prog 25 #[.slice A xs.length c] w fun e w' => ∃ A' c', e = .returned (.slice A' xs.length c') ∧ w'.ownsRow w.heap.size 3 1 (.slice A' xs.length c') xs.length (xs.map (.int .i64)) ∧ Below w.heap.size w w' := by
  have h := clone_vs A (xs.map (.int .i64)) c w (by simpa using hl) hr (ints_one xs)
  simpa only [List.length_map] using h
end Go.Proofs.Ytgampofpabllbaa

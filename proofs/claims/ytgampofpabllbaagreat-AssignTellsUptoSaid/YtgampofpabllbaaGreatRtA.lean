/- Packages curve and demand, and vergeref22, vergeref23: loads as data; the walks of Check, Most, right, times. Conditions: numbers in range where said. -/
import Derived.Test.YtgampofpabllbaaGreatVetB
import Derived.Test.YtgampofpabllbaaGreatKitK
import Derived.Below
import Derived.IntWalk
namespace Go.Proofs.YtgampofpabllbaaGreat
open Go.RowKit

/-- A load's data. -/
structure Ld where
  per : Int
  jit : Int
  ap : Int
  cost : Int
def ldv (x : Ld) : Value := .agg #[.int .i64 x.per, .int .i64 x.jit, .int .i64 x.ap, .int .i64 x.cost]
def ldc (x : Ld) : List Value := [.int .i64 x.per, .int .i64 x.jit, .int .i64 x.ap, .int .i64 x.cost]
def ld0 : Ld := ⟨0, 0, 0, 0⟩
def cvv (p j a : Int) : Value := .agg #[.int .i64 p, .int .i64 j, .int .i64 a]
def cvOk (p j a : Int) : Bool := decide (1 ≤ p ∧ p ≤ 1099511627776) && decide (0 ≤ j ∧ j ≤ 1099511627776) && decide (1 ≤ a ∧ a ≤ p)
def cvWhy (p j a : Int) : Int := if cvOk p j a then 0 else 2
def ldOk (x : Ld) : Bool := cvOk x.per x.jit x.ap && decide (0 ≤ x.cost ∧ x.cost ≤ 1099511627776)
def mostN (x : Ld) (w : Int) : Int := if w = 0 then 0 else min ((w + x.jit + x.per - 1) / x.per) ((w + x.ap - 1) / x.ap)
theorem cv_in {p j a : Int} (h : cvOk p j a = true) : (1 ≤ p ∧ p ≤ 1099511627776) ∧ (0 ≤ j ∧ j ≤ 1099511627776) ∧ 1 ≤ a ∧ a ≤ p := by
  unfold cvOk at h
  simp only [Bool.and_eq_true, decide_eq_true_eq] at h
  exact ⟨h.1.1, h.1.2, h.2⟩
theorem ld_in {x : Ld} (h : ldOk x = true) : cvOk x.per x.jit x.ap = true ∧ 0 ≤ x.cost ∧ x.cost ≤ 1099511627776 := by
  unfold ldOk at h
  simp only [Bool.and_eq_true, decide_eq_true_eq] at h
  exact h
theorem cvCheck_any (p j a : Int) (w : World) : Calls Tryz.prog 154 #[cvv p j a] w fun e w' => e = .returned (.int .i64 (cvWhy p j a)) ∧ Below w.heap.size w w' := by
  unfold cvWhy cvOk cvv
  by_cases h1 : p < 1
  · rw [decide_eq_false (by omega : ¬ (1 ≤ p ∧ p ≤ 1099511627776))]
    go_enter Tryz.func154, Tryz.ntmps154
    go_wp2
    go_ret
    exact ⟨rfl, (Below.refl _ _).alloc (Nat.le_refl _) _⟩
  by_cases h2 : 1099511627776 < p
  · rw [decide_eq_false (by omega : ¬ (1 ≤ p ∧ p ≤ 1099511627776))]
    go_enter Tryz.func154, Tryz.ntmps154
    go_wp2
    go_ret
    exact ⟨rfl, (Below.refl _ _).alloc (Nat.le_refl _) _⟩
  rw [decide_eq_true (by omega : 1 ≤ p ∧ p ≤ 1099511627776)]
  by_cases h3 : j < 0
  · rw [decide_eq_false (by omega : ¬ (0 ≤ j ∧ j ≤ 1099511627776))]
    go_enter Tryz.func154, Tryz.ntmps154
    go_wp2
    go_ret
    exact ⟨rfl, (Below.refl _ _).alloc (Nat.le_refl _) _⟩
  by_cases h4 : 1099511627776 < j
  · rw [decide_eq_false (by omega : ¬ (0 ≤ j ∧ j ≤ 1099511627776))]
    go_enter Tryz.func154, Tryz.ntmps154
    go_wp2
    go_ret
    exact ⟨rfl, (Below.refl _ _).alloc (Nat.le_refl _) _⟩
  rw [decide_eq_true (by omega : 0 ≤ j ∧ j ≤ 1099511627776)]
  by_cases h5 : a < 1
  · rw [decide_eq_false (by omega : ¬ (1 ≤ a ∧ a ≤ p))]
    go_enter Tryz.func154, Tryz.ntmps154
    go_wp2
    go_ret
    exact ⟨rfl, (Below.refl _ _).alloc (Nat.le_refl _) _⟩
  by_cases h6 : p < a
  · rw [decide_eq_false (by omega : ¬ (1 ≤ a ∧ a ≤ p))]
    go_enter Tryz.func154, Tryz.ntmps154
    go_wp2
    go_ret
    exact ⟨rfl, (Below.refl _ _).alloc (Nat.le_refl _) _⟩
  rw [decide_eq_true (by omega : 1 ≤ a ∧ a ≤ p)]
  go_enter Tryz.func154, Tryz.ntmps154
  go_wp2
  go_ret
  exact ⟨rfl, (Below.refl _ _).alloc (Nat.le_refl _) _⟩
theorem cvCheck22_any (p j a : Int) (w : World) : Calls Tryz.prog 138 #[cvv p j a] w fun e w' => e = .returned (.int .i64 (cvWhy p j a)) ∧ Below w.heap.size w w' := by
  unfold cvWhy cvOk cvv
  by_cases h1 : p < 1
  · rw [decide_eq_false (by omega : ¬ (1 ≤ p ∧ p ≤ 1099511627776))]
    go_enter Tryz.func138, Tryz.ntmps138
    go_wp2
    go_ret
    exact ⟨rfl, (Below.refl _ _).alloc (Nat.le_refl _) _⟩
  by_cases h2 : 1099511627776 < p
  · rw [decide_eq_false (by omega : ¬ (1 ≤ p ∧ p ≤ 1099511627776))]
    go_enter Tryz.func138, Tryz.ntmps138
    go_wp2
    go_ret
    exact ⟨rfl, (Below.refl _ _).alloc (Nat.le_refl _) _⟩
  rw [decide_eq_true (by omega : 1 ≤ p ∧ p ≤ 1099511627776)]
  by_cases h3 : j < 0
  · rw [decide_eq_false (by omega : ¬ (0 ≤ j ∧ j ≤ 1099511627776))]
    go_enter Tryz.func138, Tryz.ntmps138
    go_wp2
    go_ret
    exact ⟨rfl, (Below.refl _ _).alloc (Nat.le_refl _) _⟩
  by_cases h4 : 1099511627776 < j
  · rw [decide_eq_false (by omega : ¬ (0 ≤ j ∧ j ≤ 1099511627776))]
    go_enter Tryz.func138, Tryz.ntmps138
    go_wp2
    go_ret
    exact ⟨rfl, (Below.refl _ _).alloc (Nat.le_refl _) _⟩
  rw [decide_eq_true (by omega : 0 ≤ j ∧ j ≤ 1099511627776)]
  by_cases h5 : a < 1
  · rw [decide_eq_false (by omega : ¬ (1 ≤ a ∧ a ≤ p))]
    go_enter Tryz.func138, Tryz.ntmps138
    go_wp2
    go_ret
    exact ⟨rfl, (Below.refl _ _).alloc (Nat.le_refl _) _⟩
  by_cases h6 : p < a
  · rw [decide_eq_false (by omega : ¬ (1 ≤ a ∧ a ≤ p))]
    go_enter Tryz.func138, Tryz.ntmps138
    go_wp2
    go_ret
    exact ⟨rfl, (Below.refl _ _).alloc (Nat.le_refl _) _⟩
  rw [decide_eq_true (by omega : 1 ≤ a ∧ a ≤ p)]
  go_enter Tryz.func138, Tryz.ntmps138
  go_wp2
  go_ret
  exact ⟨rfl, (Below.refl _ _).alloc (Nat.le_refl _) _⟩

/-! Plain facts. -/
theorem up_ge {w a : Int} (hw : 0 ≤ w) (ha : 1 ≤ a) : 0 ≤ (w + a - 1) / a := Int.ediv_nonneg (by omega) (by omega)
theorem up_le {w a : Int} (hw : 0 ≤ w) (ha : 1 ≤ a) : (w + a - 1) / a ≤ w := by
  have h1 : w * 1 ≤ w * a := Int.mul_le_mul_of_nonneg_left ha hw
  have h2 : (w + a - 1) / a < w + 1 := by
    apply Int.ediv_lt_of_lt_mul (by omega)
    rw [Int.add_mul]; omega
  omega
theorem up_eq {a b : Int} (hb : 1 ≤ b) : (a % b = 0 → a / b = (a + b - 1) / b) ∧ (a % b ≠ 0 → a / b + 1 = (a + b - 1) / b) := by
  have h := Int.emod_add_mul_ediv a b
  have h0 := Int.emod_nonneg a (by omega : b ≠ 0)
  have h1 := Int.emod_lt_of_pos a (by omega : 0 < b)
  refine ⟨fun hz => ?_, fun hz => ?_⟩
  · refine ((Int.ediv_emod_unique (a := a + b - 1) (b := b) (r := b - 1) (q := a / b) (by omega)).2 ⟨?_, by omega, by omega⟩).1.symm
    omega
  · refine ((Int.ediv_emod_unique (a := a + b - 1) (b := b) (r := a % b - 1) (q := a / b + 1) (by omega)).2 ⟨?_, by omega, by omega⟩).1.symm
    rw [Int.mul_add]; omega
theorem most_in {x : Ld} {w : Int} (h : ldOk x = true) (hw : 0 ≤ w ∧ w ≤ 4503599627370496) : 0 ≤ mostN x w ∧ mostN x w ≤ 4503599627370496 := by
  obtain ⟨⟨p1, p2⟩, ⟨j1, j2⟩, a1, a2⟩ := cv_in (ld_in h).1
  have h1 : 0 ≤ (w + x.jit + x.per - 1) / x.per := Int.ediv_nonneg (by omega) (by omega)
  have h2 := up_ge hw.1 a1
  have h3 := up_le hw.1 a1
  unfold mostN
  split <;> omega
/-- So many times a cost, up to a limit. -/
def overB (n cost lim : Int) : Bool := decide (lim < n * cost)
theorem over_pos {n cost lim : Int} (hc : 0 < cost) : (lim / cost < n) ↔ lim < n * cost := Int.ediv_lt_iff_lt_mul hc
theorem over_zero {n lim : Int} (hl : 0 ≤ lim) : overB n 0 lim = false := by unfold overB; simp; omega

theorem time_any (t : Int) (w : World) : Calls Tryz.prog 160 #[.int .i64 t] w fun e w' => e = .returned (.bool (inB t 0 4503599627370496)) ∧ w = w' := by
  unfold inB
  by_cases h : 0 ≤ t
  · by_cases h2 : t ≤ 4503599627370496
    · go_enter Tryz.func160, Tryz.ntmps160
      go_wp2
      go_ret
      exact ⟨ret_bool (by simp; omega), rfl⟩
    · go_enter Tryz.func160, Tryz.ntmps160
      go_wp2
      go_ret
      exact ⟨ret_bool (by simp; omega), rfl⟩
  · go_enter Tryz.func160, Tryz.ntmps160
    go_wp2
    go_ret
    exact ⟨ret_bool (by simp; omega), rfl⟩
theorem parts_any (l p : Int) (hl : 0 ≤ l ∧ l ≤ 9007199254740992) (hp : 1 ≤ p ∧ p ≤ 1099511627776) (w : World) : Calls Tryz.prog 161 #[.int .i64 l, .int .i64 p] w fun e w' => e = .returned (.int .i64 ((l + p - 1) / p)) ∧ w = w' := by
  obtain ⟨h1, h2⟩ := hl
  obtain ⟨h3, h4⟩ := hp
  go_enter Tryz.func161, Tryz.ntmps161
  go_wp2
  go_ret
  exact ⟨rfl, rfl⟩
theorem up_any (l p : Int) (hl : 0 ≤ l ∧ l ≤ 9007199254740992) (hp : 1 ≤ p ∧ p ≤ 1099511627776) (w : World) : Calls Tryz.prog 151 #[.int .i64 l, .int .i64 p] w fun e w' => e = .returned (.int .i64 ((l + p - 1) / p)) ∧ w = w' := by
  obtain ⟨h1, h2⟩ := hl
  obtain ⟨h3, h4⟩ := hp
  have H := Lib.hid (up_eq (a := l) h3)
  have g1 : 0 ≤ l / p := Int.ediv_nonneg h1 (by omega)
  have g2 : l / p ≤ l := Int.ediv_le_self _ h1
  by_cases hz : l % p = 0
  · go_enter Tryz.func151, Tryz.ntmps151
    go_wp2
    go_ret
    exact ⟨ret_int (H.out.1 (by assumption)), rfl⟩
  · go_enter Tryz.func151, Tryz.ntmps151
    go_wp2
    go_ret
    exact ⟨ret_int (H.out.2 (by assumption)), rfl⟩
end Go.Proofs.YtgampofpabllbaaGreat

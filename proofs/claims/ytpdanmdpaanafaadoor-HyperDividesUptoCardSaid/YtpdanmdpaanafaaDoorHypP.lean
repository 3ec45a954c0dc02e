/- Plain laws: the greatest divisor by halves, the least multiple step by step. No program in sight. -/
import Derived.Lib.TrailingZeros
import Derived.Test.YtpdanmdpaanafaaDoorKit
namespace Go.Proofs.YtpdanmdpaanafaaDoor
open Go.RowKit

theorem ctz_split (x : Nat) (h0 : 0 < x) (hx : x < 18446744073709551616) : ∃ m, x = 2 ^ Lib.ctz 64 x * (2 * m + 1) ∧ Lib.ctz 64 x < 64 := by
  have h := Lib.ctzFrom_spec 64 x h0 hx
  unfold Lib.ctz
  rw [if_neg (by omega)]
  exact h

theorem pow_odd_inj : ∀ (s t m n : Nat), 2 ^ s * (2 * m + 1) = 2 ^ t * (2 * n + 1) → s = t
  | 0, 0, _, _, _ => rfl
  | 0, t + 1, m, n, h => by
    rw [Nat.pow_succ, Nat.mul_comm (2 ^ t) 2, Nat.mul_assoc] at h
    simp at h; omega
  | s + 1, 0, m, n, h => by
    rw [Nat.pow_succ, Nat.mul_comm (2 ^ s) 2, Nat.mul_assoc] at h
    simp at h; omega
  | s + 1, t + 1, m, n, h => by
    rw [Nat.pow_succ, Nat.pow_succ, Nat.mul_comm (2 ^ s) 2, Nat.mul_comm (2 ^ t) 2, Nat.mul_assoc, Nat.mul_assoc] at h
    have := pow_odd_inj s t m n (by omega)
    omega

theorem ctz_eq {x t m : Nat} (hx : x < 18446744073709551616) (h : x = 2 ^ t * (2 * m + 1)) : Lib.ctz 64 x = t := by
  have h0 : 0 < x := by rw [h]; exact Nat.mul_pos (Nat.two_pow_pos t) (by omega)
  obtain ⟨n, hn, _⟩ := ctz_split x h0 hx
  exact pow_odd_inj _ _ n m (by rw [← hn, h])

/-- The odd part. -/
def oddOf (x : Nat) : Nat := x / 2 ^ Lib.ctz 64 x
theorem oddOf_spec {x : Nat} (h0 : 0 < x) (hx : x < 18446744073709551616) : x = 2 ^ Lib.ctz 64 x * oddOf x ∧ oddOf x % 2 = 1 ∧ oddOf x ≤ x ∧ 0 < oddOf x := by
  obtain ⟨m, hm, _⟩ := ctz_split x h0 hx
  have e : oddOf x = 2 * m + 1 := by
    unfold oddOf
    conv => lhs; lhs; rw [hm]
    exact Nat.mul_div_cancel_left _ (Nat.two_pow_pos _)
  refine ⟨by rw [e]; exact hm, by omega, Nat.div_le_self _ _, by omega⟩

theorem cop_two {a : Nat} (h : a % 2 = 1) (k : Nat) : Nat.Coprime (2 ^ k) a := by
  refine Nat.Coprime.pow_left k ?_
  unfold Nat.Coprime
  rw [Nat.gcd_rec, h]
  rfl

theorem gcd_odd {a b : Nat} (ha : a % 2 = 1) (h0 : 0 < b) (hb : b < 18446744073709551616) : Nat.gcd a b = Nat.gcd a (oddOf b) := by
  obtain ⟨h, _⟩ := oddOf_spec h0 hb
  conv => lhs; rw [h]
  exact Nat.Coprime.gcd_mul_left_cancel_right _ (cop_two ha _)

theorem ctz_or {a b : Nat} (ha0 : 0 < a) (hb0 : 0 < b) (ha : a < 18446744073709551616) (hb : b < 18446744073709551616) :
    Lib.ctz 64 (a ||| b) = min (Lib.ctz 64 a) (Lib.ctz 64 b) := by
  obtain ⟨m, hm, _⟩ := ctz_split a ha0 ha
  obtain ⟨n, hn, _⟩ := ctz_split b hb0 hb
  generalize Lib.ctz 64 a = i at *
  generalize Lib.ctz 64 b = j at *
  have hlt : a ||| b < 18446744073709551616 := Nat.or_lt_two_pow (n := 64) ha hb
  have key : ∀ t, t = min i j → ∃ q, (a ||| b) = 2 ^ t * (2 * q + 1) := by
    intro t ht
    have hda : 2 ^ t ∣ a := ⟨2 ^ (i - t) * (2 * m + 1), by rw [hm, ← Nat.mul_assoc, ← Nat.pow_add]; congr 2; omega⟩
    have hdb : 2 ^ t ∣ b := ⟨2 ^ (j - t) * (2 * n + 1), by rw [hn, ← Nat.mul_assoc, ← Nat.pow_add]; congr 2; omega⟩
    have hmod : (a ||| b) % 2 ^ t = 0 := by
      rw [Nat.or_mod_two_pow, Nat.mod_eq_zero_of_dvd hda, Nat.mod_eq_zero_of_dvd hdb]; rfl
    have hodd : ((a ||| b) / 2 ^ t) % 2 = 1 := by
      rw [Nat.or_div_two_pow, Nat.or_mod_two_eq_one]
      rcases Nat.le_total i j with h | h
      · left
        have : t = i := by omega
        subst this
        rw [hm, Nat.mul_div_cancel_left _ (Nat.two_pow_pos _)]; omega
      · right
        have : t = j := by omega
        subst this
        rw [hn, Nat.mul_div_cancel_left _ (Nat.two_pow_pos _)]; omega
    refine ⟨(a ||| b) / 2 ^ t / 2, ?_⟩
    have h1 : 2 * ((a ||| b) / 2 ^ t / 2) + 1 = (a ||| b) / 2 ^ t := by omega
    rw [h1]
    have := Nat.div_add_mod (a ||| b) (2 ^ t)
    omega
  obtain ⟨q, hq⟩ := key _ rfl
  exact ctz_eq hlt hq

theorem gcd_open {a b : Nat} (ha0 : 0 < a) (hb0 : 0 < b) (ha : a < 18446744073709551616) (hb : b < 18446744073709551616) :
    Nat.gcd a b = Nat.gcd (oddOf a) b * 2 ^ Lib.ctz 64 (a ||| b) := by
  rw [ctz_or ha0 hb0 ha hb]
  obtain ⟨ea, oa, _, pa⟩ := oddOf_spec ha0 ha
  obtain ⟨eb, ob, _, pb⟩ := oddOf_spec hb0 hb
  rw [gcd_odd oa hb0 hb]
  generalize Lib.ctz 64 a = i at *
  generalize Lib.ctz 64 b = j at *
  generalize oddOf a = x at *
  generalize oddOf b = y at *
  rw [ea, eb]
  rcases Nat.le_total i j with h | h
  · rw [Nat.min_eq_left h]
    obtain ⟨d, rfl⟩ : ∃ d, j = i + d := ⟨j - i, by omega⟩
    rw [Nat.pow_add, Nat.mul_assoc, Nat.gcd_mul_left, Nat.Coprime.gcd_mul_left_cancel_right _ (cop_two oa d), Nat.mul_comm]
  · rw [Nat.min_eq_right h]
    obtain ⟨d, rfl⟩ : ∃ d, i = j + d := ⟨i - j, by omega⟩
    rw [Nat.pow_add, Nat.mul_assoc, Nat.gcd_mul_left, Nat.Coprime.gcd_mul_left_cancel _ (cop_two ob d), Nat.mul_comm]

theorem gcd_step {a b : Nat} (ha : a % 2 = 1) (h0 : 0 < b) (hb : b < 18446744073709551616) :
    Nat.gcd (min a (oddOf b)) (max a (oddOf b) - min a (oddOf b)) = Nat.gcd a b := by
  rw [gcd_odd ha h0 hb]
  rcases Nat.le_total a (oddOf b) with h | h
  · rw [Nat.min_eq_left h, Nat.max_eq_right h, Nat.gcd_sub_self_right h]
  · rw [Nat.min_eq_right h, Nat.max_eq_left h, Nat.gcd_sub_self_right h, Nat.gcd_comm]

theorem gcd_lt {a b : Nat} {B : Nat} (h : 0 < a ∨ 0 < b) (ha : a < B) (hb : b < B) : Nat.gcd a b < B := by
  rcases h with h | h
  · exact Nat.lt_of_le_of_lt (Nat.le_of_dvd h (Nat.gcd_dvd_left a b)) ha
  · exact Nat.lt_of_le_of_lt (Nat.le_of_dvd h (Nat.gcd_dvd_right a b)) hb

/-- The least multiple, step by step; none: it would go too far. -/
def lcmGo : Nat → List Nat → Option Nat
  | all, [] => some all
  | all, n :: t => if 4503599627370496 / all < n / Nat.gcd all n then none else lcmGo (all * (n / Nat.gcd all n)) t
/-- Whether a number may be in one. -/
def okN (n : Int) : Bool := decide (1 ≤ n ∧ n ≤ 4503599627370496)
def lcmRes : Option Nat → Int × Int
  | none => (0, 10)
  | some v => ((v : Int), 0)
def lcmOf (l : List Int) : Int × Int := if l.all okN then lcmRes (lcmGo 1 (l.map Int.toNat)) else (0, 1)

theorem lcm_by {all n : Nat} (ha : 0 < all) (hn : 0 < n) : 0 < n / Nat.gcd all n := Nat.div_pos (Nat.le_of_dvd hn (Nat.gcd_dvd_right _ _)) (Nat.gcd_pos_of_pos_left _ ha)
/-- Both ways of asking whether it goes too far are one. -/
theorem over_iff {a b M : Nat} (ha : 0 < a) (hb : 0 < b) : M / a < b ↔ M / b < a := by
  rw [Nat.div_lt_iff_lt_mul ha, Nat.div_lt_iff_lt_mul hb, Nat.mul_comm]
end Go.Proofs.YtpdanmdpaanafaaDoor

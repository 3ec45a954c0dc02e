/- Plain facts: one number put into a set or taken out of it, by Go's operations on words. -/
import Derived.Test.YtpncbkodhojicaaDoorRef05I
namespace Go.Proofs.YtpncbkodhojicaaDoor
open Go.RowKit

/-- a set with a number, or without it -/
def setB (b n : Nat) (on : Bool) : Nat := mk fun i => if i = n then on else b.testBit i
theorem setB_lt (b n : Nat) (on : Bool) : setB b n on < 18446744073709551616 := mk_lt _
theorem setB_bit (b n : Nat) (on : Bool) {i : Nat} (hi : i < 64) : (setB b n on).testBit i = if i = n then on else b.testBit i := by
  unfold setB; rw [mk_bit]; simp [hi]
theorem or_pow {b n : Nat} (hb : b < 18446744073709551616) (hn : n < 64) : b ||| 2 ^ n = setB b n true := by
  apply eq_mk (Nat.or_lt_two_pow (n := 64) hb (pow_lt64 hn))
  intro i _
  rw [Nat.testBit_or, Nat.testBit_two_pow]
  by_cases h : i = n
  · subst h; simp
  · have : ¬ n = i := fun e => h e.symm
    simp [h, this]
theorem andNot_pow {b n : Nat} (hb : b < 18446744073709551616) (hn : n < 64) : b &&& (18446744073709551615 - 2 ^ n) = setB b n false := by
  apply eq_mk (Nat.lt_of_le_of_lt Nat.and_le_left hb)
  intro i hi
  rw [Nat.testBit_and, compl_bit (pow_lt64 hn) i hi, Nat.testBit_two_pow]
  by_cases h : i = n
  · subst h; simp
  · have : ¬ n = i := fun e => h e.symm
    simp [h, this]
theorem setB_same {b n : Nat} (hb : b < 18446744073709551616) {on : Bool} (h : b.testBit n = on) : setB b n on = b := by
  symm
  apply eq_mk hb
  intro i _
  by_cases he : i = n
  · subst he; simp [h]
  · simp [he]

theorem wpow {n : Nat} (hn : n < 64) : IntKind.u64.wrap ((2 : Int) ^ n) = ((2 ^ n : Nat) : Int) := by rw [pow_cast]; exact wrapN (pow_lt64 hn)
theorem u_or {b n : Nat} (hb : b < 18446744073709551616) (hn : n < 64) : bits .or .u64 (b : Int) (IntKind.u64.wrap ((2 : Int) ^ n)) = ((setB b n true : Nat) : Int) := by
  rw [wpow hn, u64_or_nat _ _ hb (pow_lt64 hn), or_pow hb hn]
theorem u_andNot {b n : Nat} (hb : b < 18446744073709551616) (hn : n < 64) : bits .andNot .u64 (b : Int) (IntKind.u64.wrap ((2 : Int) ^ n)) = ((setB b n false : Nat) : Int) := by
  rw [wpow hn, u64_andNot_nat _ _ hb (pow_lt64 hn), andNot_pow hb hn]
theorem u_and_ne {b n : Nat} (hb : b < 18446744073709551616) (hn : n < 64) : (bits .and .u64 (b : Int) (IntKind.u64.wrap ((2 : Int) ^ n)) != 0) = b.testBit n := by
  rw [wpow hn, u64_and_nat _ _ hb (pow_lt64 hn)]
  by_cases h : b.testBit n = true
  · rw [h]
    have h1 : (b &&& 2 ^ n).testBit n = true := by rw [Nat.testBit_and, h, Nat.testBit_two_pow]; simp
    have h2 : b &&& 2 ^ n ≠ 0 := fun e => by rw [e] at h1; simp at h1
    simp; omega
  · have h' : b.testBit n = false := by simpa using h
    rw [h']
    have h1 : b &&& 2 ^ n = 0 := by
      apply Nat.eq_of_testBit_eq
      intro i
      rw [Nat.testBit_and, Nat.testBit_two_pow]
      by_cases he : n = i
      · subst he; simp [h']
      · simp [he]
    rw [h1]; rfl
/-- p |= bit &^ active -/
theorem u_or_andNot {b n act : Nat} (hb : b < 18446744073709551616) (hn : n < 64) (ha : act < 18446744073709551616) :
    bits .or .u64 (b : Int) (bits .andNot .u64 (IntKind.u64.wrap ((2 : Int) ^ n)) (act : Int)) = (((if act.testBit n = true then b else setB b n true) : Nat) : Int) := by
  rw [wpow hn, u64_andNot_nat _ _ (pow_lt64 hn) ha, u64_or_nat _ _ hb (Nat.lt_of_le_of_lt Nat.and_le_left (pow_lt64 hn))]
  congr 1
  apply Nat.eq_of_testBit_eq
  intro i
  rw [Nat.testBit_or, Nat.testBit_and, Nat.testBit_two_pow]
  by_cases hi : i < 64
  · rw [compl_bit ha i hi]
    by_cases h : act.testBit n = true
    · rw [if_pos h]
      by_cases he : n = i
      · subst he; simp [h]
      · simp [he]
    · rw [if_neg h, setB_bit b n true hi]
      have h' : act.testBit n = false := by simpa using h
      by_cases he : n = i
      · subst he; simp [h']
      · have : ¬ i = n := fun e => he e.symm
        simp [he, this]
  · have : ¬ n = i := by omega
    rw [bit_high hb hi]
    have h2 : (if act.testBit n = true then b else setB b n true).testBit i = false := by
      split
      · exact bit_high hb hi
      · exact bit_high (setB_lt _ _ _) hi
    rw [h2]; simp [this]
/-- p |= r & bit -/
theorem u_or_and {b n r : Nat} (hb : b < 18446744073709551616) (hn : n < 64) (hr : r < 18446744073709551616) :
    bits .or .u64 (b : Int) (bits .and .u64 (r : Int) (IntKind.u64.wrap ((2 : Int) ^ n))) = (((if r.testBit n = true then setB b n true else b) : Nat) : Int) := by
  rw [wpow hn, u64_and_nat _ _ hr (pow_lt64 hn), u64_or_nat _ _ hb (Nat.lt_of_le_of_lt Nat.and_le_left hr)]
  congr 1
  by_cases h : r.testBit n = true
  · rw [if_pos h, ← or_pow hb hn]
    congr 1
    apply Nat.eq_of_testBit_eq
    intro i
    rw [Nat.testBit_and, Nat.testBit_two_pow]
    by_cases he : n = i
    · subst he; simp [h]
    · simp [he]
  · have h' : r.testBit n = false := by simpa using h
    rw [if_neg h]
    have : r &&& 2 ^ n = 0 := by
      apply Nat.eq_of_testBit_eq
      intro i
      rw [Nat.testBit_and, Nat.testBit_two_pow]
      by_cases he : n = i
      · subst he; simp [h']
      · simp [he]
    rw [this]; simp
end Go.Proofs.YtpncbkodhojicaaDoor

/- The walks of bits.from and bits.Between. Conditions: words below 2^64. -/
import Derived.Test.YtgampofpabllbaaKit
import Derived.Test.YtgampofpabllbaaSets
import Derived.Laws.Bits64b
namespace Go.Proofs.Ytgampofpabllbaa
open Go.RowKit

theorem u64_wrap {a : Int} (h0 : 0 ≤ a) (h : a < 18446744073709551616) : IntKind.u64.wrap a = a := by
  rw [IntKind.wrap_u64]; omega
theorem wrapN {n : Nat} (h : n < 18446744073709551616) : IntKind.u64.wrap (n : Int) = (n : Int) := u64_wrap (Int.natCast_nonneg n) (by omega)
theorem pow_cast (n : Nat) : ((2 : Int) ^ n) = ((2 ^ n : Nat) : Int) := by simp
theorem mkU {b : Nat} {p : Nat → Bool} {x : Int} (hx : x = (b : Int)) (hb : b < 18446744073709551616) (h : ∀ i, i < 64 → b.testBit i = p i) : Ending.returned (.int .u64 x) = .returned (.int .u64 ((mk p : Nat) : Int)) := by
  rw [hx, eq_mk hb h]

/-- bits.from -/
theorem from_any (b : Nat) (n : Int) (w : World) (hb : b < 18446744073709551616) :
    Calls Try.prog 28 #[.int .u64 b, .int .i64 n] w fun e w' => e = .returned (.int .u64 ((mk fun i => decide (n ≤ i) && b.testBit i : Nat) : Int)) ∧ w = w' := by
  by_cases h0 : n ≤ 0
  · go_enter Try.func28, Try.ntmps28
    go_wp2
    go_ret
    exact ⟨mkU rfl hb (fun i _ => by have : n ≤ (i : Int) := by omega
                                     simp [this]), rfl⟩
  · by_cases h1 : 63 < n
    · go_enter Try.func28, Try.ntmps28
      go_wp2
      go_ret
      exact ⟨mkU (b := 0) rfl (by omega) (fun i _ => by have : ¬ n ≤ (i : Int) := by omega
                                                        simp [this]), rfl⟩
    · obtain ⟨n, rfl⟩ := Int.eq_ofNat_of_zero_le (show 0 ≤ n by omega)
      have h0' : 0 < n := by omega
      have h1' : n ≤ 63 := by omega
      clear h0 h1
      have hle : b / 2 ^ n * 2 ^ n ≤ b := Nat.div_mul_le_self _ _
      have hk : IntKind.u64.wrap ((b : Int) / 2 ^ n * 2 ^ n) = ((b / 2 ^ n * 2 ^ n : Nat) : Int) := by
        have e : ((b : Int) / 2 ^ n * 2 ^ n) = ((b / 2 ^ n * 2 ^ n : Nat) : Int) := by simp
        rw [e, u64_wrap (by omega) (by omega)]
      have Hk := Lib.hid hk; clear hk
      go_enter Try.func28, Try.ntmps28
      go_wp2
      go_ret
      exact ⟨mkU Hk.out (by omega) (fun i _ => by rw [shift_bit]; simp), rfl⟩

/-- bits.Between -/
theorem between_any (low hi : Int) (w : World) (hlo : -9223372036854775808 ≤ hi) (hhi : hi ≤ 9223372036854775806) :
    Calls Try.prog 18 #[.int .i64 low, .int .i64 hi] w fun e w' => e = .returned (.int .u64 ((mk fun i => decide (low ≤ i) && decide ((i : Int) ≤ hi) : Nat) : Int)) ∧ w = w' := by
  have f1 := Lib.hid (fun w => from_any 18446744073709551615 low w (by omega))
  have f2 := Lib.hid (fun w => from_any 18446744073709551615 (hi + 1) w (by omega))
  by_cases h : 63 ≤ hi
  · go_enter Try.func18, Try.ntmps18
    go_wp2_with (refine (f1.out _).mono ?_; rintro e w' ⟨rfl, rfl⟩)
    go_ret
    refine ⟨mkU rfl (mk_lt _) (fun i hi' => ?_), rfl⟩
    have : (i : Int) ≤ hi := by omega
    rw [mk_bit, ones_bit]; simp [hi', this]
  · go_enter Try.func18, Try.ntmps18
    go_wp2_with fail
    refine (f1.out _).mono ?_
    rintro e w' ⟨rfl, rfl⟩
    go_wp2_with fail
    refine (f2.out _).mono ?_
    rintro e w' ⟨rfl, rfl⟩
    go_wp2_with fail
    go_ret
    refine ⟨mkU (u64_andNot_nat _ _ (mk_lt _) (mk_lt _)) (Nat.lt_of_le_of_lt Nat.and_le_left (mk_lt _)) (fun i hi' => ?_), rfl⟩
    rw [Nat.testBit_and, compl_bit (mk_lt _) i hi', mk_bit, mk_bit, ones_bit]
    by_cases h2 : (i : Int) ≤ hi
    · have : ¬ hi + 1 ≤ (i : Int) := by omega
      simp [hi', h2, this]
    · have : hi + 1 ≤ (i : Int) := by omega
      simp [hi', h2, this]

theorem sl_int : SlT Try.prog 62 3 (.int .i64 0) 8 := SlT.mk' Try.underlying62 (by kernel_rfl) rfl
end Go.Proofs.Ytgampofpabllbaa

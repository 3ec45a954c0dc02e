/- The walks of package bits and of its reference (vergeref05): each call, at arguments in range, returns the set that the plain words of XSets say. Conditions: words below 2^64; the de Bruijn table as its initialiser lays it (TrailingZeros64). -/
import Derived.Test.YtpncbkodhojicaaDoorKit
import Derived.Test.YtpncbkodhojicaaDoorSets
import Derived.Laws.Bits64b
namespace Go.Proofs.YtpncbkodhojicaaDoor
open Go.RowKit

theorem u64_wrap {a : Int} (h0 : 0 ≤ a) (h : a < 18446744073709551616) : IntKind.u64.wrap a = a := by
  rw [IntKind.wrap_u64]; omega
theorem wrapN {n : Nat} (h : n < 18446744073709551616) : IntKind.u64.wrap (n : Int) = (n : Int) := u64_wrap (Int.natCast_nonneg n) (by omega)
theorem pow_cast (n : Nat) : ((2 : Int) ^ n) = ((2 ^ n : Nat) : Int) := by simp
theorem mkU {b : Nat} {p : Nat → Bool} {x : Int} (hx : x = (b : Int)) (hb : b < 18446744073709551616) (h : ∀ i, i < 64 → b.testBit i = p i) : Ending.returned (.int .u64 x) = .returned (.int .u64 ((mk p : Nat) : Int)) := by
  rw [hx, eq_mk hb h]

/-- bits.from -/
theorem from_any (b : Nat) (n : Int) (w : World) (hb : b < 18446744073709551616) :
    Calls Tryd.prog 48 #[.int .u64 b, .int .i64 n] w fun e w' => e = .returned (.int .u64 ((mk fun i => decide (n ≤ i) && b.testBit i : Nat) : Int)) ∧ w = w' := by
  by_cases h0 : n ≤ 0
  · go_enter Tryd.func48, Tryd.ntmps48
    go_wp2
    go_ret
    exact ⟨mkU rfl hb (fun i _ => by have : n ≤ (i : Int) := by omega
                                     simp [this]), rfl⟩
  · by_cases h1 : 63 < n
    · go_enter Tryd.func48, Tryd.ntmps48
      go_wp2
      go_ret
      exact ⟨mkU (b := 0) rfl (by omega) (fun i _ => by have : ¬ n ≤ (i : Int) := by omega
                                                        simp [this]), rfl⟩
    · obtain ⟨n, rfl⟩ := Int.eq_ofNat_of_zero_le (show 0 ≤ n by omega)
      have h0' : 0 < n := by omega
      have h1' : n ≤ 63 := by omega
      clear h0 h1
      have hle : b / 2 ^ n * 2 ^ n ≤ b := Nat.div_mul_le_self _ _
      have hk : IntKind.u64.wrap ((b : Int) / 2 ^ n * 2 ^ n) = ((b / 2 ^ n * 2 ^ n : Nat) : Int) := by
        have e : ((b : Int) / 2 ^ n * 2 ^ n) = ((b / 2 ^ n * 2 ^ n : Nat) : Int) := by simp
        rw [e, u64_wrap (by omega) (by omega)]
      have Hk := Lib.hid hk; clear hk
      go_enter Tryd.func48, Tryd.ntmps48
      go_wp2
      go_ret
      exact ⟨mkU Hk.out (by omega) (fun i _ => by rw [shift_bit]; simp), rfl⟩

/-- bits.Between -/
theorem between_any (low hi : Int) (w : World) (hlo : -9223372036854775808 ≤ hi) (hhi : hi ≤ 9223372036854775806) :
    Calls Tryd.prog 27 #[.int .i64 low, .int .i64 hi] w fun e w' => e = .returned (.int .u64 ((mk fun i => decide (low ≤ i) && decide ((i : Int) ≤ hi) : Nat) : Int)) ∧ w = w' := by
  have f1 := Lib.hid (fun w => from_any 18446744073709551615 low w (by omega))
  have f2 := Lib.hid (fun w => from_any 18446744073709551615 (hi + 1) w (by omega))
  by_cases h : 63 ≤ hi
  · go_enter Tryd.func27, Tryd.ntmps27
    go_wp2_with (refine (f1.out _).mono ?_; rintro e w' ⟨rfl, rfl⟩)
    go_ret
    refine ⟨mkU rfl (mk_lt _) (fun i hi' => ?_), rfl⟩
    have : (i : Int) ≤ hi := by omega
    rw [mk_bit, ones_bit]; simp [hi', this]
  · go_enter Tryd.func27, Tryd.ntmps27
    go_wp2_with fail
    refine (f1.out _).mono ?_
    rintro e w' ⟨rfl, rfl⟩
    go_wp2_with fail
    refine (f2.out _).mono ?_
    rintro e w' ⟨rfl, rfl⟩
    go_wp2_with fail
    go_ret
    refine ⟨mkU (u64_andNot_nat _ _ (mk_lt _) (mk_lt _)) (Nat.lt_of_le_of_lt Nat.and_le_left (mk_lt _)) (fun i hi' => ?_), rfl⟩
    rw [Nat.testBit_and, compl_bit (mk_lt _) i hi', mk_bit, mk_bit, ones_bit]
    by_cases h2 : (i : Int) ≤ hi
    · have : ¬ hi + 1 ≤ (i : Int) := by omega
      simp [hi', h2, this]
    · have : hi + 1 ≤ (i : Int) := by omega
      simp [hi', h2, this]

/-- bits.Of, all numbers in range -/
theorem of_ok (A : Option Addr) (xs : List Int) (c : Nat) (w : World) (hl : xs.length ≤ 1099511627776) (hr : Rd w A (xs.map (.int .i64))) (hv : ∀ i, i < xs.length → 0 ≤ xs.getD i 0 ∧ xs.getD i 0 < 64) :
    Calls Tryd.prog 67 #[.slice A xs.length c] w fun e w' => e = .returned (.tuple #[.int .u64 ((ofList xs : Nat) : Int), .int .i64 0]) ∧ w = w' := by
  rw [← orTo_mk hv]
  have Hr := Lib.hid hr; clear hr
  have Hv := Lib.hid hv; clear hv
  go_enter Tryd.func67, Tryd.ntmps67
  go_wp2
  go_loop [4, 6, 9] (fun b _ i => ∃ k : Nat, k ≤ xs.length ∧ i = .int .i64 k ∧ b = .int .u64 ((orTo xs k : Nat) : Int)) (fun _ _ i => xs.length - (intOf i).toNat)
  case atStart => exact ⟨0, by omega, rfl, rfl⟩
  case round =>
    obtain ⟨k, hk, rfl, rfl⟩ := hrel
    by_cases hlt : k < xs.length
    · obtain ⟨a, rfl, h1⟩ := Hr.out.int hlt
      obtain ⟨hx0, hx1⟩ := Hv.out k hlt
      have hs := orTo_lt Hv.out k hk
      have Hn : Hid (orTo xs (k + 1) = orTo xs k ||| 2 ^ (xs.getD k 0).toNat) := rfl
      generalize orTo xs k = s at *
      generalize xs.getD k 0 = x at *
      obtain ⟨x, rfl⟩ := Int.eq_ofNat_of_zero_le hx0
      have hp := pow_lt64 (n := x) (by omega)
      go_wp2
      go_round
      case rel =>
        refine ⟨k + 1, by omega, by go_num, ?_⟩
        rw [Hn.out]
        rw [Int.toNat_natCast, pow_cast, wrapN hp, u64_or_nat _ _ hs hp]
      case measure => simp [intOf]; omega
    · obtain rfl : k = xs.length := by omega
      go_wp2
      go_ret2
      exact ⟨rfl, rfl⟩
end Go.Proofs.YtpncbkodhojicaaDoor

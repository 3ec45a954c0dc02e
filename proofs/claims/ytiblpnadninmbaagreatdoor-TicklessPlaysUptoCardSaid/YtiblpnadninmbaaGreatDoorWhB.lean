/- Package wheel: the walks of slot, start, Now, Len, home, note and At. Conditions: a wheel's memory. -/
import Derived.Test.YtiblpnadninmbaaGreatDoorWhA
import Derived.Test.YtiblpnadninmbaaGreatDoorPlE
import Derived.Test.YtiblpnadninmbaaGreatDoorMapN
import Derived.Test.YtiblpnadninmbaaGreatDoorBitsW
namespace Go.Proofs.YtiblpnadninmbaaGreatDoor
open Go.RowKit Go.Shelf
attribute [local go_sem] Oper.semAt_some

theorem i64_and_nat (a b : Nat) (ha : a < 9223372036854775808) (hb : b < 9223372036854775808) : bits .and .i64 (a : Int) (b : Int) = ((a &&& b : Nat) : Int) := by
  have hx : a &&& b < 2 ^ 63 := Nat.and_lt_two_pow _ (by omega)
  show IntKind.i64.wrap ((BitVec.ofInt 64 (a : Int) &&& BitVec.ofInt 64 (b : Int)).toNat : Int) = _
  rw [BitVec.toNat_and, ofInt_u64 a (by omega), ofInt_u64 b (by omega), IntKind.wrap_i64]
  omega
theorem i64_or_nat (a b : Nat) (ha : a < 9223372036854775808) (hb : b < 9223372036854775808) : bits .or .i64 (a : Int) (b : Int) = ((a ||| b : Nat) : Int) := by
  have hx : a ||| b < 2 ^ 63 := Nat.or_lt_two_pow (by omega) (by omega)
  show IntKind.i64.wrap ((BitVec.ofInt 64 (a : Int) ||| BitVec.ofInt 64 (b : Int)).toNat : Int) = _
  rw [BitVec.toNat_or, ofInt_u64 a (by omega), ofInt_u64 b (by omega), IntKind.wrap_i64]
  omega
theorem and63 {x : Int} (h0 : 0 ≤ x) (h1 : x ≤ 4503599627370496) : bits .and .i64 x 63 = x % 64 := by
  obtain ⟨n, rfl⟩ := Int.eq_ofNat_of_zero_le h0
  have := i64_and_nat n 63 (by omega) (by omega)
  rw [show ((63 : Nat) : Int) = 63 from rfl] at this
  rw [this, show (63 : Nat) = 2 ^ 6 - 1 from rfl, Nat.and_two_pow_sub_one_eq_mod]
  simp
/-- A join without common bits. -/
theorem or_join {x y : Int} (i : Nat) (hx0 : 0 ≤ x) (hy0 : 0 ≤ y) (hx : x % ((2 ^ i : Nat) : Int) = 0) (hy : y < ((2 ^ i : Nat) : Int)) (h1 : x ≤ 4503599627370496) (h2 : y ≤ 4503599627370496) : bits .or .i64 x y = x + y := by
  obtain ⟨a, rfl⟩ := Int.eq_ofNat_of_zero_le hx0
  obtain ⟨b, rfl⟩ := Int.eq_ofNat_of_zero_le hy0
  have hx' : a % 2 ^ i = 0 := by
    have h : ((a % 2 ^ i : Nat) : Int) = 0 := by rw [Int.natCast_emod]; exact hx
    omega
  have hy' : b < 2 ^ i := Int.ofNat_lt.1 hy
  rw [i64_or_nat a b (by omega) (by omega), nat_join i a b hx' hy', Int.natCast_add]
/-- A time's slot at a level. -/
def slF (t : Int) (L : Nat) : Nat := match L with | 0 => (t % 64).toNat | 1 => (t / 64 % 64).toNat | 2 => (t / 4096 % 64).toNat | _ => (t / 262144 % 64).toNat
theorem slF_lt (t : Int) (L : Nat) : slF t L < 64 := by unfold slF; split <;> omega
theorem slot_any (t : Int) (L : Nat) (hL : L < 4) (h0 : 0 ≤ t) (h1 : t ≤ 4503599627370496) (w : World) :
    Calls Tryz.prog 78 #[.int .i64 t, .int .i64 L] w fun e w' => e = .returned (.int .i64 (slF t L : Nat)) ∧ w = w' := by
  obtain rfl | rfl | rfl | rfl : L = 0 ∨ L = 1 ∨ L = 2 ∨ L = 3 := by omega
  · have e1 : bits .and .i64 (t) 63 = (t) % 64 := and63 (by omega) (by omega)
    have E1 := Lib.hid e1
    clear e1
    go_enter Tryz.func78, Tryz.ntmps78
    go_wp2
    go_ret
    refine ⟨?_, rfl⟩
    show Ending.returned (.int .i64 (bits .and .i64 (t) 63)) = _
    rw [E1.out]
    refine ret_int ?_
    show _ = (((t) % 64).toNat : Int)
    omega
  · have e1 : bits .and .i64 (t / 64) 63 = (t / 64) % 64 := and63 (by omega) (by omega)
    have E1 := Lib.hid e1
    clear e1
    go_enter Tryz.func78, Tryz.ntmps78
    go_wp2
    go_ret
    refine ⟨?_, rfl⟩
    show Ending.returned (.int .i64 (bits .and .i64 (t / 64) 63)) = _
    rw [E1.out]
    refine ret_int ?_
    show _ = (((t / 64) % 64).toNat : Int)
    omega
  · have e1 : bits .and .i64 (t / 4096) 63 = (t / 4096) % 64 := and63 (by omega) (by omega)
    have E1 := Lib.hid e1
    clear e1
    go_enter Tryz.func78, Tryz.ntmps78
    go_wp2
    go_ret
    refine ⟨?_, rfl⟩
    show Ending.returned (.int .i64 (bits .and .i64 (t / 4096) 63)) = _
    rw [E1.out]
    refine ret_int ?_
    show _ = (((t / 4096) % 64).toNat : Int)
    omega
  · have e1 : bits .and .i64 (t / 262144) 63 = (t / 262144) % 64 := and63 (by omega) (by omega)
    have E1 := Lib.hid e1
    clear e1
    go_enter Tryz.func78, Tryz.ntmps78
    go_wp2
    go_ret
    refine ⟨?_, rfl⟩
    show Ending.returned (.int .i64 (bits .and .i64 (t / 262144) 63)) = _
    rw [E1.out]
    refine ret_int ?_
    show _ = (((t / 262144) % 64).toNat : Int)
    omega
theorem start_any (t : Int) (L n : Nat) (hL : L < 4) (hn : n < 64) (h0 : 0 ≤ t) (h1 : t ≤ 4503599627370496) (w : World) :
    Calls Tryz.prog 79 #[.int .i64 t, .int .i64 L, .int .i64 n] w fun e w' => e = .returned (.int .i64 (begF t (64 * L + n))) ∧ ∃ j, w.drewN j = w' := by
  obtain rfl | rfl | rfl | rfl : L = 0 ∨ L = 1 ∨ L = 2 ∨ L = 3 := by omega
  · have e1 : bits .or .i64 (t / 64 * 64) ((n : Int)) = (t / 64 * 64) + ((n : Int)) := or_join 6 (by omega) (by omega) (by show _ % _ = (0 : Int); simp only [Nat.reducePow]; omega) (by simp only [Nat.reducePow]; omega) (by omega) (by omega)
    have E1 := Lib.hid e1
    have hb0 : (t / 64 * 64) + ((n : Int)) = begF t (64 * 0 + n) := by
      unfold begF
      repeat' split
      all_goals omega
    have hb := Lib.hid hb0
    clear hb0
    clear e1
    go_enter Tryz.func79, Tryz.ntmps79
    go_upto_region 2 with fail
    go_big_quiet (fail)
    go_wp2
    go_ret
    refine ⟨?_, _, rfl⟩
    show Ending.returned (.int .i64 (bits .or .i64 (t / 64 * 64) ((n : Int)))) = _
    rw [E1.out, hb.out]
  · have e1 : bits .or .i64 (t / 4096 * 4096) ((n : Int) * 64) = (t / 4096 * 4096) + ((n : Int) * 64) := or_join 12 (by omega) (by omega) (by show _ % _ = (0 : Int); simp only [Nat.reducePow]; omega) (by simp only [Nat.reducePow]; omega) (by omega) (by omega)
    have E1 := Lib.hid e1
    have hb0 : (t / 4096 * 4096) + ((n : Int) * 64) = begF t (64 * 1 + n) := by
      unfold begF
      repeat' split
      all_goals omega
    have hb := Lib.hid hb0
    clear hb0
    clear e1
    go_enter Tryz.func79, Tryz.ntmps79
    go_upto_region 2 with fail
    go_big_quiet (fail)
    go_wp2
    go_ret
    refine ⟨?_, _, rfl⟩
    show Ending.returned (.int .i64 (bits .or .i64 (t / 4096 * 4096) ((n : Int) * 64))) = _
    rw [E1.out, hb.out]
  · have e1 : bits .or .i64 (t / 262144 * 262144) ((n : Int) * 4096) = (t / 262144 * 262144) + ((n : Int) * 4096) := or_join 18 (by omega) (by omega) (by show _ % _ = (0 : Int); simp only [Nat.reducePow]; omega) (by simp only [Nat.reducePow]; omega) (by omega) (by omega)
    have E1 := Lib.hid e1
    have hb0 : (t / 262144 * 262144) + ((n : Int) * 4096) = begF t (64 * 2 + n) := by
      unfold begF
      repeat' split
      all_goals omega
    have hb := Lib.hid hb0
    clear hb0
    clear e1
    go_enter Tryz.func79, Tryz.ntmps79
    go_upto_region 2 with fail
    go_big_quiet (fail)
    go_wp2
    go_ret
    refine ⟨?_, _, rfl⟩
    show Ending.returned (.int .i64 (bits .or .i64 (t / 262144 * 262144) ((n : Int) * 4096))) = _
    rw [E1.out, hb.out]
  · have e1 : bits .or .i64 (t / 16777216 * 16777216) ((n : Int) * 262144) = (t / 16777216 * 16777216) + ((n : Int) * 262144) := or_join 24 (by omega) (by omega) (by show _ % _ = (0 : Int); simp only [Nat.reducePow]; omega) (by simp only [Nat.reducePow]; omega) (by omega) (by omega)
    have E1 := Lib.hid e1
    have hb0 : (t / 16777216 * 16777216) + ((n : Int) * 262144) = begF t (64 * 3 + n) := by
      unfold begF
      repeat' split
      all_goals omega
    have hb := Lib.hid hb0
    clear hb0
    clear e1
    go_enter Tryz.func79, Tryz.ntmps79
    go_upto_region 2 with fail
    go_big_quiet (fail)
    go_wp2
    go_ret
    refine ⟨?_, _, rfl⟩
    show Ending.returned (.int .i64 (bits .or .i64 (t / 16777216 * 16777216) ((n : Int) * 262144))) = _
    rw [E1.out, hb.out]
end Go.Proofs.YtiblpnadninmbaaGreatDoor

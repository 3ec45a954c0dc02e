/- Package bits: the walks of from, First and After; math/bits.TrailingZeros64. Conditions: words below 2^64; the de Bruijn table as its initialiser lays it. -/
import Derived.Test.YtiblpnadninmbaaGreatDoorKit
import Derived.Test.YtiblpnadninmbaaGreatDoorSets
import Derived.Laws.Bits64b
import Derived.Lib.TrailingZeros
namespace Go.Proofs.YtiblpnadninmbaaGreatDoor
open Go.RowKit

theorem u64_wrap {a : Int} (h0 : 0 ≤ a) (h : a < 18446744073709551616) : IntKind.u64.wrap a = a := by
  rw [IntKind.wrap_u64]; omega
theorem wrapN {n : Nat} (h : n < 18446744073709551616) : IntKind.u64.wrap (n : Int) = (n : Int) := u64_wrap (Int.natCast_nonneg n) (by omega)
theorem pow_cast (n : Nat) : ((2 : Int) ^ n) = ((2 ^ n : Nat) : Int) := by simp
theorem mkU {b : Nat} {p : Nat → Bool} {x : Int} (hx : x = (b : Int)) (hb : b < 18446744073709551616) (h : ∀ i, i < 64 → b.testBit i = p i) : Ending.returned (.int .u64 x) = .returned (.int .u64 ((mk p : Nat) : Int)) := by
  rw [hx, eq_mk hb h]

/-- bits.from -/
theorem from_any (b : Nat) (n : Int) (w : World) (hb : b < 18446744073709551616) :
    Calls Tryz.prog 93 #[.int .u64 b, .int .i64 n] w fun e w' => e = .returned (.int .u64 ((mk fun i => decide (n ≤ i) && b.testBit i : Nat) : Int)) ∧ w = w' := by
  by_cases h0 : n ≤ 0
  · go_enter Tryz.func93, Tryz.ntmps93
    go_wp2
    go_ret
    exact ⟨mkU rfl hb (fun i _ => by have : n ≤ (i : Int) := by omega
                                     simp [this]), rfl⟩
  · by_cases h1 : 63 < n
    · go_enter Tryz.func93, Tryz.ntmps93
      go_wp2
      go_ret
      exact ⟨mkU (b := 0) rfl (by omega) (fun i _ => by have : ¬ n ≤ (i : Int) := by omega
                                                        simp [this]), rfl⟩
    · obtain ⟨n, rfl⟩ := Int.eq_ofNat_of_zero_le (show 0 ≤ n by omega)
      have h0' : 0 < n := by omega
      have h1' : n ≤ 63 := by omega
      clear h0 h1
      have hle : b / 2 ^ n * 2 ^ n ≤ b := Nat.div_mul_le_self _ _
      have hk : IntKind.u64.wrap ((b : Int) / 2 ^ n * 2 ^ n) = ((b / 2 ^ n * 2 ^ n : Nat) : Int) := by
        have e : ((b : Int) / 2 ^ n * 2 ^ n) = ((b / 2 ^ n * 2 ^ n : Nat) : Int) := by simp
        rw [e, u64_wrap (by omega) (by omega)]
      have Hk := Lib.hid hk; clear hk
      go_enter Tryz.func93, Tryz.ntmps93
      go_wp2
      go_ret
      exact ⟨mkU Hk.out (by omega) (fun i _ => by rw [shift_bit]; simp), rfl⟩

/-- The table in its variable. -/
def Tab (w : World) : Prop := ∀ j, j < 64 → w.cell? ⟨0, j, none⟩ = some (.int .u8 ((Lib.deBruijn64tab.getD j 0 : Nat) : Int))
theorem Tab.below {w w' : World} {B : Nat} (h : Tab w) (hb : Below B w w') (h0 : 0 < B) : Tab w' := fun j hj => (hb.cell (p := ⟨0, j, none⟩) h0).trans (h j hj)
theorem Tab.lt {w : World} (h : Tab w) : 0 < w.heap.size := World.block_lt_of_cell? w _ (h 0 (by omega))

theorem tz_key (x a : Nat) (hx : x < 18446744073709551616) (hx0 : x ≠ 0) (hlow : x &&& (18446744073709551616 - x) = a) :
    IntKind.u64.wrap (bits BinOp.and IntKind.u64 (x : Int) (IntKind.u64.wrap (-(x : Int))) * 285870213051353865) / 288230376151711744 = ((a * 285870213051353865 % 18446744073709551616 / 288230376151711744 : Nat) : Int) := by
  have e1 : IntKind.u64.wrap (-(x : Int)) = ((18446744073709551616 - x : Nat) : Int) := by rw [IntKind.wrap_u64]; omega
  rw [e1, u64_and_nat x _ hx (by omega), hlow, IntKind.wrap_u64]
  omega

theorem tz_core (x k idx : Nat) (w : World) (hx0 : ((x : Int) == 0) = false)
    (key : IntKind.u64.wrap (bits BinOp.and IntKind.u64 (x : Int) (IntKind.u64.wrap (-(x : Int))) * 285870213051353865) / 288230376151711744 = (idx : Int))
    (hi : idx < 64) (hk : k < 64) (hcell : w.cell? ⟨0, idx, none⟩ = some (.int .u8 k)) :
    Calls Tryz.prog 104 #[.int .u64 x] w fun e w' => e = .returned (.int .i64 k) ∧ w = w' := by
  go_enter Tryz.func104, Tryz.ntmps104
  go_wp2_with (simp only [key])
  go_ret
  exact ⟨rfl, rfl⟩

/-- math/bits.TrailingZeros64, x not 0 -/
theorem tz_any (x : Nat) (w : World) (h0 : 0 < x) (hx : x < 18446744073709551616) (hT : Tab w) :
    Calls Tryz.prog 104 #[.int .u64 x] w fun e w' => e = .returned (.int .i64 (Lib.ctz 64 x : Nat)) ∧ w = w' := by
  obtain ⟨hlow, hk⟩ := Lib.lowest_bit 64 x (by omega) hx
  obtain ⟨hi, htab⟩ := Lib.deBruijn64_at _ hk
  have hcell := hT _ hi
  rw [htab] at hcell
  exact tz_core x _ _ w (by simp; omega) (tz_key x _ hx (by omega) hlow) hi hk hcell


theorem bitsOf_sorted (x : Nat) : (bitsOf x).Pairwise (· < ·) := List.Pairwise.filter _ List.pairwise_lt_range
theorem ctz_least {x j : Nat} (hx : x < 18446744073709551616) (hj : j < 64) (hb : x.testBit j = true) (hl : ∀ i, i < j → x.testBit i = false) : Lib.ctz 64 x = j := by
  have h0 : 0 < x := Nat.pos_of_ne_zero (fun e => by subst e; simp at hb)
  have hbf := bitsFrom x h0 hx
  have hc : Lib.ctz 64 x ∈ bitsOf x := by rw [hbf]; simp
  obtain ⟨_, hc2⟩ := mem_bitsOf.1 hc
  have hm : j ∈ bitsOf x := mem_bitsOf.2 ⟨hj, hb⟩
  have hs := bitsOf_sorted x
  rw [hbf] at hm hs
  have h1 : Lib.ctz 64 x ≤ j := by
    rcases List.mem_cons.1 hm with e | e
    · omega
    · exact Nat.le_of_lt ((List.pairwise_cons.1 hs).1 j e)
  by_cases e : Lib.ctz 64 x < j
  · rw [hl _ e] at hc2; cases hc2
  · omega
theorem first_none (w : World) : Calls Tryz.prog 92 #[.int .u64 0] w fun e w' => e = .returned (.tuple #[.int .i64 0, .bool false]) ∧ w = w' := by
  go_enter Tryz.func92, Tryz.ntmps92
  go_wp2
  go_ret2
  exact ⟨rfl, rfl⟩
theorem first_some (x j : Nat) (w : World) (hT : Tab w) (hx : x < 18446744073709551616) (hj : j < 64) (hb : x.testBit j = true) (hl : ∀ i, i < j → x.testBit i = false) :
    Calls Tryz.prog 92 #[.int .u64 x] w fun e w' => e = .returned (.tuple #[.int .i64 j, .bool true]) ∧ w = w' := by
  have h0 : 0 < x := Nat.pos_of_ne_zero (fun e => by subst e; simp at hb)
  have f1 := Lib.hid (tz_any x w h0 hx hT)
  rw [ctz_least hx hj hb hl] at f1
  have t0 : ((x : Int) == 0) = false := by simp; omega
  clear hb hl
  go_enter Tryz.func92, Tryz.ntmps92
  go_wp2_with (go_at_call 104; with_reducible refine f1.out.mono ?_; rintro e w1 ⟨rfl, rfl⟩)
  go_ret2
  exact ⟨rfl, rfl⟩
theorem after_none (b n : Nat) (w : World) (hb : b < 18446744073709551616) (hn : n < 64) (h : ∀ j, n < j → j < 64 → b.testBit j = false) :
    Calls Tryz.prog 77 #[.int .u64 b, .int .i64 n] w fun e w' => e = .returned (.tuple #[.int .i64 0, .bool false]) ∧ w = w' := by
  have hm : (mk fun i => decide (((n : Int) + 1) ≤ (i : Int)) && b.testBit i) = 0 := by
    have : mk (fun i => decide (((n : Int) + 1) ≤ (i : Int)) && b.testBit i) = mk (fun _ => false) := mk_congr fun i hi => by
      by_cases e : n < i
      · rw [h i e hi, Bool.and_false]
      · have : ¬ ((n : Int) + 1 ≤ (i : Int)) := by omega
        simp [this]
    rw [this]
    exact (eq_mk (b := 0) (by omega) (fun i _ => by simp)).symm
  have f1 := Lib.hid (from_any b ((n : Int) + 1) w hb)
  rw [hm] at f1
  have f2 := Lib.hid (first_none w)
  clear hm h
  by_cases h1 : 63 ≤ n
  · go_enter Tryz.func77, Tryz.ntmps77
    go_wp2
    go_ret2
    exact ⟨rfl, rfl⟩
  · go_enter Tryz.func77, Tryz.ntmps77
    go_wp2_with (first
      | (go_at_call 93; with_reducible refine f1.out.mono ?_; rintro e w1 ⟨rfl, rfl⟩)
      | (go_at_call 92; with_reducible refine f2.out.mono ?_; rintro e w1 ⟨rfl, rfl⟩))
    go_ret2
    exact ⟨rfl, rfl⟩
theorem after_some (b n j : Nat) (w : World) (hT : Tab w) (hb : b < 18446744073709551616) (hj : n < j) (hj2 : j < 64) (hbj : b.testBit j = true) (h : ∀ i, n < i → i < j → b.testBit i = false) :
    Calls Tryz.prog 77 #[.int .u64 b, .int .i64 n] w fun e w' => e = .returned (.tuple #[.int .i64 j, .bool true]) ∧ w = w' := by
  have f1 := Lib.hid (from_any b ((n : Int) + 1) w hb)
  have f2 := Lib.hid (first_some (mk fun i => decide (((n : Int) + 1) ≤ (i : Int)) && b.testBit i) j w hT (mk_lt _) hj2 (by rw [mk_bit]; simp [hj2, hbj]; omega) (fun i hi => by
    rw [mk_bit]
    by_cases e : n < i
    · rw [h i e hi, Bool.and_false, Bool.and_false]
    · have : ¬ ((n : Int) + 1 ≤ (i : Int)) := by omega
      simp [this]))
  generalize (mk fun i => decide (((n : Int) + 1) ≤ (i : Int)) && b.testBit i) = m at *
  clear h hbj
  have h1 : ¬ 63 ≤ n := by omega
  go_enter Tryz.func77, Tryz.ntmps77
  go_wp2_with (first
    | (go_at_call 93; with_reducible refine f1.out.mono ?_; rintro e w1 ⟨rfl, rfl⟩)
    | (go_at_call 92; with_reducible refine f2.out.mono ?_; rintro e w1 ⟨rfl, rfl⟩))
  go_ret2
  exact ⟨rfl, rfl⟩
end Go.Proofs.YtiblpnadninmbaaGreatDoor

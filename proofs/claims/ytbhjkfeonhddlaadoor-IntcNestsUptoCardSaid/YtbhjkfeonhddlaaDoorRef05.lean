/- The walks of the reference vergeref05 (sets, by definition) and of math/bits.TrailingZeros64: each call returns what the plain words of XSets say. Conditions: words below 2^64; numbers in range; the de Bruijn table as its initialiser lays it. -/
import Derived.Test.YtbhjkfeonhddlaaDoorBits
namespace Go.Proofs.YtbhjkfeonhddlaaDoor
open Go.RowKit

def hasB (b : Nat) (n : Int) : Bool := decide (0 ≤ n) && b.testBit n.toNat
theorem hasB_nat (b n : Nat) : hasB b (n : Int) = b.testBit n := by simp [hasB]

/-- vergeref05.Has -/
theorem has_any (b : Nat) (n : Int) (w : World) (hb : b < 18446744073709551616) :
    Calls Tryd.prog 19 #[.int .u64 b, .int .i64 n] w fun e w' => e = .returned (.bool (hasB b n)) ∧ w = w' := by
  go_enter Tryd.func19, Tryd.ntmps19
  go_wp2
  go_loop [0, 5] (fun b' i => ∃ k : Nat, k ≤ 64 ∧ i = .int .i64 k ∧ b' = .int .u64 (b / 2 ^ k : Nat) ∧ (n < 0 ∨ k ≤ n)) (fun _ i => 64 - (intOf i).toNat)
  case atStart => exact ⟨0, by omega, rfl, by simp, by omega⟩
  case round =>
    obtain ⟨k, hk, rfl, rfl, hn⟩ := hrel
    have hlt : b / 2 ^ k < 18446744073709551616 := Nat.lt_of_le_of_lt (Nat.div_le_self _ _) hb
    have Hs : Hid (b / 2 ^ (k+1) = b / 2 ^ k / 2) := div_succ b k
    have Ht := Lib.hid (div_bit b k)
    generalize b / 2 ^ k = c at *
    by_cases h64 : k < 64
    · by_cases he : (k : Int) = n
      · subst he
        go_wp2
        go_ret
        refine ⟨ret_bool ?_, rfl⟩
        rw [hasB_nat, Bool.eq_iff_iff, ← Ht.out]; simp; omega
      · have he' : ((k : Int) == n) = false := by simpa using he
        have Hn : Hid (¬ (k : Int) = n) := he
        clear he
        go_wp2
        go_round
        case rel => exact ⟨k + 1, by omega, by go_num, by rw [Hs.out]; go_num, by have := Hn.out; omega⟩
        case measure => simp [intOf]; omega
    · go_wp2
      go_ret
      refine ⟨ret_bool ?_, rfl⟩
      unfold hasB
      by_cases h0 : 0 ≤ n
      · rw [bit_high hb (by omega)]; simp
      · simp [h0]

/-- vergeref05.one -/
theorem one_any (n : Nat) (w : World) (hn : n < 64) :
    Calls Tryd.prog 53 #[.int .i64 n] w fun e w' => e = .returned (.int .u64 (2 ^ n : Nat)) ∧ w = w' := by
  go_enter Tryd.func53, Tryd.ntmps53
  go_wp2
  go_loop [3, 4] (fun b i => ∃ k : Nat, k ≤ n ∧ i = .int .i64 k ∧ b = .int .u64 (2 ^ k : Nat)) (fun _ i => n - (intOf i).toNat)
  case atStart => exact ⟨0, by omega, rfl, rfl⟩
  case round =>
    obtain ⟨k, hk, rfl, rfl⟩ := hrel
    have hp := pow_lt64 (n := k) (by omega)
    have Hs : Hid (2 ^ (k + 1) = 2 ^ k * 2) := Nat.pow_succ ..
    by_cases hlt : k < n
    · have hp2 : 2 ^ k * 2 < 18446744073709551616 := by have := pow_lt64 (n := k + 1) (by omega); rw [Nat.pow_succ] at this; exact this
      generalize 2 ^ k = c at *
      go_wp2
      go_round
      case rel => exact ⟨k + 1, by omega, by go_num, by rw [Hs.out]; go_num⟩
      case measure => simp [intOf]; omega
    · obtain rfl : k = n := by omega
      generalize hm : 2 ^ k = c at *
      have Hm := Lib.hid hm; clear hm
      go_wp2
      go_ret
      exact ⟨ret_int (by rw [pow_cast, Hm.out]), rfl⟩

/-- vergeref05.Of, all numbers in range -/
theorem rof_ok (A : Option Addr) (xs : List Int) (c : Nat) (w : World) (hl : xs.length ≤ 1099511627776) (hr : Rd w A (xs.map (.int .i64))) (hv : ∀ i, i < xs.length → 0 ≤ xs.getD i 0 ∧ xs.getD i 0 < 64) :
    Calls Tryd.prog 49 #[.slice A xs.length c] w fun e w' => e = .returned (.tuple #[.int .u64 ((ofList xs : Nat) : Int), .int .i64 0]) ∧ w = w' := by
  rw [← orTo_mk hv]
  have Hr := Lib.hid hr; clear hr
  have Hv := Lib.hid hv; clear hv
  go_enter Tryd.func49, Tryd.ntmps49
  go_wp2
  go_loop [4, 6, 9] (fun b _ i => ∃ k : Nat, k ≤ xs.length ∧ i = .int .i64 k ∧ b = .int .u64 ((orTo xs k : Nat) : Int)) (fun _ _ i => xs.length - (intOf i).toNat)
  case atStart => exact ⟨0, by omega, rfl, rfl⟩
  case round =>
    obtain ⟨k, hk, rfl, rfl⟩ := hrel
    by_cases hlt : k < xs.length
    · obtain ⟨a, rfl, h1⟩ := Hr.out.int hlt
      obtain ⟨hx0, hx1⟩ := Hv.out k hlt
      have hs := orTo_lt Hv.out k hk
      have Hn : Hid (orTo xs (k + 1) = orTo xs k ||| 2 ^ (xs.getD k 0).toNat) := rfl
      have hs1 := orTo_lt Hv.out (k + 1) hlt
      generalize hm1 : orTo xs (k + 1) = s1 at *
      have Hm1 := Lib.hid hm1; clear hm1
      generalize orTo xs k = s at *
      generalize xs.getD k 0 = x at *
      obtain ⟨x, rfl⟩ := Int.eq_ofNat_of_zero_le hx0
      have hp := pow_lt64 (n := x) (by omega)
      have f1 := Lib.hid (fun w => has_any s x w hs)
      have f2 := Lib.hid (fun w => one_any x w (by omega))
      have hb := hasB_nat s x
      generalize hasB s x = t at *
      cases t with
      | true =>
        have Hb := Lib.hid hb; clear hb
        go_wp2_with (refine (f1.out _).mono ?_; rintro e w' ⟨rfl, rfl⟩)
        go_round
        case rel =>
          refine ⟨k + 1, by omega, by go_num, ?_⟩
          rw [Hm1.out, Hn.out, Int.toNat_natCast, or_one_bit Hb.out.symm]
        case measure => simp [intOf]; omega
      | false =>
        have Hb := Lib.hid hb; clear hb
        have he : s + 2 ^ x = s1 := by rw [add_one_bit Hb.out.symm, Hn.out, Int.toNat_natCast]
        generalize 2 ^ x = p at *
        have hb2 : s + p < 18446744073709551616 := by omega
        have He := Lib.hid he; clear he
        go_wp2_with fail
        refine (f1.out _).mono ?_
        rintro e w' ⟨rfl, rfl⟩
        go_wp2_with fail
        refine (f2.out _).mono ?_
        rintro e w' ⟨rfl, rfl⟩
        go_wp2_with fail
        go_round
        case rel => exact ⟨k + 1, by omega, by go_num, by rw [Hm1.out, He.out.symm]; go_num⟩
        case measure => simp [intOf]; omega
    · obtain rfl : k = xs.length := by omega
      go_wp2
      go_ret2
      exact ⟨rfl, rfl⟩

theorem sl_int : SlT Tryd.prog 23 3 (.int .i64 0) 8 := SlT.mk' Tryd.underlying23 (by kernel_rfl) rfl

/-- the numbers of a set below k, rising, as numbers of Go's -/
def bI (b k : Nat) : List Int := (bitsTo b k).map Int.ofNat
theorem bI_len (b k : Nat) : (bI b k).length ≤ k := by unfold bI; rw [List.length_map]; exact bitsTo_len b k
theorem bI_succ (b k : Nat) : bI b (k + 1) = bI b k ++ (if b.testBit k then [(k : Int)] else []) := by
  unfold bI
  rw [bitsTo_succ, List.map_append]
  by_cases h : b.testBit k <;> simp [h]

/-- vergeref05.List -/
theorem rlist_any (b : Nat) (w : World) (hb : b < 18446744073709551616) :
    Calls Tryd.prog 47 #[.int .u64 b] w fun e w' => ∃ A c, e = .returned (.slice A (bI b 64).length c) ∧ w'.ownsRow w.heap.size 3 1 (.slice A (bI b 64).length c) (bI b 64).length ((bI b 64).map (.int .i64)) ∧ Below w.heap.size w w' := by
  go_enter Tryd.func47, Tryd.ntmps47
  go_wp2
  go_loopw [0, 3, 4] (fun b' v i wr => ∃ (k : Nat) (A : Option Addr) (c : Nat), k ≤ 64 ∧ i = .int .i64 k ∧ b' = .int .u64 (b / 2 ^ k : Nat) ∧ v = .slice A (bI b k).length c ∧
    wr.ownsRow w.heap.size 3 1 (.slice A (bI b k).length c) (bI b k).length ((bI b k).map (.int .i64)) ∧ Below w.heap.size w wr) (fun _ _ i _ => 64 - (intOf i).toNat)
  case atStart => exact ⟨0, none, 0, by omega, rfl, by simp, rfl, own_nil _ _ _, Below.refl _ _⟩
  case round =>
    obtain ⟨k, A, c, hk, rfl, rfl, rfl, hown, hB⟩ := hrel
    have hlt : b / 2 ^ k < 18446744073709551616 := Nat.lt_of_le_of_lt (Nat.div_le_self _ _) hb
    have Hs : Hid (b / 2 ^ (k+1) = b / 2 ^ k / 2) := div_succ b k
    have Ht := Lib.hid (div_bit b k)
    have Hl := Lib.hid (bI_succ b k)
    have hlen := bI_len b k
    have Ho := Lib.hid hown; clear hown
    by_cases h64 : k < 64
    · generalize b / 2 ^ k = q at *
      by_cases hbit : b.testBit k = true
      · rw [hbit] at Ht Hl
        have hq : ((q : Int) % 2 == 1) = true := by have := Ht.out.2 rfl; simp; omega
        generalize hL : bI b k = L at *
        go_wp2_with (at_builtin; refine wp_app1 rfl _ _ sl_int (by decide) rfl (Ho.out.alloc _) rfl (by omega) (by have := hB.size; simp; omega) wr.heap.size (.int .i64 k) rfl (by go_simp) rfl ?_; intro A' c' w1 hown' hB')
        go_roundw
        case rel =>
          refine ⟨k + 1, A', c', by omega, by go_num, by rw [Hs.out]; go_num, ?_⟩
          rw [Hl.out]
          simp only [if_true, List.length_append, List.length_cons, List.length_nil, Nat.zero_add, List.map_append, List.map_cons, List.map_nil, true_and]
          exact ⟨hown', hB.trans (((Below.refl _ _).alloc hB.size _).trans hB')⟩
        case measure => simp [intOf]; omega
      · have hbit' : b.testBit k = false := by simpa using hbit
        have hq : ((q : Int) % 2 == 1) = false := by have := Ht.out; simp [hbit'] at this; simp; omega
        rw [hbit'] at Hl
        generalize hL : bI b k = L at *
        have Hb' := Lib.hid hbit'; clear hbit hbit'
        go_wp2
        go_roundw
        case rel =>
          refine ⟨k + 1, A, c, by omega, by go_num, by rw [Hs.out]; go_num, ?_⟩
          rw [Hl.out]
          simp only [Bool.false_eq_true, if_false, List.append_nil, true_and]
          exact ⟨Ho.out, hB⟩
        case measure => simp [intOf]; omega
    · obtain rfl : k = 64 := by omega
      generalize b / 2 ^ 64 = q at *
      go_wp2
      go_ret
      exact ⟨A, c, rfl, Ho.out, hB⟩

/-- vergeref05.Between -/
theorem rbetween_any (low hi : Int) (w : World) :
    Calls Tryd.prog 46 #[.int .i64 low, .int .i64 hi] w fun e w' => e = .returned (.int .u64 ((mk fun i => decide (low ≤ i) && decide ((i : Int) ≤ hi) : Nat) : Int)) ∧ w = w' := by
  unfold mk
  go_enter Tryd.func46, Tryd.ntmps46
  go_wp2
  go_loop [5, 6] (fun b i => ∃ k : Nat, k ≤ 64 ∧ i = .int .i64 k ∧ b = .int .u64 ((mkN (fun i => decide (low ≤ i) && decide ((i : Int) ≤ hi)) k : Nat) : Int)) (fun _ i => 64 - (intOf i).toNat)
  case atStart => exact ⟨0, by omega, rfl, rfl⟩
  case round =>
    obtain ⟨k, hk, rfl, rfl⟩ := hrel
    have Hn : Hid (mkN (fun i => decide (low ≤ i) && decide ((i : Int) ≤ hi)) (k + 1) = mkN (fun i => decide (low ≤ i) && decide ((i : Int) ≤ hi)) k + (if (decide (low ≤ (k : Int)) && decide ((k : Int) ≤ hi)) = true then 2 ^ k else 0)) := rfl
    have hs1 : k < 64 → mkN (fun i => decide (low ≤ i) && decide ((i : Int) ≤ hi)) (k + 1) < 18446744073709551616 := fun h =>
      Nat.lt_of_lt_of_le (mkN_lt _ (k + 1)) (Nat.pow_le_pow_right (n := 2) (by decide) (show k + 1 ≤ 64 by omega))
    generalize hm1 : mkN (fun i => decide (low ≤ i) && decide ((i : Int) ≤ hi)) (k + 1) = s1 at *
    by_cases h64 : k < 64
    · have hs2 := hs1 h64
      generalize mkN (fun i => decide (low ≤ i) && decide ((i : Int) ≤ hi)) k = s at *
      have Hm1 := Lib.hid hm1; clear hm1 hs1
      have f2 := Lib.hid (fun w => one_any k w h64)
      by_cases h1 : low ≤ (k : Int)
      · by_cases h2 : (k : Int) ≤ hi
        · have he : s + 2 ^ k = s1 := by rw [Hn.out]; simp [h1, h2]
          generalize 2 ^ k = p at *
          have hb2 : s + p < 18446744073709551616 := by omega
          have He := Lib.hid he; clear he
          go_wp2_with (refine (f2.out _).mono ?_; rintro e w' ⟨rfl, rfl⟩)
          go_round
          case rel => exact ⟨k + 1, by omega, by go_num, by rw [Hm1.out, He.out.symm]; go_num⟩
          case measure => simp [intOf]; omega
        · have He : Hid (s1 = s) := by have := Hn.out; simp [h2] at this; exact this
          go_wp2
          go_round
          case rel => exact ⟨k + 1, by omega, by go_num, by rw [Hm1.out, He.out]⟩
          case measure => simp [intOf]; omega
      · have He : Hid (s1 = s) := by have := Hn.out; simp [h1] at this; exact this
        go_wp2
        go_round
        case rel => exact ⟨k + 1, by omega, by go_num, by rw [Hm1.out, He.out]⟩
        case measure => simp [intOf]; omega
    · obtain rfl : k = 64 := by omega
      generalize hm0 : mkN (fun i => decide (low ≤ i) && decide ((i : Int) ≤ hi)) 64 = s at *
      have Hm0 := Lib.hid hm0; clear hm0 hm1 hs1
      go_wp2
      go_ret
      exact ⟨by rw [Hm0.out]; rfl, rfl⟩
end Go.Proofs.YtbhjkfeonhddlaaDoor

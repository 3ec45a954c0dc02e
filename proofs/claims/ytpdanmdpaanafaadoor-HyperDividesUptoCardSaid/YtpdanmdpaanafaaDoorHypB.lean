/- Packages hyper and vergeref35: the walks of time, Gcd and Lcm. Conditions: lists that read; the de Bruijn table as its initialiser lays it. -/
import Derived.Test.YtpdanmdpaanafaaDoorHypA
import Derived.Test.YtpdanmdpaanafaaDoorIntcFV
namespace Go.Proofs.YtpdanmdpaanafaaDoor
open Go.RowKit

def tmOk (t : Int) : Bool := decide (0 ≤ t ∧ t ≤ 4503599627370496)
theorem tmOk_true {t : Int} : tmOk t = true ↔ 0 ≤ t ∧ t ≤ 4503599627370496 := by unfold tmOk; exact decide_eq_true_iff
theorem tmOk_false {t : Int} : tmOk t = false ↔ ¬ (0 ≤ t ∧ t ≤ 4503599627370496) := by unfold tmOk; exact decide_eq_false_iff_not
theorem time_any (t : Int) (w : World) : Calls Tryd.prog 19 #[.int .i64 t] w fun e w' => e = .returned (.bool (tmOk t)) ∧ w = w' := by
  by_cases h1 : 0 ≤ t
  · by_cases h2 : t ≤ 4503599627370496
    · go_enter Tryd.func19, Tryd.ntmps19
      go_wp2
      go_ret
      exact ⟨ret_bool (tmOk_true.2 ⟨h1, h2⟩).symm, rfl⟩
    · go_enter Tryd.func19, Tryd.ntmps19
      go_wp2
      go_ret
      exact ⟨ret_bool (tmOk_false.2 (fun x => by have := x.2; omega)).symm, rfl⟩
  · go_enter Tryd.func19, Tryd.ntmps19
    go_wp2
    go_ret
    exact ⟨ret_bool (tmOk_false.2 (fun x => by have := x.1; omega)).symm, rfl⟩
theorem time01_any (t : Int) (w : World) : Calls Tryd.prog 21 #[.int .i64 t] w fun e w' => e = .returned (.bool (tmOk t)) ∧ w = w' := by
  by_cases h1 : 0 ≤ t
  · by_cases h2 : t ≤ 4503599627370496
    · go_enter Tryd.func21, Tryd.ntmps21
      go_wp2
      go_ret
      exact ⟨ret_bool (tmOk_true.2 ⟨h1, h2⟩).symm, rfl⟩
    · go_enter Tryd.func21, Tryd.ntmps21
      go_wp2
      go_ret
      exact ⟨ret_bool (tmOk_false.2 (fun x => by have := x.2; omega)).symm, rfl⟩
  · go_enter Tryd.func21, Tryd.ntmps21
    go_wp2
    go_ret
    exact ⟨ret_bool (tmOk_false.2 (fun x => by have := x.1; omega)).symm, rfl⟩

theorem i64_or_nat (a b : Nat) (ha : a < 9223372036854775808) (hb : b < 9223372036854775808) : bits .or .i64 (a : Int) (b : Int) = ((a ||| b : Nat) : Int) := by
  have hx : a ||| b < 2 ^ 63 := Nat.or_lt_two_pow (by omega) (by omega)
  have h1 : (BitVec.ofInt 64 (a : Int)).toNat = a := by
    rw [BitVec.ofInt_natCast, BitVec.toNat_ofNat]; exact Nat.mod_eq_of_lt (by omega)
  have h2 : (BitVec.ofInt 64 (b : Int)).toNat = b := by
    rw [BitVec.ofInt_natCast, BitVec.toNat_ofNat]; exact Nat.mod_eq_of_lt (by omega)
  show IntKind.i64.wrap ((BitVec.ofInt 64 (a : Int) ||| BitVec.ofInt 64 (b : Int)).toNat : Int) = _
  rw [BitVec.toNat_or, h1, h2, IntKind.wrap_i64]
  omega
/-- The greatest divisor, or none. -/
def gcdOf (a b : Int) : Int × Int := if tmOk a = true ∧ tmOk b = true ∧ ¬ (a = 0 ∧ b = 0) then (((Nat.gcd a.toNat b.toNat : Nat) : Int), 0) else (0, 1)
def RetT (x : Int × Int) (w : World) (e : Ending) (w' : World) : Prop := e = .returned (.tuple #[.int .i64 x.1, .int .i64 x.2]) ∧ w = w'
theorem RetT.of {x : Int × Int} {a b : Int} {w : World} (h : x = (a, b)) : RetT x w (.returned (.tuple #[.int .i64 a, .int .i64 b])) w := ⟨by rw [h], rfl⟩
theorem gcd_any (a b : Int) (w : World) (hT : Tab w) : Calls Tryd.prog 8 #[.int .i64 a, .int .i64 b] w (RetT (gcdOf a b) w) := by
  have q1 := Lib.hid (fun w => time_any a w)
  have q2 := Lib.hid (fun w => time_any b w)
  have HT := Lib.hid hT
  clear hT
  have i1 := Lib.hid (tmOk_true (t := a))
  have i2 := Lib.hid (tmOk_true (t := b))
  have HG : Hid (gcdOf a b = if tmOk a = true ∧ tmOk b = true ∧ ¬ (a = 0 ∧ b = 0) then (((Nat.gcd a.toNat b.toNat : Nat) : Int), 0) else (0, 1)) := Lib.hid rfl
  generalize gcdOf a b = G at *
  generalize tmOk a = ba at *
  generalize tmOk b = bb at *
  cases ba with
  | false =>
    have hG := Lib.hid (show G = (0, 1) by rw [HG.out, if_neg (by simp)])
    clear HG
    go_enter Tryd.func8, Tryd.ntmps8
    go_wp2_with (go_at_call 19; (first | ((with_reducible refine (q1.out _).mono ?_)) | ((with_reducible refine (q2.out _).mono ?_))); rintro e w' ⟨rfl, rfl⟩)
    go_ret2
    exact RetT.of hG.out
  | true =>
    cases bb with
    | false =>
      have hG := Lib.hid (show G = (0, 1) by rw [HG.out, if_neg (by simp)])
      clear HG
      go_enter Tryd.func8, Tryd.ntmps8
      go_wp2_with (go_at_call 19; (first | ((with_reducible refine (q1.out _).mono ?_)) | ((with_reducible refine (q2.out _).mono ?_))); rintro e w' ⟨rfl, rfl⟩)
      go_ret2
      exact RetT.of hG.out
    | true =>
      by_cases h0 : a = 0 ∧ b = 0
      · have hG := Lib.hid (show G = (0, 1) by rw [HG.out, if_neg (by simp; exact h0)])
        obtain ⟨rfl, rfl⟩ := h0
        have ho : (bits .or .i64 0 0 == 0) = true := by decide
        clear HG i1 i2
        go_enter Tryd.func8, Tryd.ntmps8
        go_wp2_with (go_at_call 19; (first | ((with_reducible refine (q1.out _).mono ?_)) | ((with_reducible refine (q2.out _).mono ?_))); rintro e w' ⟨rfl, rfl⟩)
        all_goals
          go_ret2
          exact RetT.of hG.out
      · obtain ⟨a1, a2⟩ := i1.out.1 rfl
        obtain ⟨b1, b2⟩ := i2.out.1 rfl
        obtain ⟨a, rfl⟩ := Int.eq_ofNat_of_zero_le a1
        obtain ⟨b, rfl⟩ := Int.eq_ofNat_of_zero_le b1
        have hG := Lib.hid (show G = (((Nat.gcd a b : Nat) : Int), 0) by rw [HG.out, if_pos ⟨rfl, rfl, h0⟩]; rfl)
        have ho : (bits .or .i64 (a : Int) (b : Int) == 0) = false := by
          rw [i64_or_nat a b (by omega) (by omega), beq_eq_false_iff_ne]
          intro h
          have l1 : a ≤ a ||| b := Nat.left_le_or
          have l2 : b ≤ a ||| b := Nat.right_le_or
          exact h0 ⟨by omega, by omega⟩
        have f1 := Lib.hid (fun w hT => divisor_any a b (by omega) (by omega) w hT)
        have hlt : Nat.gcd a b < 9223372036854775808 := gcd_lt (by omega) (by omega) (by omega)
        generalize Nat.gcd a b = g at *
        clear HG i1 i2 h0 a1 b1
        go_enter Tryd.func8, Tryd.ntmps8
        go_wp2_with (first | (go_at_call 19; (first | ((with_reducible refine (q1.out _).mono ?_)) | ((with_reducible refine (q2.out _).mono ?_))); rintro e w' ⟨rfl, rfl⟩) | (go_at_call 20; refine (f1.out _ HT.out).mono ?_; rintro e w' ⟨rfl, rfl⟩))
        go_ret2
        exact RetT.of hG.out
/-- vergeref35.Gcd -/
theorem gcd35_any (a b : Int) (w : World) : Calls Tryd.prog 9 #[.int .i64 a, .int .i64 b] w (RetT (gcdOf a b) w) := by
  have q1 := Lib.hid (fun w => time01_any a w)
  have q2 := Lib.hid (fun w => time01_any b w)
  have i1 := Lib.hid (tmOk_true (t := a))
  have i2 := Lib.hid (tmOk_true (t := b))
  have HG : Hid (gcdOf a b = if tmOk a = true ∧ tmOk b = true ∧ ¬ (a = 0 ∧ b = 0) then (((Nat.gcd a.toNat b.toNat : Nat) : Int), 0) else (0, 1)) := Lib.hid rfl
  generalize gcdOf a b = G at *
  generalize tmOk a = ba at *
  generalize tmOk b = bb at *
  cases ba with
  | false =>
    have hG := Lib.hid (show G = (0, 1) by rw [HG.out, if_neg (by simp)])
    clear HG
    go_enter Tryd.func9, Tryd.ntmps9
    go_wp2_with (go_at_call 21; (first | ((with_reducible refine (q1.out _).mono ?_)) | ((with_reducible refine (q2.out _).mono ?_))); rintro e w' ⟨rfl, rfl⟩)
    go_ret2
    exact RetT.of hG.out
  | true =>
    cases bb with
    | false =>
      have hG := Lib.hid (show G = (0, 1) by rw [HG.out, if_neg (by simp)])
      clear HG
      go_enter Tryd.func9, Tryd.ntmps9
      go_wp2_with (go_at_call 21; (first | ((with_reducible refine (q1.out _).mono ?_)) | ((with_reducible refine (q2.out _).mono ?_))); rintro e w' ⟨rfl, rfl⟩)
      go_ret2
      exact RetT.of hG.out
    | true =>
      by_cases h0 : a = 0 ∧ b = 0
      · have hG := Lib.hid (show G = (0, 1) by rw [HG.out, if_neg (by simp; exact h0)])
        obtain ⟨rfl, rfl⟩ := h0
        clear HG i1 i2
        go_enter Tryd.func9, Tryd.ntmps9
        go_wp2_with (go_at_call 21; (first | ((with_reducible refine (q1.out _).mono ?_)) | ((with_reducible refine (q2.out _).mono ?_))); rintro e w' ⟨rfl, rfl⟩)
        all_goals
          go_ret2
          exact RetT.of hG.out
      · obtain ⟨a1, a2⟩ := i1.out.1 rfl
        obtain ⟨b1, b2⟩ := i2.out.1 rfl
        obtain ⟨a, rfl⟩ := Int.eq_ofNat_of_zero_le a1
        obtain ⟨b, rfl⟩ := Int.eq_ofNat_of_zero_le b1
        have hG := Lib.hid (show G = (((Nat.gcd a b : Nat) : Int), 0) by rw [HG.out, if_pos ⟨rfl, rfl, h0⟩]; rfl)
        have f1 := Lib.hid (fun w => divisor35_any b a (by omega) (by omega) w)
        have h0' : ((a : Int) == 0) = false ∨ (((a : Int) == 0) = true ∧ ((b : Int) == 0) = false) := by
          by_cases ha : a = 0
          · exact .inr ⟨by rw [beq_iff_eq]; omega, by rw [beq_eq_false_iff_ne]; omega⟩
          · exact .inl (by rw [beq_eq_false_iff_ne]; omega)
        generalize Nat.gcd a b = g at *
        clear HG i1 i2 h0 a1 b1
        rcases h0' with hz | ⟨hz, hz2⟩
        all_goals
          go_enter Tryd.func9, Tryd.ntmps9
          go_wp2_with (first | (go_at_call 21; (first | ((with_reducible refine (q1.out _).mono ?_)) | ((with_reducible refine (q2.out _).mono ?_))); rintro e w' ⟨rfl, rfl⟩) | (go_at_call 22; refine (f1.out _).mono ?_; rintro e w' ⟨rfl, rfl⟩))
          go_ret2
          exact RetT.of hG.out
end Go.Proofs.YtpdanmdpaanafaaDoor

/- Package hyper: the walk of divisor; vergeref35's by recursion. Conditions: numbers below 2^63; the de Bruijn table as its initialiser lays it. -/
import Derived.Test.YtpdanmdpaanafaaDoorTzV
import Derived.Test.YtpdanmdpaanafaaDoorHypP
namespace Go.Proofs.YtpdanmdpaanafaaDoor
open Go.RowKit

theorem ctz_lt {x : Nat} (h0 : 0 < x) (hx : x < 18446744073709551616) : Lib.ctz 64 x < 64 := by
  obtain ⟨m, _, h⟩ := ctz_split x h0 hx
  exact h
theorem shr_odd (x : Nat) : ((x : Int) / 2 ^ Lib.ctz 64 x) = ((oddOf x : Nat) : Int) := by unfold oddOf; simp
set_option maxHeartbeats 2000000 in
theorem divisor_any (a b : Nat) (ha : a < 9223372036854775808) (hb : b < 9223372036854775808) (w : World) (hT : Tab w) :
    Calls Tryd.prog 20 #[.int .u64 a, .int .u64 b] w fun e w' => e = .returned (.int .u64 (Nat.gcd a b : Nat)) ∧ w = w' := by
  by_cases ha0 : a = 0
  · subst ha0
    have hg := Lib.hid (Nat.gcd_zero_left b)
    have ho := Lib.hid (u64_or_nat 0 b (by omega) (by omega))
    rw [Nat.zero_or] at ho
    go_enter Tryd.func20, Tryd.ntmps20
    go_wp2
    go_ret
    exact ⟨ret_int (by rw [hg.out]; exact ho.out), rfl⟩
  · by_cases hb0 : b = 0
    · subst hb0
      have hg := Lib.hid (Nat.gcd_zero_right a)
      have ho := Lib.hid (u64_or_nat a 0 (by omega) (by omega))
      rw [Nat.or_zero] at ho
      have ha1 : ((a : Int) == 0) = false := by rw [beq_eq_false_iff_ne]; omega
      clear ha0
      go_enter Tryd.func20, Tryd.ntmps20
      go_wp2
      go_ret
      exact ⟨ret_int (by rw [hg.out]; exact ho.out), rfl⟩
    · have ha1 : ((a : Int) == 0) = false := by rw [beq_eq_false_iff_ne]; omega
      have hb1 : ((b : Int) == 0) = false := by rw [beq_eq_false_iff_ne]; omega
      have ho := Lib.hid (u64_or_nat a b (by omega) (by omega))
      have hor : 0 < a ||| b := Nat.lt_of_lt_of_le (by omega) Nat.left_le_or
      have f1 := Lib.hid (fun w hT => tz_any (a ||| b) w hor (Nat.or_lt_two_pow (n := 64) (by omega) (by omega)) hT)
      have f2 := Lib.hid (fun w hT => tz_any a w (by omega) (by omega) hT)
      have hs := Lib.hid (shr_odd a)
      have l0 := ctz_lt hor (Nat.or_lt_two_pow (n := 64) (x := a) (y := b) (by omega) (by omega))
      have l1 := ctz_lt (x := a) (by omega) (by omega)
      have HG := Lib.hid (gcd_open (a := a) (b := b) (by omega) (by omega) (by omega) (by omega))
      have HO := Lib.hid (oddOf_spec (x := a) (by omega) (by omega))
      have HT := Lib.hid hT
      have HB := Lib.hid hb
      generalize Lib.ctz 64 (a ||| b) = c0 at *
      generalize a ||| b = ab at *
      generalize Lib.ctz 64 a = c1 at *
      generalize oddOf a = a' at *
      clear ha0 hb0 hor hT
      go_enter Tryd.func20, Tryd.ntmps20
      go_wp2_with fail
      rw [ho.out]
      refine (f1.out _ HT.out).mono ?_
      rintro e w' ⟨rfl, rfl⟩
      go_wp2_with fail
      refine (f2.out _ HT.out).mono ?_
      rintro e w' ⟨rfl, rfl⟩
      go_wp2_with fail
      go_loop [0, 1] (fun x y => ∃ p q : Nat, x = .int .u64 p ∧ y = .int .u64 q ∧ p % 2 = 1 ∧ p < 9223372036854775808 ∧ q < 9223372036854775808 ∧ Hid (Nat.gcd p q = Nat.gcd a' b)) (fun x y => (intOf x).toNat + (intOf y).toNat)
      case atStart => exact ⟨a', b, by rw [hs.out], rfl, HO.out.2.1, by have := HO.out.2.2.1; omega, HB.out, rfl⟩
      case round =>
        obtain ⟨p, q, rfl, rfl, hp1, hp, hq, hg⟩ := hrel
        by_cases hq0 : q = 0
        · subst hq0
          have hr : Hid (IntKind.u64.wrap ((p : Int) * 2 ^ c0) = ((Nat.gcd a b : Nat) : Int)) := Lib.hid (by
            rw [HG.out, ← hg.out, Nat.gcd_zero_right]
            have hlt : p * 2 ^ c0 < 18446744073709551616 := by
              have h1 := HG.out
              rw [← hg.out, Nat.gcd_zero_right] at h1
              rw [← h1]
              exact gcd_lt (.inl (Nat.pos_of_ne_zero (fun h => by rw [h] at ha1; simp at ha1))) (by omega) (by omega)
            rw [IntKind.wrap_u64]
            have e : (p : Int) * 2 ^ c0 = ((p * 2 ^ c0 : Nat) : Int) := by simp
            rw [e]
            omega)
          go_wp2
          go_ret
          exact ⟨ret_int hr.out, rfl⟩
        · have hq1 : ((q : Int) != 0) = true := by simp; omega
          have f3 := Lib.hid (fun w hT => tz_any q w (by omega) (by omega) hT)
          have hs2 := Lib.hid (shr_odd q)
          have l2 := ctz_lt (x := q) (by omega) (by omega)
          have l3 := (oddOf_spec (x := q) (by omega) (by omega)).2.2.1
          have l4 := (oddOf_spec (x := q) (by omega) (by omega)).2.2.2
          have HS := Lib.hid (gcd_step (a := p) (b := q) hp1 (by omega) (by omega))
          have HO2 := Lib.hid (oddOf_spec (x := q) (by omega) (by omega)).2.1
          generalize Lib.ctz 64 q = c2 at *
          generalize oddOf q = q' at *
          go_wp2_with fail
          refine (f3.out _ HT.out).mono ?_
          rintro e w' ⟨rfl, rfl⟩
          have e1 := Lib.hid (show (if (q' : Int) < (p : Int) then (q' : Int) else (p : Int)) = ((min p q' : Nat) : Int) by split <;> omega)
          have e2 := Lib.hid (show (if (p : Int) < (q' : Int) then (q' : Int) else (p : Int)) = ((max p q' : Nat) : Int) by split <;> omega)
          have e3 := Lib.hid (show IntKind.u64.wrap (((max p q' : Nat) : Int) - ((min p q' : Nat) : Int)) = ((max p q' - min p q' : Nat) : Int) by rw [IntKind.wrap_u64]; omega)
          have ho2 := HO2.out
          go_wp2
          rw [hs2.out, e1.out, e2.out, e3.out]
          refine ⟨⟨min p q', max p q' - min p q', rfl, rfl, by omega, by omega, by omega, by rw [← hg.out]; exact HS.out⟩, ?_⟩
          simp only [intOf, Int.toNat_natCast]
          omega
/-- vergeref35.divisor -/
theorem divisor35_any : ∀ (b a : Nat) (ha : a < 9223372036854775808) (hb : b < 9223372036854775808) (w : World),
    Calls Tryd.prog 22 #[.int .i64 a, .int .i64 b] w fun e w' => e = .returned (.int .i64 (Nat.gcd a b : Nat)) ∧ w = w' := by
  intro b
  induction b using Nat.strongRecOn with
  | _ b ih =>
    intro a ha hb w
    by_cases h0 : b = 0
    · subst h0
      have hg := Lib.hid (Nat.gcd_zero_right a)
      clear ih
      go_enter Tryd.func22, Tryd.ntmps22
      go_wp2
      go_ret
      exact ⟨ret_int (by rw [hg.out]), rfl⟩
    · have hb0 : ((b : Int) == 0) = false := by rw [beq_eq_false_iff_ne]; omega
      have hl : a % b < b := Nat.mod_lt _ (by omega)
      have f1 := Lib.hid (fun w => ih (a % b) hl b hb (by omega) w)
      have hg := Lib.hid (show Nat.gcd a b = Nat.gcd b (a % b) by rw [Nat.gcd_comm a b, Nat.gcd_rec b a, Nat.gcd_comm])
      have hm := Lib.hid (show (a : Int) % (b : Int) = ((a % b : Nat) : Int) from (Int.natCast_emod a b).symm)
      generalize a % b = r at *
      clear ih h0
      go_enter Tryd.func22, Tryd.ntmps22
      go_wp2_with fail
      rw [hm.out]
      refine (f1.out _).mono ?_
      rintro e w' ⟨rfl, rfl⟩
      go_wp2
      go_ret
      exact ⟨ret_int (by rw [hg.out]), rfl⟩
end Go.Proofs.YtpdanmdpaanafaaDoor

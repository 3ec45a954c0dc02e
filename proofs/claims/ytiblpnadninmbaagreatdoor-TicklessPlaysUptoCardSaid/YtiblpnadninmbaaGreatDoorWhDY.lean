/- Package wheel: the walks of home and note. Conditions: a wheel's memory. -/
import Derived.Test.YtiblpnadninmbaaGreatDoorWhCY
namespace Go.Proofs.YtiblpnadninmbaaGreatDoor
open Go.RowKit Go.Shelf
attribute [local go_sem] Oper.semAt_some

/-- Levels at which two times are unlike. -/
def nEq (now a : Int) (k : Nat) : Prop := now < a ∧ (0 < k → a / 64 ≠ now / 64) ∧ (1 < k → a / 4096 ≠ now / 4096) ∧ (2 < k → a / 262144 ≠ now / 262144) ∧ (3 < k → a / 16777216 ≠ now / 16777216)
theorem sl_cast (t : Int) (L : Nat) (q : Int) (h : q = (slF t L : Nat)) (k : Nat) : (k : Int) + q = ((k + slF t L : Nat) : Int) := by omega
set_option maxHeartbeats 4000000 in
set_option maxRecDepth 100000 in
theorem home_any (f : WhF) (room : Nat) (s : WhS) (w : World) (a : Int) (h : WhM w f room s) (h2 : 0 ≤ a) (h3 : a ≤ 4503599627370496) :
    Calls Tryz.prog 68 #[.pointer (some ⟨f.pw, 0, none⟩), .int .i64 a] w fun e w' => e = .returned (.int .i64 (homeF s.now a : Nat)) ∧ ∃ j, w.drewN j = w' := by
  obtain ⟨xx, xy⟩ := box_rules (h).box
  have xz := (box_rules (h).tm).2
  have lx := box_lt (h).box
  clear h
  by_cases hd : a ≤ s.now
  · have HH := Lib.hid (home_due hd)
    go_enter Tryz.func68, Tryz.ntmps68
    go_wp2
    go_ret
    exact ⟨ret_int (by rw [HH.out]; rfl), 0, rfl⟩
  have HN0 : Hid (nEq s.now a 0) := Lib.hid ⟨by omega, fun h => absurd h (by omega), fun h => absurd h (by omega), fun h => absurd h (by omega), fun h => absurd h (by omega)⟩
  have hd2 : decide (a ≤ s.now) = false := by simpa using hd
  go_enter Tryz.func68, Tryz.ntmps68
  go_upto_region 4 with fail
  go_loopw [12] (fun i wr => ∃ k j : Nat, k ≤ 4 ∧ i = .int .i64 k ∧ w.drewN j = wr ∧ Hid (nEq s.now a k)) (fun i _ => 4 - (intOf i).toNat)
  case atStart => exact ⟨0, 0, by omega, rfl, rfl, HN0⟩
  case round =>
    obtain ⟨k, j, hk, rfl, rfl, HN⟩ := hrel
    obtain rfl | rfl | rfl | rfl | rfl : k = 0 ∨ k = 1 ∨ k = 2 ∨ k = 3 ∨ k = 4 := by omega
    · by_cases hq : a / 64 = s.now / 64
      · have t0 : (a / 64 == s.now / 64) = true := by simpa using hq
        have HH := Lib.hid (show homeF s.now a = 0 * 64 + slF a 0 by
          obtain ⟨g0, g1, g2, g3, g4⟩ := HN.out
          unfold homeF
          rw [if_neg (by omega)]
          rw [if_pos (by omega)]; exact (Nat.zero_add _).symm)
        have f1 := Lib.hid (show ∀ X, Calls Tryz.prog 78 #[.int .i64 a, .int .i64 0] X fun e w' => e = .returned (.int .i64 (slF a 0 : Nat)) ∧ X = w' from fun X => slot_any a 0 (by omega) h2 h3 X)
        have hq9 := slF_lt a 0
        generalize slF a 0 = q at *
        clear hq
        go_upto_region 6 with fail
        go_big_quiet (fail)
        go_wp2_with (go_at_call 78; with_reducible refine (f1.out _).mono ?_; rintro e w1 ⟨rfl, rfl⟩)
        go_ret
        refine ⟨ret_int ?_, _, rfl⟩
        rw [HH.out]
        first | (go_num; done) | (simp; done) | (simp; omega) | omega
      · have t0 : (a / 64 == s.now / 64) = false := by simpa using hq
        have HN2 : Hid (nEq s.now a (0 + 1)) := Lib.hid (by
          obtain ⟨g0, g1, g2, g3, g4⟩ := HN.out
          exact ⟨g0, fun _ => (by omega), fun _ => (by omega), fun _ => (by omega), fun _ => (by omega)⟩)
        clear hq
        go_upto_region 6 with fail
        go_big_quiet (fail)
        go_wp2
        refine ⟨⟨0 + 1, _, by omega, by go_num, rfl, HN2⟩, ?_⟩
        simp [intOf]
    · by_cases hq : a / 4096 = s.now / 4096
      · have t0 : (a / 4096 == s.now / 4096) = true := by simpa using hq
        have HH := Lib.hid (show homeF s.now a = 1 * 64 + slF a 1 by
          obtain ⟨g0, g1, g2, g3, g4⟩ := HN.out
          unfold homeF
          rw [if_neg (by omega)]
          rw [if_neg (g1 (by omega)), if_pos (by omega)]; rfl)
        have f1 := Lib.hid (show ∀ X, Calls Tryz.prog 78 #[.int .i64 a, .int .i64 1] X fun e w' => e = .returned (.int .i64 (slF a 1 : Nat)) ∧ X = w' from fun X => slot_any a 1 (by omega) h2 h3 X)
        have hq9 := slF_lt a 1
        generalize slF a 1 = q at *
        clear hq
        go_upto_region 6 with fail
        go_big_quiet (fail)
        go_wp2_with (go_at_call 78; with_reducible refine (f1.out _).mono ?_; rintro e w1 ⟨rfl, rfl⟩)
        go_ret
        refine ⟨ret_int ?_, _, rfl⟩
        rw [HH.out]
        first | (go_num; done) | (simp; done) | (simp; omega) | omega
      · have t0 : (a / 4096 == s.now / 4096) = false := by simpa using hq
        have HN2 : Hid (nEq s.now a (1 + 1)) := Lib.hid (by
          obtain ⟨g0, g1, g2, g3, g4⟩ := HN.out
          exact ⟨g0, fun _ => (by omega), fun _ => (by omega), fun _ => (by omega), fun _ => (by omega)⟩)
        clear hq
        go_upto_region 6 with fail
        go_big_quiet (fail)
        go_wp2
        refine ⟨⟨1 + 1, _, by omega, by go_num, rfl, HN2⟩, ?_⟩
        simp [intOf]
    · by_cases hq : a / 262144 = s.now / 262144
      · have t0 : (a / 262144 == s.now / 262144) = true := by simpa using hq
        have HH := Lib.hid (show homeF s.now a = 2 * 64 + slF a 2 by
          obtain ⟨g0, g1, g2, g3, g4⟩ := HN.out
          unfold homeF
          rw [if_neg (by omega)]
          rw [if_neg (g1 (by omega)), if_neg (g2 (by omega)), if_pos (by omega)]; rfl)
        have f1 := Lib.hid (show ∀ X, Calls Tryz.prog 78 #[.int .i64 a, .int .i64 2] X fun e w' => e = .returned (.int .i64 (slF a 2 : Nat)) ∧ X = w' from fun X => slot_any a 2 (by omega) h2 h3 X)
        have hq9 := slF_lt a 2
        generalize slF a 2 = q at *
        clear hq
        go_upto_region 6 with fail
        go_big_quiet (fail)
        go_wp2_with (go_at_call 78; with_reducible refine (f1.out _).mono ?_; rintro e w1 ⟨rfl, rfl⟩)
        go_ret
        refine ⟨ret_int ?_, _, rfl⟩
        rw [HH.out]
        first | (go_num; done) | (simp; done) | (simp; omega) | omega
      · have t0 : (a / 262144 == s.now / 262144) = false := by simpa using hq
        have HN2 : Hid (nEq s.now a (2 + 1)) := Lib.hid (by
          obtain ⟨g0, g1, g2, g3, g4⟩ := HN.out
          exact ⟨g0, fun _ => (by omega), fun _ => (by omega), fun _ => (by omega), fun _ => (by omega)⟩)
        clear hq
        go_upto_region 6 with fail
        go_big_quiet (fail)
        go_wp2
        refine ⟨⟨2 + 1, _, by omega, by go_num, rfl, HN2⟩, ?_⟩
        simp [intOf]
    · by_cases hq : a / 16777216 = s.now / 16777216
      · have t0 : (a / 16777216 == s.now / 16777216) = true := by simpa using hq
        have HH := Lib.hid (show homeF s.now a = 3 * 64 + slF a 3 by
          obtain ⟨g0, g1, g2, g3, g4⟩ := HN.out
          unfold homeF
          rw [if_neg (by omega)]
          rw [if_neg (g1 (by omega)), if_neg (g2 (by omega)), if_neg (g3 (by omega)), if_pos (by omega)]; rfl)
        have f1 := Lib.hid (show ∀ X, Calls Tryz.prog 78 #[.int .i64 a, .int .i64 3] X fun e w' => e = .returned (.int .i64 (slF a 3 : Nat)) ∧ X = w' from fun X => slot_any a 3 (by omega) h2 h3 X)
        have hq9 := slF_lt a 3
        generalize slF a 3 = q at *
        clear hq
        go_upto_region 6 with fail
        go_big_quiet (fail)
        go_wp2_with (go_at_call 78; with_reducible refine (f1.out _).mono ?_; rintro e w1 ⟨rfl, rfl⟩)
        go_ret
        refine ⟨ret_int ?_, _, rfl⟩
        rw [HH.out]
        first | (go_num; done) | (simp; done) | (simp; omega) | omega
      · have t0 : (a / 16777216 == s.now / 16777216) = false := by simpa using hq
        have HN2 : Hid (nEq s.now a (3 + 1)) := Lib.hid (by
          obtain ⟨g0, g1, g2, g3, g4⟩ := HN.out
          exact ⟨g0, fun _ => (by omega), fun _ => (by omega), fun _ => (by omega), fun _ => (by omega)⟩)
        clear hq
        go_upto_region 6 with fail
        go_big_quiet (fail)
        go_wp2
        refine ⟨⟨3 + 1, _, by omega, by go_num, rfl, HN2⟩, ?_⟩
        simp [intOf]
    · have HH : Hid (homeF s.now a = 256) := Lib.hid (by
        obtain ⟨g0, g1, g2, g3, g4⟩ := HN.out
        unfold homeF
        rw [if_neg (by omega), if_neg (g1 (by omega)), if_neg (g2 (by omega)), if_neg (g3 (by omega)), if_neg (g4 (by omega))])
      go_wp2
      go_ret
      exact ⟨ret_int (by rw [HH.out]; rfl), j, rfl⟩
/-- The bits behind a look at a list. -/
def noteF (s : WhS) (L n : Nat) : Nat := if s.ls (64 * L + n) = [] then s.fb L &&& (18446744073709551615 - 2 ^ n) else s.fb L ||| 2 ^ n
theorem empty_iff (l : List Nat) : (!l.isEmpty) = !decide (l = []) := by cases l <;> simp
set_option maxHeartbeats 8000000 in
set_option maxRecDepth 100000 in
theorem note_any (f : WhF) (room : Nat) (s : WhS) (w : World) (L n : Nat) (h : WhM w f room s) (hL : L < 4) (hn : n < 64) (hf : s.fb L < 18446744073709551616) :
    Calls Tryz.prog 70 #[.pointer (some ⟨f.pw, 0, none⟩), .int .i64 ((64 * L + n : Nat) : Int)] w fun e w' => e = .returned (.tuple #[]) ∧ WhM w' f room { s with fb := upF s.fb L (noteF s L n) } ∧ Tn f.l w w' := by
  obtain rfl | rfl | rfl | rfl : L = 0 ∨ L = 1 ∨ L = 2 ∨ L = 3 := by omega
  · have f1 : Hid (Calls Tryz.prog 80 #[.pointer (some ⟨f.pp, 0, none⟩), .int .i64 ((n : Int))] w fun e w' => e = .returned (.tuple #[.int .i64 (hdO (s.ls (64 * 0 + n)) 0), .bool (!(s.ls (64 * 0 + n)).isEmpty)]) ∧ w = w') := Lib.hid (by
      have h9 := first_any (64 * 0 + n) f.pp f.bl f.be room 258 s.pile s.ls w h.pool (by omega)
      rw [fst_eq, show (((64 * 0 + n : Nat)) : Int) = (n : Int) by omega] at h9
      exact h9)
    rw [empty_iff] at f1
    have HNt : Hid (noteF s 0 n = if s.ls (64 * 0 + n) = [] then s.fb 0 &&& (18446744073709551615 - 2 ^ n) else s.fb 0 ||| 2 ^ n) := Lib.hid rfl
    generalize hdO (s.ls (64 * 0 + n)) 0 = h1 at *
    have H := Lib.hid h
    have hp2 : 2 ^ n < 18446744073709551616 := pow_lt64 hn
    have e1 : n % 64 = n := Nat.mod_eq_of_lt hn
    have e4 : (0 + n) % 64 = n := by omega
    have e3 : IntKind.u64.wrap ((2 : Int) ^ n) = ((2 ^ n : Nat) : Int) := by rw [pow_cast]; exact wrapN hp2
    have o1 := u64_or_nat (s.fb 0) (2 ^ n) hf hp2
    have o2 := u64_andNot_nat (s.fb 0) (2 ^ n) hf hp2
    have q1 : ((n : Int)) / 64 = (0 : Int) := by omega
    have q2 : Int.tdiv ((n : Int)) 64 = (0 : Int) := by rw [Int.tdiv_eq_ediv_of_nonneg (by omega)]; omega
    have hge : ¬ (256 : Int) ≤ (n : Int) := by omega
    have q3 : IntKind.i64.wrap (0 : Int) = (0 : Int) := IntWalk.i64_in _ (by omega)
    obtain ⟨xx, xy⟩ := box_rules (h).box
    have xz := (box_rules (h).tm).2
    have lx := box_lt (h).box
    generalize noteF s 0 n = nt at *
    generalize 2 ^ n = pw2 at *
    clear h hp2
    by_cases hl : s.ls (64 * 0 + n) = []
    · rw [if_pos hl] at HNt
      rw [decide_eq_true hl] at f1
      clear hl
      go_enter Tryz.func70, Tryz.ntmps70
      go_upto_region 5 with (go_at_call 80; with_reducible refine f1.out.mono ?_; rintro e w1 ⟨rfl, rfl⟩)
      refine still_tailD 12 (by kernel_rfl) (by kernel_rfl) ?_
      simp only [List.take_succ_cons, List.take_zero, List.drop_succ_cons, List.drop_zero]
      repeat still_step
      refine wpStill_nil ?_
      go_wp2_with fail
      go_end0
      refine ⟨rfl, ?_, ((Tn.refl _ w).setCell (by simp [WhF.l]) _).drew⟩
      rw [HNt.out]
      exact (H.out.setFb (L := 0) (by omega) (s.fb 0 &&& (18446744073709551615 - pw2))).drew
    · rw [if_neg hl] at HNt
      rw [decide_eq_false hl] at f1
      clear hl
      go_enter Tryz.func70, Tryz.ntmps70
      go_upto_region 4 with (go_at_call 80; with_reducible refine f1.out.mono ?_; rintro e w1 ⟨rfl, rfl⟩)
      refine still_tailD 12 (by kernel_rfl) (by kernel_rfl) ?_
      simp only [List.take_succ_cons, List.take_zero, List.drop_succ_cons, List.drop_zero]
      repeat still_step
      refine wpStill_nil ?_
      go_wp2_with fail
      go_end0
      refine ⟨rfl, ?_, ((Tn.refl _ w).setCell (by simp [WhF.l]) _).drew⟩
      rw [HNt.out]
      exact (H.out.setFb (L := 0) (by omega) (s.fb 0 ||| pw2)).drew
  · have f1 : Hid (Calls Tryz.prog 80 #[.pointer (some ⟨f.pp, 0, none⟩), .int .i64 ((64 : Int) + (n : Int))] w fun e w' => e = .returned (.tuple #[.int .i64 (hdO (s.ls (64 * 1 + n)) 0), .bool (!(s.ls (64 * 1 + n)).isEmpty)]) ∧ w = w') := Lib.hid (by
      have h9 := first_any (64 * 1 + n) f.pp f.bl f.be room 258 s.pile s.ls w h.pool (by omega)
      rw [fst_eq, show (((64 * 1 + n : Nat)) : Int) = (64 : Int) + (n : Int) by omega] at h9
      exact h9)
    rw [empty_iff] at f1
    have HNt : Hid (noteF s 1 n = if s.ls (64 * 1 + n) = [] then s.fb 1 &&& (18446744073709551615 - 2 ^ n) else s.fb 1 ||| 2 ^ n) := Lib.hid rfl
    generalize hdO (s.ls (64 * 1 + n)) 0 = h1 at *
    have H := Lib.hid h
    have hp2 : 2 ^ n < 18446744073709551616 := pow_lt64 hn
    have e1 : n % 64 = n := Nat.mod_eq_of_lt hn
    have e4 : (64 + n) % 64 = n := by omega
    have e3 : IntKind.u64.wrap ((2 : Int) ^ n) = ((2 ^ n : Nat) : Int) := by rw [pow_cast]; exact wrapN hp2
    have o1 := u64_or_nat (s.fb 1) (2 ^ n) hf hp2
    have o2 := u64_andNot_nat (s.fb 1) (2 ^ n) hf hp2
    have q1 : ((64 : Int) + (n : Int)) / 64 = (1 : Int) := by omega
    have q2 : Int.tdiv ((64 : Int) + (n : Int)) 64 = (1 : Int) := by rw [Int.tdiv_eq_ediv_of_nonneg (by omega)]; omega
    have hge : ¬ (256 : Int) ≤ (64 : Int) + (n : Int) := by omega
    have q3 : IntKind.i64.wrap (1 : Int) = (1 : Int) := IntWalk.i64_in _ (by omega)
    obtain ⟨xx, xy⟩ := box_rules (h).box
    have xz := (box_rules (h).tm).2
    have lx := box_lt (h).box
    generalize noteF s 1 n = nt at *
    generalize 2 ^ n = pw2 at *
    clear h hp2
    by_cases hl : s.ls (64 * 1 + n) = []
    · rw [if_pos hl] at HNt
      rw [decide_eq_true hl] at f1
      clear hl
      go_enter Tryz.func70, Tryz.ntmps70
      go_upto_region 5 with (go_at_call 80; with_reducible refine f1.out.mono ?_; rintro e w1 ⟨rfl, rfl⟩)
      refine still_tailD 12 (by kernel_rfl) (by kernel_rfl) ?_
      simp only [List.take_succ_cons, List.take_zero, List.drop_succ_cons, List.drop_zero]
      repeat still_step
      refine wpStill_nil ?_
      go_wp2_with fail
      go_end0
      refine ⟨rfl, ?_, ((Tn.refl _ w).setCell (by simp [WhF.l]) _).drew⟩
      rw [HNt.out]
      exact (H.out.setFb (L := 1) (by omega) (s.fb 1 &&& (18446744073709551615 - pw2))).drew
    · rw [if_neg hl] at HNt
      rw [decide_eq_false hl] at f1
      clear hl
      go_enter Tryz.func70, Tryz.ntmps70
      go_upto_region 4 with (go_at_call 80; with_reducible refine f1.out.mono ?_; rintro e w1 ⟨rfl, rfl⟩)
      refine still_tailD 12 (by kernel_rfl) (by kernel_rfl) ?_
      simp only [List.take_succ_cons, List.take_zero, List.drop_succ_cons, List.drop_zero]
      repeat still_step
      refine wpStill_nil ?_
      go_wp2_with fail
      go_end0
      refine ⟨rfl, ?_, ((Tn.refl _ w).setCell (by simp [WhF.l]) _).drew⟩
      rw [HNt.out]
      exact (H.out.setFb (L := 1) (by omega) (s.fb 1 ||| pw2)).drew
  · have f1 : Hid (Calls Tryz.prog 80 #[.pointer (some ⟨f.pp, 0, none⟩), .int .i64 ((128 : Int) + (n : Int))] w fun e w' => e = .returned (.tuple #[.int .i64 (hdO (s.ls (64 * 2 + n)) 0), .bool (!(s.ls (64 * 2 + n)).isEmpty)]) ∧ w = w') := Lib.hid (by
      have h9 := first_any (64 * 2 + n) f.pp f.bl f.be room 258 s.pile s.ls w h.pool (by omega)
      rw [fst_eq, show (((64 * 2 + n : Nat)) : Int) = (128 : Int) + (n : Int) by omega] at h9
      exact h9)
    rw [empty_iff] at f1
    have HNt : Hid (noteF s 2 n = if s.ls (64 * 2 + n) = [] then s.fb 2 &&& (18446744073709551615 - 2 ^ n) else s.fb 2 ||| 2 ^ n) := Lib.hid rfl
    generalize hdO (s.ls (64 * 2 + n)) 0 = h1 at *
    have H := Lib.hid h
    have hp2 : 2 ^ n < 18446744073709551616 := pow_lt64 hn
    have e1 : n % 64 = n := Nat.mod_eq_of_lt hn
    have e4 : (128 + n) % 64 = n := by omega
    have e3 : IntKind.u64.wrap ((2 : Int) ^ n) = ((2 ^ n : Nat) : Int) := by rw [pow_cast]; exact wrapN hp2
    have o1 := u64_or_nat (s.fb 2) (2 ^ n) hf hp2
    have o2 := u64_andNot_nat (s.fb 2) (2 ^ n) hf hp2
    have q1 : ((128 : Int) + (n : Int)) / 64 = (2 : Int) := by omega
    have q2 : Int.tdiv ((128 : Int) + (n : Int)) 64 = (2 : Int) := by rw [Int.tdiv_eq_ediv_of_nonneg (by omega)]; omega
    have hge : ¬ (256 : Int) ≤ (128 : Int) + (n : Int) := by omega
    have q3 : IntKind.i64.wrap (2 : Int) = (2 : Int) := IntWalk.i64_in _ (by omega)
    obtain ⟨xx, xy⟩ := box_rules (h).box
    have xz := (box_rules (h).tm).2
    have lx := box_lt (h).box
    generalize noteF s 2 n = nt at *
    generalize 2 ^ n = pw2 at *
    clear h hp2
    by_cases hl : s.ls (64 * 2 + n) = []
    · rw [if_pos hl] at HNt
      rw [decide_eq_true hl] at f1
      clear hl
      go_enter Tryz.func70, Tryz.ntmps70
      go_upto_region 5 with (go_at_call 80; with_reducible refine f1.out.mono ?_; rintro e w1 ⟨rfl, rfl⟩)
      refine still_tailD 12 (by kernel_rfl) (by kernel_rfl) ?_
      simp only [List.take_succ_cons, List.take_zero, List.drop_succ_cons, List.drop_zero]
      repeat still_step
      refine wpStill_nil ?_
      go_wp2_with fail
      go_end0
      refine ⟨rfl, ?_, ((Tn.refl _ w).setCell (by simp [WhF.l]) _).drew⟩
      rw [HNt.out]
      exact (H.out.setFb (L := 2) (by omega) (s.fb 2 &&& (18446744073709551615 - pw2))).drew
    · rw [if_neg hl] at HNt
      rw [decide_eq_false hl] at f1
      clear hl
      go_enter Tryz.func70, Tryz.ntmps70
      go_upto_region 4 with (go_at_call 80; with_reducible refine f1.out.mono ?_; rintro e w1 ⟨rfl, rfl⟩)
      refine still_tailD 12 (by kernel_rfl) (by kernel_rfl) ?_
      simp only [List.take_succ_cons, List.take_zero, List.drop_succ_cons, List.drop_zero]
      repeat still_step
      refine wpStill_nil ?_
      go_wp2_with fail
      go_end0
      refine ⟨rfl, ?_, ((Tn.refl _ w).setCell (by simp [WhF.l]) _).drew⟩
      rw [HNt.out]
      exact (H.out.setFb (L := 2) (by omega) (s.fb 2 ||| pw2)).drew
  · have f1 : Hid (Calls Tryz.prog 80 #[.pointer (some ⟨f.pp, 0, none⟩), .int .i64 ((192 : Int) + (n : Int))] w fun e w' => e = .returned (.tuple #[.int .i64 (hdO (s.ls (64 * 3 + n)) 0), .bool (!(s.ls (64 * 3 + n)).isEmpty)]) ∧ w = w') := Lib.hid (by
      have h9 := first_any (64 * 3 + n) f.pp f.bl f.be room 258 s.pile s.ls w h.pool (by omega)
      rw [fst_eq, show (((64 * 3 + n : Nat)) : Int) = (192 : Int) + (n : Int) by omega] at h9
      exact h9)
    rw [empty_iff] at f1
    have HNt : Hid (noteF s 3 n = if s.ls (64 * 3 + n) = [] then s.fb 3 &&& (18446744073709551615 - 2 ^ n) else s.fb 3 ||| 2 ^ n) := Lib.hid rfl
    generalize hdO (s.ls (64 * 3 + n)) 0 = h1 at *
    have H := Lib.hid h
    have hp2 : 2 ^ n < 18446744073709551616 := pow_lt64 hn
    have e1 : n % 64 = n := Nat.mod_eq_of_lt hn
    have e4 : (192 + n) % 64 = n := by omega
    have e3 : IntKind.u64.wrap ((2 : Int) ^ n) = ((2 ^ n : Nat) : Int) := by rw [pow_cast]; exact wrapN hp2
    have o1 := u64_or_nat (s.fb 3) (2 ^ n) hf hp2
    have o2 := u64_andNot_nat (s.fb 3) (2 ^ n) hf hp2
    have q1 : ((192 : Int) + (n : Int)) / 64 = (3 : Int) := by omega
    have q2 : Int.tdiv ((192 : Int) + (n : Int)) 64 = (3 : Int) := by rw [Int.tdiv_eq_ediv_of_nonneg (by omega)]; omega
    have hge : ¬ (256 : Int) ≤ (192 : Int) + (n : Int) := by omega
    have q3 : IntKind.i64.wrap (3 : Int) = (3 : Int) := IntWalk.i64_in _ (by omega)
    obtain ⟨xx, xy⟩ := box_rules (h).box
    have xz := (box_rules (h).tm).2
    have lx := box_lt (h).box
    generalize noteF s 3 n = nt at *
    generalize 2 ^ n = pw2 at *
    clear h hp2
    by_cases hl : s.ls (64 * 3 + n) = []
    · rw [if_pos hl] at HNt
      rw [decide_eq_true hl] at f1
      clear hl
      go_enter Tryz.func70, Tryz.ntmps70
      go_upto_region 5 with (go_at_call 80; with_reducible refine f1.out.mono ?_; rintro e w1 ⟨rfl, rfl⟩)
      refine still_tailD 12 (by kernel_rfl) (by kernel_rfl) ?_
      simp only [List.take_succ_cons, List.take_zero, List.drop_succ_cons, List.drop_zero]
      repeat still_step
      refine wpStill_nil ?_
      go_wp2_with fail
      go_end0
      refine ⟨rfl, ?_, ((Tn.refl _ w).setCell (by simp [WhF.l]) _).drew⟩
      rw [HNt.out]
      exact (H.out.setFb (L := 3) (by omega) (s.fb 3 &&& (18446744073709551615 - pw2))).drew
    · rw [if_neg hl] at HNt
      rw [decide_eq_false hl] at f1
      clear hl
      go_enter Tryz.func70, Tryz.ntmps70
      go_upto_region 4 with (go_at_call 80; with_reducible refine f1.out.mono ?_; rintro e w1 ⟨rfl, rfl⟩)
      refine still_tailD 12 (by kernel_rfl) (by kernel_rfl) ?_
      simp only [List.take_succ_cons, List.take_zero, List.drop_succ_cons, List.drop_zero]
      repeat still_step
      refine wpStill_nil ?_
      go_wp2_with fail
      go_end0
      refine ⟨rfl, ?_, ((Tn.refl _ w).setCell (by simp [WhF.l]) _).drew⟩
      rw [HNt.out]
      exact (H.out.setFb (L := 3) (by omega) (s.fb 3 ||| pw2)).drew
set_option maxRecDepth 100000 in
theorem note_high (f : WhF) (k : Nat) (w : World) (hk : 256 ≤ k) :
    Calls Tryz.prog 70 #[.pointer (some ⟨f.pw, 0, none⟩), .int .i64 k] w fun e w' => e = .returned (.tuple #[]) ∧ w = w' := by
  have hk2 : (256 : Int) ≤ (k : Int) := by omega
  go_enter Tryz.func70, Tryz.ntmps70
  go_wp2
  refine bodyPost_ret (results_none rfl _ _ _) rfl ?_
  exact ⟨rfl, rfl⟩
end Go.Proofs.YtiblpnadninmbaaGreatDoor

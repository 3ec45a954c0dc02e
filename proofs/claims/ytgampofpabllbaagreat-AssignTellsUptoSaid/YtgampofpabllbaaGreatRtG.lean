/- Packages solve and vergeref25: the walks of Round. Conditions: lists that read. -/
import Derived.Test.YtgampofpabllbaaGreatRtF
namespace Go.Proofs.YtgampofpabllbaaGreat
open Go.RowKit Go.Shelf

set_option maxHeartbeats 2000000 in
theorem round_any (base : Int) (l : List Ld) (t : Int) (hl : l.length ≤ 1048576) (A : Option Addr) (c : Nat) (w : World) (hr : Rd w A (l.flatMap ldc)) :
    Calls Tryz.prog 150 #[.int .i64 base, .slice A l.length c, .int .i64 t] w (RetN (roundN base l t) (roundWhy base l t) w) := by
  have Hr := Lib.hid hr
  have f1 := Lib.hid (fun w hr => lcheck_any l hl A c w hr)
  have f2 := Lib.hid (fun w hr => all_any l t hl A c w hr)
  have fT := Lib.hid (fun w => time01_any t w)
  have Hf : Hid (ldsWhy l ≠ 0 → roundWhy base l t = 2 ∧ roundN base l t = 0) := Lib.hid round_form
  have Hg : Hid (ldsWhy l = 0 → ¬ ((1 ≤ base ∧ base ≤ 4503599627370496) ∧ 0 ≤ t ∧ t ≤ 4503599627370496) → roundWhy base l t = 1 ∧ roundN base l t = 0) := Lib.hid round_range
  have Hi : Hid (ldsWhy l = 0 → ((1 ≤ base ∧ base ≤ 4503599627370496) ∧ 0 ≤ t ∧ t ≤ 4503599627370496) → (allWhy l t ≠ 0 → roundWhy base l t = allWhy l t ∧ roundN base l t = 0) ∧ (allWhy l t = 0 → 4503599627370496 - base < allN l t → roundWhy base l t = 10 ∧ roundN base l t = 0) ∧
      (allWhy l t = 0 → ¬ 4503599627370496 - base < allN l t → roundWhy base l t = 0 ∧ roundN base l t = base + allN l t)) := Lib.hid round_in
  have Ha : Hid (allWhy l t = 0 → 0 ≤ allN l t ∧ allN l t ≤ 4503599627370496) := Lib.hid allN_in
  have H02 := lds_02 l
  have HT1 : Hid (inB t 0 4503599627370496 = decide (0 ≤ t ∧ t ≤ 4503599627370496)) := Lib.hid rfl
  clear hr
  unfold RetN at *
  generalize roundN base l t = N at *
  generalize roundWhy base l t = Y at *
  generalize ldsWhy l = y at *
  generalize allN l t = n at *
  generalize allWhy l t = z at *
  generalize inB t 0 4503599627370496 = tb at *
  go_enter Tryz.func150, Tryz.ntmps150
  go_wp2_with fail
  refine (f1.out _ Hr.out).mono ?_
  rintro e W ⟨rfl, hb⟩
  have HB := Lib.hid hb
  have HrW := Lib.hid (Hr.out.below hb)
  clear hb f1
  rcases H02 with rfl | rfl
  · clear Hf
    by_cases hin : (1 ≤ base ∧ base ≤ 4503599627370496) ∧ 0 ≤ t ∧ t ≤ 4503599627370496
    · obtain ⟨h1, h2, h3⟩ := Hi.out (by first | rfl | trivial) hin
      have H1 := Lib.hid h1; have H2 := Lib.hid h2; have H3 := Lib.hid h3
      have e0 : tb = true := by rw [HT1.out]; exact decide_eq_true hin.2
      subst e0
      obtain ⟨⟨b1, b2⟩, t1, t2⟩ := hin
      have d1 : decide (base < 1) = false := by simp; omega
      have d2 : decide (4503599627370496 < base) = false := by simp; omega
      have d3 : decide (t < 0) = false := by simp; omega
      have d4 : decide (4503599627370496 < t) = false := by simp; omega
      clear Hg Hi h1 h2 h3 HT1
      go_wp2_with (fail)
      refine (f2.out _ HrW.out).mono ?_
      rintro e W2 ⟨rfl, hb⟩
      have HB2 := Lib.hid (HB.out.trans (hb.mono HB.out.size))
      clear hb f2
      by_cases hz : z = 0
      · subst hz
        obtain ⟨n1, n2⟩ := Ha.out (by first | rfl | trivial)
        clear Ha H1
        by_cases ho : 4503599627370496 - base < n
        · obtain ⟨rfl, rfl⟩ := H2.out (by first | rfl | trivial) ho
          clear H2 H3
          go_wp2
          go_ret2
          exact ⟨rfl, HB2.out⟩
        · obtain ⟨rfl, rfl⟩ := H3.out (by first | rfl | trivial) (by first | exact ho | omega)
          clear H2 H3
          go_wp2
          go_ret2
          exact ⟨rfl, HB2.out⟩
      · obtain ⟨rfl, rfl⟩ := H1.out hz
        have hz1 : (Y != 0) = true := by simpa using hz
        clear H1 H2 H3 Ha hz
        go_wp2
        go_ret2
        exact ⟨rfl, HB2.out⟩
    · obtain ⟨rfl, rfl⟩ := Hg.out (by first | rfl | trivial) hin
      clear Hg Hi Ha
      by_cases b1 : base < 1
      · go_wp2
        go_ret2
        exact ⟨rfl, HB.out⟩
      by_cases b2 : 4503599627370496 < base
      · go_wp2
        go_ret2
        exact ⟨rfl, HB.out⟩
      have e0 : tb = false := by rw [HT1.out]; exact decide_eq_false (fun h => hin ⟨by omega, h⟩)
      subst e0
      by_cases t1 : t < 0
      · clear HT1 hin
        go_wp2_with (fail)
        go_ret2
        exact ⟨rfl, HB.out⟩
      · have t2 : 4503599627370496 < t := by omega
        clear HT1 hin
        go_wp2_with (fail)
        go_ret2
        exact ⟨rfl, HB.out⟩
  · obtain ⟨rfl, rfl⟩ := Hf.out (by first | decide | trivial)
    clear Hg Hi Hf Ha
    go_wp2
    go_ret2
    exact ⟨rfl, HB.out⟩
set_option maxHeartbeats 2000000 in
theorem round25_any (base : Int) (l : List Ld) (t : Int) (hl : l.length ≤ 1048576) (A : Option Addr) (c : Nat) (w : World) (hr : Rd w A (l.flatMap ldc)) :
    Calls Tryz.prog 104 #[.int .i64 base, .slice A l.length c, .int .i64 t] w (RetN (roundN base l t) (roundWhy base l t) w) := by
  have Hr := Lib.hid hr
  have f1 := Lib.hid (fun w hr => lcheck23_any l hl A c w hr)
  have f2 := Lib.hid (fun w hr => all23_any l t hl A c w hr)
  have fT := Lib.hid (fun w => time01_any t w)
  have Hf : Hid (ldsWhy l ≠ 0 → roundWhy base l t = 2 ∧ roundN base l t = 0) := Lib.hid round_form
  have Hg : Hid (ldsWhy l = 0 → ¬ ((1 ≤ base ∧ base ≤ 4503599627370496) ∧ 0 ≤ t ∧ t ≤ 4503599627370496) → roundWhy base l t = 1 ∧ roundN base l t = 0) := Lib.hid round_range
  have Hi : Hid (ldsWhy l = 0 → ((1 ≤ base ∧ base ≤ 4503599627370496) ∧ 0 ≤ t ∧ t ≤ 4503599627370496) → (allWhy l t ≠ 0 → roundWhy base l t = allWhy l t ∧ roundN base l t = 0) ∧ (allWhy l t = 0 → 4503599627370496 - base < allN l t → roundWhy base l t = 10 ∧ roundN base l t = 0) ∧
      (allWhy l t = 0 → ¬ 4503599627370496 - base < allN l t → roundWhy base l t = 0 ∧ roundN base l t = base + allN l t)) := Lib.hid round_in
  have Ha : Hid (allWhy l t = 0 → 0 ≤ allN l t ∧ allN l t ≤ 4503599627370496) := Lib.hid allN_in
  have H02 := lds_02 l
  have HT1 : Hid (inB t 0 4503599627370496 = decide (0 ≤ t ∧ t ≤ 4503599627370496)) := Lib.hid rfl
  clear hr
  unfold RetN at *
  generalize roundN base l t = N at *
  generalize roundWhy base l t = Y at *
  generalize ldsWhy l = y at *
  generalize allN l t = n at *
  generalize allWhy l t = z at *
  generalize inB t 0 4503599627370496 = tb at *
  go_enter Tryz.func104, Tryz.ntmps104
  go_wp2_with fail
  refine (f1.out _ Hr.out).mono ?_
  rintro e W ⟨rfl, hb⟩
  have HB := Lib.hid hb
  have HrW := Lib.hid (Hr.out.below hb)
  clear hb f1
  rcases H02 with rfl | rfl
  · clear Hf
    by_cases hin : (1 ≤ base ∧ base ≤ 4503599627370496) ∧ 0 ≤ t ∧ t ≤ 4503599627370496
    · obtain ⟨h1, h2, h3⟩ := Hi.out (by first | rfl | trivial) hin
      have H1 := Lib.hid h1; have H2 := Lib.hid h2; have H3 := Lib.hid h3
      have e0 : tb = true := by rw [HT1.out]; exact decide_eq_true hin.2
      subst e0
      obtain ⟨⟨b1, b2⟩, t1, t2⟩ := hin
      have d1 : decide (base < 1) = false := by simp; omega
      have d2 : decide (4503599627370496 < base) = false := by simp; omega
      have d3 : decide (t < 0) = false := by simp; omega
      have d4 : decide (4503599627370496 < t) = false := by simp; omega
      clear Hg Hi h1 h2 h3 HT1
      go_wp2_with ((go_at_call 103; refine (fT.out _).mono ?_; rintro e w' ⟨rfl, rfl⟩))
      refine (f2.out _ HrW.out).mono ?_
      rintro e W2 ⟨rfl, hb⟩
      have HB2 := Lib.hid (HB.out.trans (hb.mono HB.out.size))
      clear hb f2
      by_cases hz : z = 0
      · subst hz
        obtain ⟨n1, n2⟩ := Ha.out (by first | rfl | trivial)
        clear Ha H1
        by_cases ho : 4503599627370496 - base < n
        · obtain ⟨rfl, rfl⟩ := H2.out (by first | rfl | trivial) ho
          clear H2 H3
          go_wp2
          go_ret2
          exact ⟨rfl, HB2.out⟩
        · obtain ⟨rfl, rfl⟩ := H3.out (by first | rfl | trivial) (by first | exact ho | omega)
          clear H2 H3
          go_wp2
          go_ret2
          exact ⟨rfl, HB2.out⟩
      · obtain ⟨rfl, rfl⟩ := H1.out hz
        have hz1 : (Y != 0) = true := by simpa using hz
        clear H1 H2 H3 Ha hz
        go_wp2
        go_ret2
        exact ⟨rfl, HB2.out⟩
    · obtain ⟨rfl, rfl⟩ := Hg.out (by first | rfl | trivial) hin
      clear Hg Hi Ha
      by_cases b1 : base < 1
      · go_wp2
        go_ret2
        exact ⟨rfl, HB.out⟩
      by_cases b2 : 4503599627370496 < base
      · go_wp2
        go_ret2
        exact ⟨rfl, HB.out⟩
      have e0 : tb = false := by rw [HT1.out]; exact decide_eq_false (fun h => hin ⟨by omega, h⟩)
      subst e0
      by_cases t1 : t < 0
      · clear HT1 hin
        go_wp2_with ((go_at_call 103; refine (fT.out _).mono ?_; rintro e w' ⟨rfl, rfl⟩))
        go_ret2
        exact ⟨rfl, HB.out⟩
      · have t2 : 4503599627370496 < t := by omega
        clear HT1 hin
        go_wp2_with ((go_at_call 103; refine (fT.out _).mono ?_; rintro e w' ⟨rfl, rfl⟩))
        go_ret2
        exact ⟨rfl, HB.out⟩
  · obtain ⟨rfl, rfl⟩ := Hf.out (by first | decide | trivial)
    clear Hg Hi Hf Ha
    go_wp2
    go_ret2
    exact ⟨rfl, HB.out⟩
end Go.Proofs.YtgampofpabllbaaGreat

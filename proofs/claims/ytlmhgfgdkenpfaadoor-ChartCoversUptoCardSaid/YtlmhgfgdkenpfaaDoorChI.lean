/- Package vergeref39: the walks of right and Same. Conditions: lists that read. -/
import Derived.Test.YtlmhgfgdkenpfaaDoorChF
namespace Go.Proofs.YtlmhgfgdkenpfaaDoor
open Go.RowKit Go.Shelf
attribute [local go_sem] Oper.semAt_some

set_option maxHeartbeats 4000000 in
theorem right39_any (ms : List Mk) (A : Option Addr) (c : Nat) (start now : Int) (w : World) (hl : ms.length ≤ 1048576) (hr : Rd w A (ms.flatMap mkc)) :
    Calls Tryd.prog 21 #[.slice A ms.length c, .int .i64 start, .int .i64 now] w fun e w' => e = .returned (.bool (rgB ms start now)) ∧ Below w.heap.size w w' := by
  have c1 := Lib.hid (fun w => time01_any start w)
  have c2 := Lib.hid (fun w => time01_any now w)
  have HR := Lib.hid hr
  clear hr
  have HB : Hid (rgB ms start now = decide (tmB start = true ∧ tmB now = true ∧ start ≤ now ∧ rgGo now start ms = true)) := Lib.hid rfl
  have HL := Lib.hid hl
  generalize rgB ms start now = RR at *
  generalize tmB start = b1 at *
  generalize tmB now = b2 at *
  go_enter Tryd.func21, Tryd.ntmps21
  cases b1 with
  | false =>
    have HB1 := Lib.hid (show RR = false by rw [HB.out]; exact decide_eq_false (by simp))
    go_wp2_with (first | ((with_reducible refine (c1.out _).mono ?_); rintro e w' ⟨rfl, rfl⟩) | ((with_reducible refine (c2.out _).mono ?_); rintro e w' ⟨rfl, rfl⟩))
    go_ret
    exact ⟨by (rw [HB1.out]; try rfl), Below.refl _ _⟩
  | true =>
  cases b2 with
  | false =>
    have HB1 := Lib.hid (show RR = false by rw [HB.out]; exact decide_eq_false (by simp))
    go_wp2_with (first | ((with_reducible refine (c1.out _).mono ?_); rintro e w' ⟨rfl, rfl⟩) | ((with_reducible refine (c2.out _).mono ?_); rintro e w' ⟨rfl, rfl⟩))
    go_ret
    exact ⟨by (rw [HB1.out]; try rfl), Below.refl _ _⟩
  | true =>
  by_cases hsn : now < start
  · have HB1 := Lib.hid (show RR = false by rw [HB.out]; exact decide_eq_false (by simp; omega))
    go_wp2_with (first | ((with_reducible refine (c1.out _).mono ?_); rintro e w' ⟨rfl, rfl⟩) | ((with_reducible refine (c2.out _).mono ?_); rintro e w' ⟨rfl, rfl⟩))
    go_ret
    exact ⟨by (rw [HB1.out]; try rfl), Below.refl _ _⟩
  have HB1 := Lib.hid (show rgGo now start (ms.drop 0) = RR by rw [HB.out]; simp; omega)
  clear HB
  go_wp2_with (first | ((with_reducible refine (c1.out _).mono ?_); rintro e w' ⟨rfl, rfl⟩) | ((with_reducible refine (c2.out _).mono ?_); rintro e w' ⟨rfl, rfl⟩))
  go_loopw [7, 26] (fun s i wr => ∃ (k : Nat) (p : Int), k ≤ ms.length ∧ i = .int .i64 k ∧ s = .int .i64 p ∧ Hid (rgGo now p (ms.drop k) = RR) ∧ Hid (Below w.heap.size w wr)) (fun _ i _ => ms.length - (intOf i).toNat)
  case atStart => exact ⟨0, start, by omega, rfl, rfl, HB1, Lib.hid (Below.refl _ _)⟩
  case round =>
    obtain ⟨k, p, hk, rfl, rfl, HG, hSr⟩ := hrel
    by_cases hlt : k < ms.length
    · obtain ⟨a, x, rfl, hx, g0, g1, g2, g3⟩ := (HR.out.below hSr.out).mkAt hlt
      have HG2 := Lib.hid (show (if x.time < p ∨ now < x.time ∨ (x.kind = 11 ∧ sbB x = false) then false else rgGo now x.time (ms.drop (k + 1))) = RR by rw [← HG.out, drop_at (d := mk0) hlt, hx]; rfl)
      clear hx HG
      obtain ⟨x0, x1, x2, x3⟩ := x
      unfold sbB at HG2
      dsimp only at *
      by_cases h0 : x0 < p
      · have HN := Lib.hid (show RR = false by rw [← HG2.out, if_pos (.inl h0)])
        go_wp2
        go_ret
        exact ⟨by (rw [HN.out]; try rfl), hSr.out.alloc hSr.out.size _⟩
      by_cases h1 : now < x0
      · have HN := Lib.hid (show RR = false by rw [← HG2.out, if_pos (.inr (.inl h1))])
        go_wp2
        go_ret
        exact ⟨by (rw [HN.out]; try rfl), hSr.out.alloc hSr.out.size _⟩
      by_cases h2 : x1 = 11
      · subst h2
        have hk1 : ((11 : Int) != 11) = false := by decide
        by_cases s0 : x3 < 0
        · have HN := Lib.hid (show RR = false by rw [← HG2.out, if_pos (.inr (.inr ⟨rfl, decide_eq_false (by omega)⟩))])
          go_wp2
          go_ret
          exact ⟨by (rw [HN.out]; try rfl), hSr.out.alloc hSr.out.size _⟩
        by_cases s1 : 4 ≤ x3
        · have s0' : 0 ≤ x3 := by omega
          have HN := Lib.hid (show RR = false by rw [← HG2.out, if_pos (.inr (.inr ⟨rfl, decide_eq_false (by omega)⟩))])
          go_wp2
          go_ret
          exact ⟨by (rw [HN.out]; try rfl), hSr.out.alloc hSr.out.size _⟩
        by_cases s2 : x2 < 0
        · have s0' : 0 ≤ x3 := by omega
          have s1' : x3 < 4 := by omega
          have HN := Lib.hid (show RR = false by rw [← HG2.out, if_pos (.inr (.inr ⟨rfl, decide_eq_false (by omega)⟩))])
          go_wp2
          go_ret
          exact ⟨by (rw [HN.out]; try rfl), hSr.out.alloc hSr.out.size _⟩
        by_cases s3 : 63 < x2
        · have s0' : 0 ≤ x3 := by omega
          have s1' : x3 < 4 := by omega
          have s2' : 0 ≤ x2 := by omega
          have HN := Lib.hid (show RR = false by rw [← HG2.out, if_pos (.inr (.inr ⟨rfl, decide_eq_false (by omega)⟩))])
          go_wp2
          go_ret
          exact ⟨by (rw [HN.out]; try rfl), hSr.out.alloc hSr.out.size _⟩
        have s0' : 0 ≤ x3 := by omega
        have s1' : x3 < 4 := by omega
        have s2' : 0 ≤ x2 := by omega
        have s3' : x2 ≤ 63 := by omega
        by_cases s4 : x3 = 0
        · subst s4
          have ha : ((0 : Int) == 0) = true := by decide
          by_cases s5 : x2 = 0
          · subst s5
            have hb : ((0 : Int) != 0) = false := by decide
            have HN := Lib.hid (show rgGo now x0 (ms.drop (k + 1)) = RR by rw [← HG2.out, if_neg (by simp; omega)])
            go_wp2
            refine ⟨⟨k + 1, _, by omega, by go_num, rfl, HN, hSr.out.alloc hSr.out.size _⟩, ?_⟩
            simp [intOf]; omega
          · have hb : (x2 != 0) = true := by simpa using s5
            have HN := Lib.hid (show RR = false by rw [← HG2.out, if_pos (.inr (.inr ⟨rfl, decide_eq_false (by omega)⟩))])
            go_wp2
            go_ret
            exact ⟨by (rw [HN.out]; try rfl), hSr.out.alloc hSr.out.size _⟩
        · have ha : (x3 == 0) = false := by simpa using s4
          have HN := Lib.hid (show rgGo now x0 (ms.drop (k + 1)) = RR by rw [← HG2.out, if_neg (by simp; omega)])
          go_wp2
          refine ⟨⟨k + 1, _, by omega, by go_num, rfl, HN, hSr.out.alloc hSr.out.size _⟩, ?_⟩
          simp [intOf]; omega
      · have hk1 : (x1 != 11) = true := by simpa using h2
        have HN := Lib.hid (show rgGo now x0 (ms.drop (k + 1)) = RR by rw [← HG2.out, if_neg (by omega)])
        go_wp2
        refine ⟨⟨k + 1, _, by omega, by go_num, rfl, HN, hSr.out.alloc hSr.out.size _⟩, ?_⟩
        simp [intOf]; omega
    · obtain rfl : k = ms.length := by omega
      have HN := Lib.hid (show RR = true by rw [← HG.out, List.drop_length]; rfl)
      go_wp2
      go_ret
      exact ⟨by (rw [HN.out]; try rfl), hSr.out⟩
end Go.Proofs.YtlmhgfgdkenpfaaDoor

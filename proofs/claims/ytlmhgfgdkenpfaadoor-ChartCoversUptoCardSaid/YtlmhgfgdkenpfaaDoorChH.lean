/- Packages chart and vergeref39: the walks of Stops. Conditions: lists that read. -/
import Derived.Test.YtlmhgfgdkenpfaaDoorChF
namespace Go.Proofs.YtlmhgfgdkenpfaaDoor
open Go.RowKit Go.Shelf
attribute [local go_sem] Oper.semAt_some

/-- How often somebody stopped. -/
def stG (o : Int) : Nat → Bool → List Mk → Nat
  | n, _, [] => n
  | n, on, m :: ms => if m.kind = 2 ∧ m.who = o then stG o n false ms else if m.kind = 11 then stG o (if on = true ∧ ¬ (m.a = 1 ∧ m.who = o) then n + 1 else n) (decide (m.a = 1 ∧ m.who = o)) ms else stG o n on ms
set_option maxHeartbeats 4000000 in
theorem stops_any (o : Int) (ms : List Mk) (A : Option Addr) (c : Nat) (w : World) (hl : ms.length ≤ 1048576) (hr : Rd w A (ms.flatMap mkc)) :
    Calls Tryd.prog 10 #[.slice A ms.length c, .int .i64 o] w fun e w' => e = .returned (.int .i64 (stG o 0 false ms)) ∧ Below w.heap.size w w' := by
  have HR := Lib.hid hr
  have HG0 : Hid (stG o 0 false (ms.drop 0) = stG o 0 false ms) := Lib.hid rfl
  clear hr
  generalize stG o 0 false ms = R at *
  go_enter Tryd.func10, Tryd.ntmps10
  go_wp2
  go_loopw [5, 6, 12] (fun s b i wr => ∃ (k n : Nat) (on : Bool), k ≤ ms.length ∧ n ≤ k ∧ i = .int .i64 k ∧ s = .int .i64 n ∧ b = .bool on ∧ Hid (stG o n on (ms.drop k) = R) ∧ Hid (Below w.heap.size w wr)) (fun _ _ i _ => ms.length - (intOf i).toNat)
  case atStart => exact ⟨0, 0, false, by omega, by omega, rfl, rfl, rfl, HG0, Lib.hid (Below.refl _ _)⟩
  case round =>
    obtain ⟨k, n, on, hk, hn, rfl, rfl, rfl, HG, hSr⟩ := hrel
    by_cases hlt : k < ms.length
    · obtain ⟨a, x, rfl, hx, g0, g1, g2, g3⟩ := (HR.out.below hSr.out).mkAt hlt
      have HG2 := Lib.hid (show (if x.kind = 2 ∧ x.who = o then stG o n false (ms.drop (k + 1)) else if x.kind = 11 then stG o (if on = true ∧ ¬ (x.a = 1 ∧ x.who = o) then n + 1 else n) (decide (x.a = 1 ∧ x.who = o)) (ms.drop (k + 1)) else stG o n on (ms.drop (k + 1))) = R by rw [← HG.out, drop_at (d := mk0) hlt, hx]; rfl)
      clear hx HG HG0
      obtain ⟨x0, x1, x2, x3⟩ := x
      dsimp only at *
      by_cases h0 : x1 = 2
      · subst h0
        have t0 : ((2 : Int) == 2) = true := by decide
        have t9 : ((2 : Int) == 11) = false := by decide
        have t8 : ((2 : Int) != 11) = true := by decide
        by_cases h1 : x2 = o
        · subst h1
          have t1 : (x2 == x2) = true := by simp
          have HN := Lib.hid (show stG x2 n false (ms.drop (k + 1)) = R by rw [← HG2.out, if_pos ⟨rfl, rfl⟩])
          go_wp2
          refine ⟨⟨k + 1, _, _, by omega, by omega, by go_num, rfl, rfl, HN, hSr.out.alloc hSr.out.size _⟩, ?_⟩
          simp [intOf]; omega
        · have t1 : (x2 == o) = false := by simpa using h1
          have HN := Lib.hid (show stG o n on (ms.drop (k + 1)) = R by rw [← HG2.out, if_neg (fun h => h1 h.2), if_neg (by decide)])
          go_wp2
          refine ⟨⟨k + 1, _, _, by omega, by omega, by go_num, rfl, rfl, HN, hSr.out.alloc hSr.out.size _⟩, ?_⟩
          simp [intOf]; omega
      · have t0 : (x1 == 2) = false := by simpa using h0
        by_cases h9 : x1 = 11
        · subst h9
          have t9 : ((11 : Int) == 11) = true := by decide
          have t8 : ((11 : Int) != 11) = false := by decide
          have HG3 := Lib.hid (show stG o (if on = true ∧ ¬ (x3 = 1 ∧ x2 = o) then n + 1 else n) (decide (x3 = 1 ∧ x2 = o)) (ms.drop (k + 1)) = R by rw [← HG2.out, if_neg (show ¬ ((11 : Int) = 2 ∧ x2 = o) from fun h => absurd h.1 (by decide)), if_pos rfl])
          clear HG2 h0
          by_cases h3 : x3 = 1
          · subst h3
            have t3 : ((1 : Int) == 1) = true := by decide
            by_cases h1 : x2 = o
            · subst h1
              have t1 : (x2 == x2) = true := by simp
              have HN := Lib.hid (show stG x2 n true (ms.drop (k + 1)) = R by rw [← HG3.out, if_neg (fun h => h.2 ⟨rfl, rfl⟩), decide_eq_true ⟨rfl, rfl⟩])
              cases on
              · go_wp2
                refine ⟨⟨k + 1, _, _, by omega, by omega, by go_num, rfl, rfl, HN, hSr.out.alloc hSr.out.size _⟩, ?_⟩
                simp [intOf]; omega
              · go_wp2
                refine ⟨⟨k + 1, _, _, by omega, by omega, by go_num, rfl, rfl, HN, hSr.out.alloc hSr.out.size _⟩, ?_⟩
                simp [intOf]; omega
            · have t1 : (x2 == o) = false := by simpa using h1
              cases on
              · have HN := Lib.hid (show stG o n false (ms.drop (k + 1)) = R by rw [← HG3.out, if_neg (by simp), decide_eq_false (fun h => h1 h.2)])
                go_wp2
                refine ⟨⟨k + 1, _, _, by omega, by omega, by go_num, rfl, rfl, HN, hSr.out.alloc hSr.out.size _⟩, ?_⟩
                simp [intOf]; omega
              · have HN := Lib.hid (show stG o (n + 1) false (ms.drop (k + 1)) = R by rw [← HG3.out, if_pos ⟨rfl, fun h => h1 h.2⟩, decide_eq_false (fun h => h1 h.2)])
                go_wp2
                refine ⟨⟨k + 1, n + 1, _, by omega, by omega, by go_num, by go_num, rfl, HN, hSr.out.alloc hSr.out.size _⟩, ?_⟩
                simp [intOf]; omega
          · have t3 : (x3 == 1) = false := by simpa using h3
            cases on
            · have HN := Lib.hid (show stG o n false (ms.drop (k + 1)) = R by rw [← HG3.out, if_neg (by simp), decide_eq_false (fun h => h3 h.1)])
              go_wp2
              refine ⟨⟨k + 1, _, _, by omega, by omega, by go_num, rfl, rfl, HN, hSr.out.alloc hSr.out.size _⟩, ?_⟩
              simp [intOf]; omega
            · have HN := Lib.hid (show stG o (n + 1) false (ms.drop (k + 1)) = R by rw [← HG3.out, if_pos ⟨rfl, fun h => h3 h.1⟩, decide_eq_false (fun h => h3 h.1)])
              go_wp2
              refine ⟨⟨k + 1, n + 1, _, by omega, by omega, by go_num, by go_num, rfl, HN, hSr.out.alloc hSr.out.size _⟩, ?_⟩
              simp [intOf]; omega
        · have t9 : (x1 == 11) = false := by simpa using h9
          have t8 : (x1 != 11) = true := by simpa using h9
          have HN := Lib.hid (show stG o n on (ms.drop (k + 1)) = R by rw [← HG2.out, if_neg (fun h => h0 h.1), if_neg h9])
          go_wp2
          refine ⟨⟨k + 1, _, _, by omega, by omega, by go_num, rfl, rfl, HN, hSr.out.alloc hSr.out.size _⟩, ?_⟩
          simp [intOf]; omega
    · obtain rfl : k = ms.length := by omega
      have HN := Lib.hid (show n = R by rw [← HG.out, List.drop_length]; rfl)
      go_wp2
      go_ret
      exact ⟨by rw [HN.out]; rfl, hSr.out⟩
set_option maxHeartbeats 4000000 in
theorem stops39_any (o : Int) (ms : List Mk) (A : Option Addr) (c : Nat) (w : World) (hl : ms.length ≤ 1048576) (hr : Rd w A (ms.flatMap mkc)) :
    Calls Tryd.prog 11 #[.slice A ms.length c, .int .i64 o] w fun e w' => e = .returned (.int .i64 (stG o 0 false ms)) ∧ Below w.heap.size w w' := by
  have HR := Lib.hid hr
  have HG0 : Hid (stG o 0 false (ms.drop 0) = stG o 0 false ms) := Lib.hid rfl
  clear hr
  generalize stG o 0 false ms = R at *
  go_enter Tryd.func11, Tryd.ntmps11
  go_wp2
  go_loopw [5, 6, 12] (fun s b i wr => ∃ (k n : Nat) (on : Bool), k ≤ ms.length ∧ n ≤ k ∧ i = .int .i64 k ∧ s = .int .i64 n ∧ b = .bool on ∧ Hid (stG o n on (ms.drop k) = R) ∧ Hid (Below w.heap.size w wr)) (fun _ _ i _ => ms.length - (intOf i).toNat)
  case atStart => exact ⟨0, 0, false, by omega, by omega, rfl, rfl, rfl, HG0, Lib.hid (Below.refl _ _)⟩
  case round =>
    obtain ⟨k, n, on, hk, hn, rfl, rfl, rfl, HG, hSr⟩ := hrel
    by_cases hlt : k < ms.length
    · obtain ⟨a, x, rfl, hx, g0, g1, g2, g3⟩ := (HR.out.below hSr.out).mkAt hlt
      have HG2 := Lib.hid (show (if x.kind = 2 ∧ x.who = o then stG o n false (ms.drop (k + 1)) else if x.kind = 11 then stG o (if on = true ∧ ¬ (x.a = 1 ∧ x.who = o) then n + 1 else n) (decide (x.a = 1 ∧ x.who = o)) (ms.drop (k + 1)) else stG o n on (ms.drop (k + 1))) = R by rw [← HG.out, drop_at (d := mk0) hlt, hx]; rfl)
      clear hx HG HG0
      obtain ⟨x0, x1, x2, x3⟩ := x
      dsimp only at *
      by_cases h0 : x1 = 2
      · subst h0
        have t0 : ((2 : Int) == 2) = true := by decide
        have t9 : ((2 : Int) == 11) = false := by decide
        have t8 : ((2 : Int) != 11) = true := by decide
        by_cases h1 : x2 = o
        · subst h1
          have t1 : (x2 == x2) = true := by simp
          have HN := Lib.hid (show stG x2 n false (ms.drop (k + 1)) = R by rw [← HG2.out, if_pos ⟨rfl, rfl⟩])
          go_wp2
          refine ⟨⟨k + 1, _, _, by omega, by omega, by go_num, rfl, rfl, HN, hSr.out.alloc hSr.out.size _⟩, ?_⟩
          simp [intOf]; omega
        · have t1 : (x2 == o) = false := by simpa using h1
          have HN := Lib.hid (show stG o n on (ms.drop (k + 1)) = R by rw [← HG2.out, if_neg (fun h => h1 h.2), if_neg (by decide)])
          go_wp2
          refine ⟨⟨k + 1, _, _, by omega, by omega, by go_num, rfl, rfl, HN, hSr.out.alloc hSr.out.size _⟩, ?_⟩
          simp [intOf]; omega
      · have t0 : (x1 == 2) = false := by simpa using h0
        by_cases h9 : x1 = 11
        · subst h9
          have t9 : ((11 : Int) == 11) = true := by decide
          have t8 : ((11 : Int) != 11) = false := by decide
          have HG3 := Lib.hid (show stG o (if on = true ∧ ¬ (x3 = 1 ∧ x2 = o) then n + 1 else n) (decide (x3 = 1 ∧ x2 = o)) (ms.drop (k + 1)) = R by rw [← HG2.out, if_neg (show ¬ ((11 : Int) = 2 ∧ x2 = o) from fun h => absurd h.1 (by decide)), if_pos rfl])
          clear HG2 h0
          by_cases h3 : x3 = 1
          · subst h3
            have t3 : ((1 : Int) == 1) = true := by decide
            by_cases h1 : x2 = o
            · subst h1
              have t1 : (x2 == x2) = true := by simp
              have HN := Lib.hid (show stG x2 n true (ms.drop (k + 1)) = R by rw [← HG3.out, if_neg (fun h => h.2 ⟨rfl, rfl⟩), decide_eq_true ⟨rfl, rfl⟩])
              cases on
              · go_wp2
                refine ⟨⟨k + 1, _, _, by omega, by omega, by go_num, rfl, rfl, HN, hSr.out.alloc hSr.out.size _⟩, ?_⟩
                simp [intOf]; omega
              · go_wp2
                refine ⟨⟨k + 1, _, _, by omega, by omega, by go_num, rfl, rfl, HN, hSr.out.alloc hSr.out.size _⟩, ?_⟩
                simp [intOf]; omega
            · have t1 : (x2 == o) = false := by simpa using h1
              cases on
              · have HN := Lib.hid (show stG o n false (ms.drop (k + 1)) = R by rw [← HG3.out, if_neg (by simp), decide_eq_false (fun h => h1 h.2)])
                go_wp2
                refine ⟨⟨k + 1, _, _, by omega, by omega, by go_num, rfl, rfl, HN, hSr.out.alloc hSr.out.size _⟩, ?_⟩
                simp [intOf]; omega
              · have HN := Lib.hid (show stG o (n + 1) false (ms.drop (k + 1)) = R by rw [← HG3.out, if_pos ⟨rfl, fun h => h1 h.2⟩, decide_eq_false (fun h => h1 h.2)])
                go_wp2
                refine ⟨⟨k + 1, n + 1, _, by omega, by omega, by go_num, by go_num, rfl, HN, hSr.out.alloc hSr.out.size _⟩, ?_⟩
                simp [intOf]; omega
          · have t3 : (x3 == 1) = false := by simpa using h3
            cases on
            · have HN := Lib.hid (show stG o n false (ms.drop (k + 1)) = R by rw [← HG3.out, if_neg (by simp), decide_eq_false (fun h => h3 h.1)])
              go_wp2
              refine ⟨⟨k + 1, _, _, by omega, by omega, by go_num, rfl, rfl, HN, hSr.out.alloc hSr.out.size _⟩, ?_⟩
              simp [intOf]; omega
            · have HN := Lib.hid (show stG o (n + 1) false (ms.drop (k + 1)) = R by rw [← HG3.out, if_pos ⟨rfl, fun h => h3 h.1⟩, decide_eq_false (fun h => h3 h.1)])
              go_wp2
              refine ⟨⟨k + 1, n + 1, _, by omega, by omega, by go_num, by go_num, rfl, HN, hSr.out.alloc hSr.out.size _⟩, ?_⟩
              simp [intOf]; omega
        · have t9 : (x1 == 11) = false := by simpa using h9
          have t8 : (x1 != 11) = true := by simpa using h9
          have HN := Lib.hid (show stG o n on (ms.drop (k + 1)) = R by rw [← HG2.out, if_neg (fun h => h0 h.1), if_neg h9])
          go_wp2
          refine ⟨⟨k + 1, _, _, by omega, by omega, by go_num, rfl, rfl, HN, hSr.out.alloc hSr.out.size _⟩, ?_⟩
          simp [intOf]; omega
    · obtain rfl : k = ms.length := by omega
      have HN := Lib.hid (show n = R by rw [← HG.out, List.drop_length]; rfl)
      go_wp2
      go_ret
      exact ⟨by rw [HN.out]; rfl, hSr.out⟩
end Go.Proofs.YtlmhgfgdkenpfaaDoor

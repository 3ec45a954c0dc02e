/- Package work: the walks of what work.New asks of a depth. Conditions: lists that read. -/
import Derived.Test.YtgampofpabllbaaVetC
namespace Go.Proofs.Ytgampofpabllbaa
open Go.RowKit

def oddD (p : Int) : Bool := decide (p < 1) || decide (64 < p)
theorem oddD_any (p : Int) (w : World) : Calls Try.prog 29 #[.int .i64 p] w fun e w' => e = .returned (.bool (oddD p)) ∧ w = w' := by
  by_cases h : p < 1
  · go_enter Try.func29, Try.ntmps29
    go_wp2
    go_ret
    exact ⟨ret_bool (by simp [oddD, h]), rfl⟩
  · go_enter Try.func29, Try.ntmps29
    go_wp2
    go_ret
    exact ⟨ret_bool (by simp [oddD]; omega), rfl⟩

theorem indexOddD_any (A : Option Addr) (xs : List Int) (c : Nat) (w : World) (hl : xs.length ≤ 549755813888) (hr : Rd w A (xs.map (.int .i64))) :
    Calls Try.prog 38 #[.slice A xs.length c, .func (.func 29) #[] #[]] w fun e w' => (∃ z : Int, e = .returned (.int .i64 z) ∧ ((0 ≤ z ∧ ∃ i, i < xs.length ∧ oddD (xs.getD i 0) = true) ∨ (z = -1 ∧ ∀ i, i < xs.length → oddD (xs.getD i 0) = false))) ∧ w = w' := by
  have Hr := Lib.hid hr; clear hr
  go_enter Try.func38, Try.ntmps38
  go_wp2
  go_loop [8] (fun i => ∃ k : Nat, k ≤ xs.length ∧ i = .int .i64 k ∧ Hid (∀ j, j < k → oddD (xs.getD j 0) = false)) (fun i => xs.length - (intOf i).toNat)
  case atStart => exact ⟨0, by omega, rfl, fun j hj => absurd hj (Nat.not_lt_zero _)⟩
  case round =>
    obtain ⟨k, hk, rfl, hj⟩ := hrel
    by_cases hlt : k < xs.length
    · obtain ⟨a, rfl, h1⟩ := Hr.out.int hlt
      have f1 := Lib.hid (fun w => oddD_any (xs.getD k 0) w)
      have HX : Hid (∀ t, oddD (xs.getD k 0) = t → oddD (xs.getD k 0) = t) := fun t h => h
      generalize ho : oddD (xs.getD k 0) = t at f1
      have Ho := Lib.hid ho; clear ho HX
      generalize hx : xs.getD k 0 = x at *
      have Hx := Lib.hid hx; clear hx
      cases t with
      | true =>
        go_wp2_with (refine (f1.out _).mono ?_; rintro e w' ⟨rfl, rfl⟩)
        go_ret
        exact ⟨⟨k, rfl, .inl ⟨by omega, k, hlt, by rw [Hx.out]; exact Ho.out⟩⟩, rfl⟩
      | false =>
        go_wp2_with (refine (f1.out _).mono ?_; rintro e w' ⟨rfl, rfl⟩)
        go_round
        case rel =>
          refine ⟨k + 1, by omega, by go_num, fun j hj' => ?_⟩
          by_cases he : j = k
          · subst he; rw [Hx.out]; exact Ho.out
          · exact hj.out j (by omega)
        case measure => simp [intOf]; omega
    · obtain rfl : k = xs.length := by omega
      go_wp2
      go_ret
      exact ⟨⟨-1, rfl, .inr ⟨rfl, hj.out⟩⟩, rfl⟩

theorem containsOddD_yes (A : Option Addr) (xs : List Int) (c : Nat) (w : World) (hl : xs.length ≤ 549755813888) (hr : Rd w A (xs.map (.int .i64))) (t : Bool)
    (ht : (t = true ∧ ∃ i, i < xs.length ∧ oddD (xs.getD i 0) = true) ∨ (t = false ∧ ∀ i, i < xs.length → oddD (xs.getD i 0) = false)) :
    Calls Try.prog 24 #[.slice A xs.length c, .func (.func 29) #[] #[]] w fun e w' => e = .returned (.bool t) ∧ w = w' := by
  have f1 := Lib.hid (fun w hr => indexOddD_any A xs c w hl hr)
  have Hr := Lib.hid hr; clear hr
  have Ht := Lib.hid ht; clear ht
  go_enter Try.func24, Try.ntmps24
  go_wp2_with fail
  refine (f1.out _ Hr.out).mono ?_
  rintro e w' ⟨⟨z, rfl, hz⟩, rfl⟩
  have Hz := Lib.hid hz; clear hz
  go_wp2_with fail
  go_ret
  refine ⟨ret_bool ?_, rfl⟩
  rcases Ht.out with ⟨rfl, i, hi, ho⟩ | ⟨rfl, h⟩
  · rcases Hz.out with ⟨h0, _⟩ | ⟨_, h⟩
    · simp [h0]
    · rw [h i hi] at ho; cases ho
  · rcases Hz.out with ⟨_, i, hi, ho⟩ | ⟨rfl, _⟩
    · rw [h i hi] at ho; cases ho
    · rfl

end Go.Proofs.Ytgampofpabllbaa

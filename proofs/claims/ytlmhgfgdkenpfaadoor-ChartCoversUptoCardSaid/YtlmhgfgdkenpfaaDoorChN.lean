/- Package vergeref21: the walk of Number. No premise of its own. -/
import Derived.Test.YtlmhgfgdkenpfaaDoorChF
import Derived.Lib.ItoaNum
import Derived.Lib.ItoaLen
namespace Go.Proofs.YtlmhgfgdkenpfaaDoor
open Go.RowKit Go.Shelf
attribute [local go_sem] Oper.semAt_some

theorem ba_app (a b : List UInt8) : (⟨a.toArray⟩ : ByteArray) ++ ⟨b.toArray⟩ = ⟨(a ++ b).toArray⟩ := by
  apply ByteArray.ext
  simp
theorem number_any : ∀ (n : Nat), n ≤ 9223372036854775807 → ∀ (w : World), Calls Tryd.prog 27 #[.int .i64 n] w fun e w' => e = .returned (.string ⟨(Lib.decDigits n).toArray⟩) ∧ w = w' := by
  intro n
  induction n using Nat.strongRecOn with
  | _ n ih =>
    intro hn w
    by_cases h : n < 10
    · have hD : Lib.decDigits n = [UInt8.ofNat (48 + n)] := Lib.decDigits_one h
      rw [hD]
      clear ih hD hn
      rcases (show n = 0 ∨ n = 1 ∨ n = 2 ∨ n = 3 ∨ n = 4 ∨ n = 5 ∨ n = 6 ∨ n = 7 ∨ n = 8 ∨ n = 9 by omega) with rfl | rfl | rfl | rfl | rfl | rfl | rfl | rfl | rfl | rfl
      · go_enter Tryd.func27, Tryd.ntmps27
        go_wp2
        go_ret
        exact ⟨rfl, rfl⟩
      · go_enter Tryd.func27, Tryd.ntmps27
        go_wp2
        go_ret
        exact ⟨rfl, rfl⟩
      · go_enter Tryd.func27, Tryd.ntmps27
        go_wp2
        go_ret
        exact ⟨rfl, rfl⟩
      · go_enter Tryd.func27, Tryd.ntmps27
        go_wp2
        go_ret
        exact ⟨rfl, rfl⟩
      · go_enter Tryd.func27, Tryd.ntmps27
        go_wp2
        go_ret
        exact ⟨rfl, rfl⟩
      · go_enter Tryd.func27, Tryd.ntmps27
        go_wp2
        go_ret
        exact ⟨rfl, rfl⟩
      · go_enter Tryd.func27, Tryd.ntmps27
        go_wp2
        go_ret
        exact ⟨rfl, rfl⟩
      · go_enter Tryd.func27, Tryd.ntmps27
        go_wp2
        go_ret
        exact ⟨rfl, rfl⟩
      · go_enter Tryd.func27, Tryd.ntmps27
        go_wp2
        go_ret
        exact ⟨rfl, rfl⟩
      · go_enter Tryd.func27, Tryd.ntmps27
        go_wp2
        go_ret
        exact ⟨rfl, rfl⟩
    · have f1 := Lib.hid (ih (n / 10) (by omega) (by omega))
      have f2 := Lib.hid (ih (n % 10) (by omega) (by omega))
      have hD := Lib.hid (show Lib.decDigits n = Lib.decDigits (n / 10) ++ Lib.decDigits (n % 10) by rw [Lib.decDigits, dif_neg h, Lib.decDigits_one (show n % 10 < 10 by omega)])
      have q1 : Int.tdiv (n : Int) 10 = ((n / 10 : Nat) : Int) := by rw [Int.tdiv_eq_ediv_of_nonneg (by omega)]; omega
      have q2 : Int.tmod (n : Int) 10 = ((n % 10 : Nat) : Int) := by rw [Int.tmod_eq_emod_of_nonneg (by omega)]; omega
      have w1 : wrap64 ((n / 10 : Nat) : Int) = ((n / 10 : Nat) : Int) := Go.IntWalk.wrap64_in _ (by omega)
      have w2 : wrap64 ((n % 10 : Nat) : Int) = ((n % 10 : Nat) : Int) := Go.IntWalk.wrap64_in _ (by omega)
      have w3 : IntKind.i64.wrap ((n / 10 : Nat) : Int) = ((n / 10 : Nat) : Int) := IntWalk.i64_in _ (by omega)
      have w4 : IntKind.i64.wrap ((n % 10 : Nat) : Int) = ((n % 10 : Nat) : Int) := IntWalk.i64_in _ (by omega)
      have h9 : ¬ (n : Int) < 10 := by omega
      have hz : ¬ 9223372036854775807 < (Lib.decDigits (n / 10)).length + (Lib.decDigits (n % 10)).length := by
        have := Lib.nDigits_le20 (n / 10) (by omega); have := Lib.nDigits_le20 (n % 10) (by omega)
        rw [Lib.decDigits_length, Lib.decDigits_length]; omega
      clear ih
      generalize n / 10 = q at *
      generalize n % 10 = r at *
      generalize Lib.decDigits n = D at *
      generalize Lib.decDigits q = dq at *
      generalize Lib.decDigits r = dr at *
      go_enter Tryd.func27, Tryd.ntmps27
      go_wp2_with (first | ((with_reducible refine (f1.out _).mono ?_); rintro e w' ⟨rfl, rfl⟩) | ((with_reducible refine (f2.out _).mono ?_); rintro e w' ⟨rfl, rfl⟩))
      go_ret
      exact ⟨by rw [hD.out, ← ba_app]; rfl, rfl⟩
end Go.Proofs.YtlmhgfgdkenpfaaDoor

/- Package vergeref39: the walks of Same and Runs. Conditions: lists that read. -/
import Derived.Test.YtlmhgfgdkenpfaaDoorChE
import Derived.Test.YtlmhgfgdkenpfaaDoorChI
namespace Go.Proofs.YtlmhgfgdkenpfaaDoor
open Go.RowKit Go.Shelf
attribute [local go_sem] Oper.semAt_some

/-- Two rows of the same runs are the same. -/
theorem same39_one (l : List Rn) (hl : l.length ≤ 1048577) (A : Option Addr) (c : Nat) (B : Option Addr) (d : Nat) (w : World) (ha : Rd w A (l.flatMap rnc)) (hb : Rd w B (l.flatMap rnc)) :
    Calls Tryd.prog 9 #[.slice A l.length c, .slice B l.length d] w fun e w' => e = .returned (.bool true) ∧ ∃ n, w.drewN n = w' := by
  have Ha := Lib.hid ha; have Hb := Lib.hid hb
  clear ha hb
  go_enter Tryd.func9, Tryd.ntmps9
  go_wp2
  go_loopw [13] (fun i wr => ∃ k : Nat, k ≤ l.length ∧ i = .int .i64 k ∧ ∃ n, wr = w.drewN n) (fun i _ => l.length - (intOf i).toNat)
  case atStart => exact ⟨0, by omega, rfl, 0, rfl⟩
  case round =>
    obtain ⟨k, hk, rfl, n, rfl⟩ := hrel
    by_cases hlt : k < l.length
    · obtain ⟨a, x, rfl, hx, g0, g1, g2, g3⟩ := Ha.out.rnAt hlt
      obtain ⟨b, y, rfl, hy, q0, q1, q2, q3⟩ := Hb.out.rnAt hlt
      obtain rfl : x = y := hx.symm.trans hy
      clear hx hy
      obtain ⟨x0, x1, x2, x3⟩ := x
      dsimp only at *
      go_wp2
      go_quiet (fail)
      go_wp2
      go_roundw
      case rel => exact ⟨k + 1, by omega, by go_num, _, rfl⟩
      case measure => simp [intOf]; omega
    · obtain rfl : k = l.length := by omega
      go_wp2
      go_ret
      exact ⟨rfl, n, rfl⟩
end Go.Proofs.YtlmhgfgdkenpfaaDoor

/- Packages solve and vergeref25: the walks of Solve, and of vergeref25.Steps. Conditions: lists that read. -/
import Derived.Test.YtgampofpabllbaaGreatRtIP
namespace Go.Proofs.YtgampofpabllbaaGreat
open Go.RowKit Go.Shelf

theorem solve_any (base : Int) (l : List Ld) (limit : Int) (hl : l.length ≤ 1048576) (A : Option Addr) (c : Nat) (w : World) (hr : Rd w A (l.flatMap ldc)) :
    Calls Tryz.prog 92 #[.int .i64 base, .slice A l.length c, .int .i64 limit] w (RetN (if (stepsY base l limit).2 = 0 then (stepsY base l limit).1 else 0) (stepsY base l limit).2 w) := by
  have f1 := Lib.hid (steps_walk base l limit hl A c w hr)
  clear hr
  generalize stepsY base l limit = R at *
  obtain ⟨r, y⟩ := R
  dsimp only
  generalize hP : (if y = 0 then r else 0) = P
  have HP := Lib.hid hP
  clear hP
  go_enter Tryz.func92, Tryz.ntmps92
  go_wp2_with fail
  refine f1.out.mono ?_
  rintro e W ⟨A1, c1, xs, rfl, hx, hx2, hrd, hb⟩
  have HB := Lib.hid hb; have Hx := Lib.hid hx; have HR := Lib.hid hrd
  clear hb hx hrd f1
  dsimp only at Hx ⊢
  by_cases hy0 : y = 0
  · subst hy0
    rw [if_pos rfl] at HP
    obtain ⟨h1, h2⟩ := Hx.out (by first | rfl | trivial)
    obtain ⟨a, rfl, hc⟩ := HR.out.int (i := xs.length - 1) (by omega)
    rw [h2, HP.out] at hc
    clear h2
    go_wp2
    go_ret2
    exact ⟨rfl, HB.out⟩
  · rw [if_neg hy0] at HP
    obtain rfl := HP.out
    have hy1 : (y != 0) = true := by simpa using hy0
    clear Hx hy0
    go_wp2
    go_ret2
    exact ⟨rfl, HB.out⟩
end Go.Proofs.YtgampofpabllbaaGreat

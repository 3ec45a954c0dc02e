/- vergelaw35: the walks of HyperNumbers and HyperTimes. Conditions: lists that read; the de Bruijn table as its initialiser lays it. -/
import Derived.Test.YtpdanmdpaanafaaDoorHypI
namespace Go.Proofs.YtpdanmdpaanafaaDoor
open Go.RowKit Go.Shelf

set_option maxHeartbeats 2000000 in
theorem numbers_any (a b : Int) (l : List Int) (hl : l.length ≤ 1048576) (A : Option Addr) (c : Nat) (w : World) (hr : Rd w A (l.map (.int .i64))) (hT : Tab w) :
    Calls Tryd.prog 3 #[.int .i64 a, .int .i64 b, .slice A l.length c] w fun e w' => e = .returned (.bool true) ∧ Below w.heap.size w w' := by
  have f0 := Lib.hid (fun w hT => lives_any w hT)
  have g1 := Lib.hid (fun w hT => gcd_any a b w hT)
  have g2 := Lib.hid (fun w => gcd35_any a b w)
  have l1 := Lib.hid (fun w hr hT => lcm_any l hl A c w hr hT)
  have l2 := Lib.hid (fun w hr => lcm35_any l hl A c w hr)
  have HT := Lib.hid hT
  have Hr := Lib.hid hr
  clear hT hr
  generalize gcdOf a b = G at *
  generalize lcmOf l = L at *
  obtain ⟨G1, G2⟩ := G
  obtain ⟨L1, L2⟩ := L
  unfold RetT at *
  by_cases hb : 500 < l.length
  · have hb' : (500 : Int) < l.length := by omega
    go_enter Tryd.func3, Tryd.ntmps3
    go_wp2_with (go_at_call 7; refine (f0.out _ HT.out).mono ?_; rintro e w' ⟨rfl, hb⟩)
    go_ret
    exact ⟨rfl, by assumption⟩
  · have hb' : ¬ (500 : Int) < l.length := by omega
    go_enter Tryd.func3, Tryd.ntmps3
    go_wp2_with (first | (go_at_call 8; refine (g1.out _ HT.out).mono ?_; rintro e w' ⟨rfl, rfl⟩) | (go_at_call 9; refine (g2.out _).mono ?_; rintro e w' ⟨rfl, rfl⟩) | (go_at_call 10; refine (l1.out _ Hr.out HT.out).mono ?_; rintro e w' ⟨rfl, rfl⟩) | (go_at_call 11; refine (l2.out _ Hr.out).mono ?_; rintro e w' ⟨rfl, rfl⟩) | (go_at_call 7; refine (f0.out _ HT.out).mono ?_; rintro e w' ⟨rfl, hb⟩))
    go_ret
    exact ⟨rfl, by assumption⟩
end Go.Proofs.YtpdanmdpaanafaaDoor

/- Packages conform, curve and vergeref33: the walks of Dense. Conditions: lists that read. -/
import Derived.Test.YtpdanmdpaanafaaConF
import Derived.Test.YtpdanmdpaanafaaWhyP
namespace Go.Proofs.Ytpdanmdpaanafaa
open Go.RowKit Go.Shelf

def crv (p j a : Int) : Value := .agg #[.int .i64 p, .int .i64 j, .int .i64 a]
theorem curve_check1 (p : Int) (h : 1 ≤ p ∧ p ≤ 1099511627776) (w : World) : Calls Try.prog 77 #[crv p 0 p] w fun e w' => e = .returned (.int .i64 0) ∧ Below w.heap.size w w' := by
  obtain ⟨h1, h2⟩ := h
  unfold crv
  go_enter Try.func77, Try.ntmps77
  go_wp2
  go_ret
  exact ⟨rfl, (Below.refl _ _).alloc (Nat.le_refl _) _⟩
theorem curve_gap1 (p : Int) (h : 1 ≤ p ∧ p ≤ 1099511627776) (w : World) : Calls Try.prog 78 #[crv p 0 p, .int .i64 2] w fun e w' => e = .returned (.int .i64 p) ∧ Below w.heap.size w w' := by
  obtain ⟨h1, h2⟩ := h
  unfold crv
  go_enter Try.func78, Try.ntmps78
  go_wp2
  go_ret
  exact ⟨by simp, (Below.refl _ _).alloc (Nat.le_refl _) _⟩
theorem gap_two (p : Int) (h : 1 ≤ p ∧ p ≤ 1099511627776) (w : World) : Calls Try.prog 52 #[crv p 0 p, .int .i64 2] w fun e w' => e = .returned (.tuple #[.int .i64 p, .int .i64 0]) ∧ Below w.heap.size w w' := by
  have f1 := Lib.hid (fun w => curve_check1 p h w)
  have f2 := Lib.hid (fun w => curve_gap1 p h w)
  clear h
  unfold crv at *
  go_enter Try.func52, Try.ntmps52
  go_wp2_with fail
  refine (f1.out _).mono ?_
  rintro e w2 ⟨rfl, hb⟩
  have HX := Lib.hid (box_keep (heap_alloc_new w (.cells #[.int .i64 p, .int .i64 0, .int .i64 p] 141)) hb)
  have HB := Lib.hid (((Below.refl w.heap.size w).alloc (Nat.le_refl _) _).trans (hb.mono (by simp)))
  clear hb
  obtain ⟨hx, hy⟩ := box_rules HX.out
  go_wp2_with fail
  refine (f2.out _).mono ?_
  rintro e w3 ⟨rfl, hb⟩
  have HB3 := Lib.hid (HB.out.trans (hb.mono HB.out.size))
  clear hb
  go_wp2
  go_ret2
  exact ⟨rfl, HB3.out⟩
end Go.Proofs.Ytpdanmdpaanafaa

/- vergeref05.Same and vergeref06.Same of two that are one; vergeref06.Next. Conditions: lists that read. -/
import Derived.Test.YtbhjkfeonhddlaaDoorRefJ
namespace Go.Proofs.YtbhjkfeonhddlaaDoor
open Go.RowKit Go.Shelf

set_option maxHeartbeats 2000000 in
theorem same_eq (A : Option Addr) (c : Nat) (B : Option Addr) (c' : Nat) (xs : List Int) (w : World) (hl : xs.length ≤ 549755813888) (h1 : Rd w A (xs.map (.int .i64))) (h2 : Rd w B (xs.map (.int .i64))) :
    Calls Tryd.prog 20 #[.slice A xs.length c, .slice B xs.length c'] w fun e w' => e = .returned (.bool true) ∧ ∃ k, w.drewN k = w' := by
  have H1 := Lib.hid h1; clear h1
  have H2 := Lib.hid h2; clear h2
  go_enter Tryd.func20, Tryd.ntmps20
  go_wp2
  go_loopw [5, 13] (fun _ i wr => ∃ k n : Nat, k ≤ xs.length ∧ i = .int .i64 k ∧ wr = w.drewN n) (fun _ i _ => xs.length - (intOf i).toNat)
  case atStart => exact ⟨0, 0, by omega, rfl, rfl⟩
  case round =>
    obtain ⟨k, n, hk, rfl, rfl⟩ := hrel
    by_cases hlt : k < xs.length
    · obtain ⟨a, ha, g1⟩ := H1.out.int hlt
      obtain ⟨b, hb, g2⟩ := H2.out.int hlt
      subst ha hb
      generalize xs.getD k 0 = x at *
      go_wp2
      go_big_quiet (fail)
      go_wp2
      go_roundw
      case rel => exact ⟨k + 1, _, by omega, by go_num, rfl⟩
      case measure => simp [intOf]; omega
    · obtain rfl : k = xs.length := by omega
      go_wp2
      go_ret
      exact ⟨rfl, n, rfl⟩

set_option maxHeartbeats 2000000 in
theorem sameC_eq (d : IC) (hf : d.Fits) (pA : Option Addr) (pc : Nat) (sA : Option Addr) (sc : Nat) (pB : Option Addr) (pd : Nat) (sB : Option Addr) (sd : Nat) (w : World) (hp : Rd w pA (d.prio.map (.int .i64))) (hs : Rd w sA (d.stack.map (.int .i64)))
    (hp2 : Rd w pB (d.prio.map (.int .i64))) (hs2 : Rd w sB (d.stack.map (.int .i64))) :
    Calls Tryd.prog 17 #[icv d pA pc sA sc, icv d pB pd sB sd] w fun e w' => e = .returned (.bool true) ∧ Below w.heap.size w w' := by
  have f1 := Lib.hid (fun w h1 h2 => same_eq pA pc pB pd d.prio w hf.prio h1 h2)
  have f2 := Lib.hid (fun w h1 h2 => same_eq sA sc sB sd d.stack w hf.stack h1 h2)
  have Hp := Lib.hid hp; clear hp
  have Hs := Lib.hid hs; clear hs
  have Hp2 := Lib.hid hp2; clear hp2
  have Hs2 := Lib.hid hs2; clear hs2
  unfold icv
  go_enter Tryd.func17, Tryd.ntmps17
  go_wp2_with fail
  refine (f1.out _ ((Hp.out.alloc _).alloc _) ((Hp2.out.alloc _).alloc _)).mono ?_
  rintro e w' ⟨rfl, k, rfl⟩
  go_wp2_with fail
  refine (f2.out _ (((Hs.out.alloc _).alloc _).drewN k) (((Hs2.out.alloc _).alloc _).drewN k)).mono ?_
  rintro e w' ⟨rfl, k2, rfl⟩
  go_wp2_with fail
  go_ret
  refine ⟨rfl, ?_⟩
  repeat (first | (with_reducible exact Below.refl _ _) | (with_reducible refine Below.drew ?_) | (with_reducible refine bdrewN ?_ _) | ((with_reducible refine Below.alloc ?_ ?_ _); rotate_left 1; focus (first | omega | (simp; done) | (simp; omega))))
end Go.Proofs.YtbhjkfeonhddlaaDoor

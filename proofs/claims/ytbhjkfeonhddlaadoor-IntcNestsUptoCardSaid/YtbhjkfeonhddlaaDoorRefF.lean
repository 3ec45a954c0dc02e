/- vergeref06: the walk of Level. Conditions: lists that read. -/
import Derived.Test.YtbhjkfeonhddlaaDoorRefE
namespace Go.Proofs.YtbhjkfeonhddlaaDoor
open Go.RowKit Go.Shelf

set_option maxHeartbeats 2000000 in
theorem rlevelC_any (d : IC) (hf : d.Fits) (pA : Option Addr) (pc : Nat) (sA : Option Addr) (sc : Nat) (w : World) (hp : Rd w pA (d.prio.map (.int .i64))) (hs : Rd w sA (d.stack.map (.int .i64))) :
    Calls Tryd.prog 9 #[icv d pA pc sA sc] w (RetN (d.num (d.level, 0)) w) := by
  have f1 := Lib.hid (fun w hp hs => rcheck_any d hf pA pc sA sc w hp hs)
  have Hp := Lib.hid hp; clear hp
  have Hs := Lib.hid hs; clear hs
  by_cases hk : d.ok
  · have f2 := Lib.hid (fun w hp hs => rlevel_any d hf hk pA pc sA sc w hp hs)
    have HR := Lib.hid (IC.num_ok hk (d.level, 0))
    unfold icv at *
    go_enter Tryd.func9, Tryd.ntmps9
    go_wp2_with fail
    refine (f1.out _ (Hp.out.alloc _) (Hs.out.alloc _)).mono ?_
    rintro e w1 ⟨⟨z, rfl, hz⟩, hb⟩
    obtain rfl : z = 0 := by rcases hz with ⟨_, h⟩ | ⟨h, _⟩; exact h; exact absurd hk h
    have HX := Lib.hid (box_new hb)
    obtain ⟨xd, yd⟩ := box_rules HX.out
    have ld := box_lt HX.out
    have HB := Lib.hid (((Below.refl w.heap.size w).alloc (Nat.le_refl _) _).trans (hb.mono (by simp)))
    clear hz hb hk
    go_wp2_with fail
    refine (f2.out _ (Hp.out.below HB.out) (Hs.out.below HB.out)).mono ?_
    rintro e w2 ⟨rfl, hb2⟩
    have HB2 := Lib.hid (HB.out.trans (hb2.mono HB.out.size))
    clear hb2
    go_wp2_with fail
    go_ret2
    rw [HR.out]
    exact ⟨rfl, HB2.out⟩
  · have HR := Lib.hid (IC.num_bad hk (d.level, 0))
    unfold icv at *
    go_enter Tryd.func9, Tryd.ntmps9
    go_wp2_with fail
    refine (f1.out _ (Hp.out.alloc _) (Hs.out.alloc _)).mono ?_
    rintro e w1 ⟨⟨z, rfl, hz⟩, hb⟩
    obtain rfl : z = 2 := by rcases hz with ⟨h, _⟩ | ⟨_, h⟩; exact absurd h hk; exact h
    have HB := Lib.hid (((Below.refl w.heap.size w).alloc (Nat.le_refl _) _).trans (hb.mono (by simp)))
    clear hz hb hk
    go_wp2_with fail
    go_ret2
    rw [HR.out]
    exact ⟨rfl, HB.out⟩
end Go.Proofs.YtbhjkfeonhddlaaDoor

/- vergeref06: the walk of bad. Conditions: lists that read. -/
import Derived.Test.YtbhjkfeonhddlaaDoorRefF
namespace Go.Proofs.YtbhjkfeonhddlaaDoor
open Go.RowKit Go.Shelf

/-- A right controller's copy, in memory of its own, and why. -/
def BadPost (d : IC) (line : Int) (w : World) (e : Ending) (w' : World) : Prop :=
  ∃ pA pc sA sc, e = .returned (.tuple #[icv d pA pc sA sc, .int .i64 (lineErr d.prio.length line)]) ∧ Mem w' w.heap.size d pA pc sA sc ∧ Below w.heap.size w w'

section
variable (d : IC) (hf : d.Fits) (pA : Option Addr) (pc : Nat) (sA : Option Addr) (sc : Nat) (line : Int) (w : World) (hp : Rd w pA (d.prio.map (.int .i64))) (hs : Rd w sA (d.stack.map (.int .i64)))
include hf hp hs

set_option maxHeartbeats 2000000 in
theorem bad_bad (hk : ¬ d.ok) : Calls Tryd.prog 39 #[icv d pA pc sA sc, .int .i64 line] w fun e w' => e = .returned (.tuple #[icv IC.zero none 0 none 0, .int .i64 2]) ∧ Below w.heap.size w w' := by
  have f1 := Lib.hid (fun w hp hs => rcheck_any d hf pA pc sA sc w hp hs)
  have Hp := Lib.hid hp; clear hp
  have Hs := Lib.hid hs; clear hs
  unfold icv at *
  go_enter Tryd.func39, Tryd.ntmps39
  go_wp2_with fail
  refine (f1.out _ ((Hp.out.alloc _).alloc _) ((Hs.out.alloc _).alloc _)).mono ?_
  rintro e w1 ⟨⟨z, rfl, hz⟩, hb⟩
  obtain rfl : z = 2 := by rcases hz with ⟨h, _⟩ | ⟨_, h⟩; exact absurd h hk; exact h
  have HXr := Lib.hid (box_new hb)
  obtain ⟨xr, yr⟩ := box_rules HXr.out
  have lr := box_lt HXr.out
  rw [World.size_alloc] at xr yr lr
  have HB := Lib.hid ((((Below.refl w.heap.size w).alloc (Nat.le_refl _) _).alloc (by simp) _).trans (hb.mono (by simp; omega)))
  clear hz hb hk HXr
  go_wp2_with fail
  refine bodyPost_ret (v := .tuple #[icv IC.zero none 0 none 0, .int .i64 2]) (by simp [results, icv, IC.zero, Tryd.f39, go_sem, xr]) rfl ?_
  have bR : w.heap.size ≤ w.heap.size + 1 := Nat.le_succ _
  refine ⟨rfl, ?_⟩
  repeat (with_reducible first | refine Below.setCell ?_ bR _ | exact HB.out)

set_option maxHeartbeats 2000000 in
theorem bad_good (hk : d.ok) : Calls Tryd.prog 39 #[icv d pA pc sA sc, .int .i64 line] w (BadPost d line w) := by
  have f1 := Lib.hid (fun w hp hs => rcheck_any d hf pA pc sA sc w hp hs)
  have f2 := Lib.hid (fun w hp hs => copy_any d hf pA pc sA sc w hp hs)
  have Hp := Lib.hid hp; clear hp
  have Hs := Lib.hid hs; clear hs
  unfold icv at *
  go_enter Tryd.func39, Tryd.ntmps39
  go_wp2_with fail
  refine (f1.out _ ((Hp.out.alloc _).alloc _) ((Hs.out.alloc _).alloc _)).mono ?_
  rintro e w1 ⟨⟨z, rfl, hz⟩, hb⟩
  obtain rfl : z = 0 := by rcases hz with ⟨_, h⟩ | ⟨h, _⟩; exact h; exact absurd hk h
  have HXr := Lib.hid (box_new hb)
  obtain ⟨xr, yr⟩ := box_rules HXr.out
  have lr := box_lt HXr.out
  have HXd := Lib.hid (box_keep (box_alloc (heap_alloc_new w _) _) hb)
  obtain ⟨xd, yd⟩ := box_rules HXd.out
  have ld := box_lt HXd.out
  rw [World.size_alloc] at xr yr lr
  have HB := Lib.hid ((((Below.refl w.heap.size w).alloc (Nat.le_refl _) _).alloc (by simp) _).trans (hb.mono (by simp; omega)))
  have s1 := HB.out.size
  clear hz hb hk
  have bR : w.heap.size ≤ w.heap.size + 1 := Nat.le_succ _
  have f3 := Lib.hid (f2.out w1 (Hp.out.below HB.out) (Hs.out.below HB.out))
  go_wp2_with (go_at_call 7; refine f3.out.mono ?_; rintro e w2 ⟨qA, qc, tA, tc, rfl, hM, hb2⟩; have HM := Lib.hid hM; have HB2 := Lib.hid (HB.out.trans (hb2.mono s1)); have HXr2 := Lib.hid (box_keep HXr.out hb2); obtain ⟨xr2, yr2⟩ := box_rules HXr2.out; rw [World.size_alloc] at xr2 yr2; have lr2 := box_lt HXr2.out; rw [World.size_alloc] at lr2; unfold icv; clear hM hb2)
  all_goals
    first
      | (have hle : lineErr d.prio.length line = 0 := by unfold lineErr; rw [if_pos ⟨by omega, by omega⟩]
         have q1 : ∀ a, qA = some a → a.block ≠ w.heap.size + 1 := fun a ha e => by have := (own_block HM.out.prio ha).1; omega
         have q2 : ∀ a, tA = some a → a.block ≠ w.heap.size + 1 := fun a ha e => by have := (own_block HM.out.stack ha).1; omega
         refine bodyPost_ret (v := .tuple #[icv d qA qc tA tc, .int .i64 0]) (by simp [results, icv, Tryd.f39, go_sem, xr2]) rfl ?_
         refine ⟨qA, qc, tA, tc, by rw [hle], ⟨?_, ?_, HM.out.apart⟩, ?_⟩
         · refine own_mono (base := w1.heap.size) ?_ s1
           repeat (with_reducible first | refine own_set ?_ q1 _ | exact HM.out.prio)
         · refine own_mono (base := w1.heap.size) ?_ s1
           repeat (with_reducible first | refine own_set ?_ q2 _ | exact HM.out.stack)
         · repeat (with_reducible first | refine Below.setCell ?_ bR _ | exact HB2.out))
      | (have hle : lineErr d.prio.length line = 1 := by unfold lineErr; rw [if_neg (by omega)]
         have q1 : ∀ a, qA = some a → a.block ≠ w.heap.size + 1 := fun a ha e => by have := (own_block HM.out.prio ha).1; omega
         have q2 : ∀ a, tA = some a → a.block ≠ w.heap.size + 1 := fun a ha e => by have := (own_block HM.out.stack ha).1; omega
         refine bodyPost_ret (v := .tuple #[icv d qA qc tA tc, .int .i64 1]) (by simp [results, icv, Tryd.f39, go_sem, xr2]) rfl ?_
         refine ⟨qA, qc, tA, tc, by rw [hle], ⟨?_, ?_, HM.out.apart⟩, ?_⟩
         · refine own_mono (base := w1.heap.size) ?_ s1
           repeat (with_reducible first | refine own_set ?_ q1 _ | exact HM.out.prio)
         · refine own_mono (base := w1.heap.size) ?_ s1
           repeat (with_reducible first | refine own_set ?_ q2 _ | exact HM.out.stack)
         · repeat (with_reducible first | refine Below.setCell ?_ bR _ | exact HB2.out))
end
end Go.Proofs.YtbhjkfeonhddlaaDoor

/- Package intc: the walks of open and of the desk's methods. -/
import Derived.Test.YtbhjkfeonhddlaaDoorIntcB
namespace Go.Proofs.YtbhjkfeonhddlaaDoor
open Go.RowKit

/-- A desk at block D: its numbers, and slices of its own from 'base' on. -/
structure Desk (w : World) (base D : Nat) (d : IC) (pA : Option Addr) (pc : Nat) (sA : Option Addr) (sc : Nat) : Prop where
  lo : base ≤ D
  blk : w.heap[D]? = some (.cells #[.int .u64 d.p, .int .u64 d.e, .int .u64 d.r, .int .u64 d.g, .slice pA d.prio.length pc, .int .i64 d.t, .slice sA d.stack.length sc] 57 (0, 0))
  prio : w.ownsRow base 3 1 (.slice pA d.prio.length pc) d.prio.length (d.prio.map (.int .i64))
  stack : w.ownsRow base 3 1 (.slice sA d.stack.length sc) d.stack.length (d.stack.map (.int .i64))
  apart : ∀ a b, pA = some a → sA = some b → a.block ≠ b.block

theorem open_bad (d : IC) (hf : d.Fits) (hk : ¬ d.ok) (pA : Option Addr) (pc : Nat) (sA : Option Addr) (sc : Nat) (line : Int) (w : World) (hp : Rd w pA (d.prio.map (.int .i64))) (hs : Rd w sA (d.stack.map (.int .i64))) :
    Calls Tryd.prog 33 #[icv d pA pc sA sc, .int .i64 line] w fun e w' => ∃ D, e = .returned (.tuple #[.pointer (some ⟨D, 0, none⟩), .int .i64 2]) ∧ w.heap.size ≤ D ∧ w'.heap[D]? = some (.cells #[.int .u64 0, .int .u64 0, .int .u64 0, .int .u64 0, .slice none 0 0, .int .i64 0, .slice none 0 0] 57 (0, 0)) ∧ Below w.heap.size w w' := by
  have f1 := Lib.hid (fun w hp hs => check_any d hf pA pc sA sc w hp hs)
  have Hp := Lib.hid hp; clear hp
  have Hs := Lib.hid hs; clear hs
  unfold icv at *
  go_enter Tryd.func33, Tryd.ntmps33
  go_wp2_with fail
  refine (f1.out _ (Hp.out.alloc _) (Hs.out.alloc _)).mono ?_
  rintro e w1 ⟨⟨z, rfl, hz⟩, hb⟩
  obtain rfl : z = 2 := by rcases hz with ⟨h, _⟩ | ⟨_, h⟩; exact absurd h hk; exact h
  clear hz
  have hz1 := hb.size
  simp at hz1
  go_wp2_with fail
  go_ret2
  exact ⟨w1.heap.size, rfl, by omega, heap_alloc_new w1 _, (((Below.refl _ _).alloc (Nat.le_refl _) _).trans (hb.mono (by simp))).alloc (by omega) _⟩

def lineErr (n : Nat) (line : Int) : Int := if 0 ≤ line ∧ line < n then 0 else 1
def OpenPost (d : IC) (line : Int) (w : World) (e : Ending) (w' : World) : Prop :=
  ∃ D pA pc sA sc, e = .returned (.tuple #[.pointer (some ⟨D, 0, none⟩), .int .i64 (lineErr d.prio.length line)]) ∧ Desk w' w.heap.size D d pA pc sA sc ∧ Below w.heap.size w w'

theorem open_fin {w w1 w2 w3 : World} {d : IC} {A2 A3 : Option Addr} {c2 c3 : Nat} (hB1 : Below w.heap.size w w1) (l1 : w.heap.size < w1.heap.size) (hb2 : Below w1.heap.size w1 w2) (hb3 : Below w2.heap.size w2 w3)
    (ho2 : w2.ownsRow w1.heap.size 3 1 (.slice A2 d.prio.length c2) d.prio.length (d.prio.map (.int .i64))) (ho3 : w3.ownsRow w2.heap.size 3 1 (.slice A3 d.stack.length c3) d.stack.length (d.stack.map (.int .i64))) (v1 v2 : Value) :
    Desk (((w3.setCell ⟨w.heap.size, 4, none⟩ v1).setCell ⟨w.heap.size, 6, none⟩ v2).alloc (.cells #[.int .u64 d.p, .int .u64 d.e, .int .u64 d.r, .int .u64 d.g, .slice A2 d.prio.length c2, .int .i64 d.t, .slice A3 d.stack.length c3] 57)) w.heap.size w3.heap.size d A2 c2 A3 c3 ∧
    Below w.heap.size w (((w3.setCell ⟨w.heap.size, 4, none⟩ v1).setCell ⟨w.heap.size, 6, none⟩ v2).alloc (.cells #[.int .u64 d.p, .int .u64 d.e, .int .u64 d.r, .int .u64 d.g, .slice A2 d.prio.length c2, .int .i64 d.t, .slice A3 d.stack.length c3] 57)) := by
  have s2 := hb2.size
  have s3 := hb3.size
  have hB3 : Below w.heap.size w w3 := hB1.trans ((hb2.mono (by omega)).trans (hb3.mono (by omega)))
  have hsz : ((w3.setCell ⟨w.heap.size, 4, none⟩ v1).setCell ⟨w.heap.size, 6, none⟩ v2).heap.size = w3.heap.size := by simp [World.setCell]
  refine ⟨⟨by omega, ?_, ?_, ?_, ?_⟩, ((hB3.setCell (p := ⟨w.heap.size, 4, none⟩) (Nat.le_refl _) _).setCell (p := ⟨w.heap.size, 6, none⟩) (Nat.le_refl _) _).alloc (by rw [hsz]; omega) _⟩
  · have h := heap_alloc_new ((w3.setCell ⟨w.heap.size, 4, none⟩ v1).setCell ⟨w.heap.size, 6, none⟩ v2) (.cells #[.int .u64 d.p, .int .u64 d.e, .int .u64 d.r, .int .u64 d.g, .slice A2 d.prio.length c2, .int .i64 d.t, .slice A3 d.stack.length c3] 57)
    rwa [hsz] at h
  · exact own_mono ((ownsRow_setCell_below (a := ⟨w.heap.size, 6, none⟩) (ownsRow_setCell_below (a := ⟨w.heap.size, 4, none⟩) (own_below ho2 hb3) l1 _) l1 _).alloc _) (by omega)
  · exact own_mono ((ownsRow_setCell_below (a := ⟨w.heap.size, 6, none⟩) (ownsRow_setCell_below (a := ⟨w.heap.size, 4, none⟩) ho3 (by show w.heap.size < _; omega) _) (by show w.heap.size < _; omega) _).alloc _) (by omega)
  · rintro a b rfl rfl e
    have h1 := (ho2.lt a.block (by rcases ho2.2 with ⟨h, _⟩ | ⟨g, cap, cur, h, _⟩ <;> (injection h with h h'; cases h; try rfl))).2
    rcases ho3.2 with ⟨h, _⟩ | ⟨g, cap, cur, h, hg, _⟩
    · injection h with h; cases h
    · injection h with h
      cases h
      change a.block = g at e
      omega

set_option maxHeartbeats 1000000 in
theorem open_good (d : IC) (hf : d.Fits) (hk : d.ok) (pA : Option Addr) (pc : Nat) (sA : Option Addr) (sc : Nat) (line : Int) (w : World) (hp : Rd w pA (d.prio.map (.int .i64))) (hs : Rd w sA (d.stack.map (.int .i64))) :
    Calls Tryd.prog 33 #[icv d pA pc sA sc, .int .i64 line] w (OpenPost d line w) := by
  have f1 := Lib.hid (fun w hp hs => check_any d hf pA pc sA sc w hp hs)
  have f2 := Lib.hid (fun w hp => clone_any pA d.prio pc w hf.prio hp)
  have f3 := Lib.hid (fun w hp => clone_any sA d.stack sc w hf.stack hp)
  have Hp := Lib.hid hp; clear hp
  have Hs := Lib.hid hs; clear hs
  unfold icv at *
  go_enter Tryd.func33, Tryd.ntmps33
  go_wp2_with fail
  refine (f1.out _ (Hp.out.alloc _) (Hs.out.alloc _)).mono ?_
  rintro e w1 ⟨⟨z, rfl, hz⟩, hb⟩
  obtain rfl : z = 0 := by rcases hz with ⟨_, h⟩ | ⟨h, _⟩; exact h; exact absurd hk h
  clear hz
  have HX1 := Lib.hid (box_new hb)
  obtain ⟨x1, y1⟩ := box_rules HX1.out
  have l1 := box_lt HX1.out
  have hz1 := hb.size
  simp at hz1
  have hB1 : Below w.heap.size w w1 := ((Below.refl _ _).alloc (Nat.le_refl _) _).trans (hb.mono (by simp))
  have Hp1 := Lib.hid (Hp.out.below hB1)
  have Hs1 := Lib.hid (Hs.out.below hB1)
  go_wp2_with fail
  clear hb
  have HF := Lib.hid (fun w2 w3 A2 A3 c2 c3 hb2 hb3 ho2 ho3 v1 v2 => open_fin (w := w) (w1 := w1) (w2 := w2) (w3 := w3) (d := d) (A2 := A2) (A3 := A3) (c2 := c2) (c3 := c3) hB1 l1 hb2 hb3 ho2 ho3 v1 v2)
  go_region_with (first
    | (go_at_call_of 42 pA; refine (f2.out _ ?_).mono ?_; exact Hp1.out; rintro e w2 ⟨A2, c2, rfl, ho2, hb2'⟩; have hb2 := undrew hb2'; have HX2 := Lib.hid (box_keep HX1.out hb2); obtain ⟨x2, y2⟩ := box_rules HX2.out; have l2 := box_lt HX2.out)
    | (go_at_call_of 42 sA; refine (f3.out _ ?_).mono ?_; exact Hs1.out.below hb2; rintro e w3 ⟨A3, c3, rfl, ho3, hb3⟩; have HX3 := Lib.hid (box_keep HX2.out hb3); obtain ⟨x3, y3⟩ := box_rules HX3.out; have l3 := box_lt HX3.out))
  all_goals go_wp2_with fail
  all_goals
    go_ret2
    refine ⟨w3.heap.size, A2, c2, A3, c3, ?_, HF.out w2 w3 A2 A3 c2 c3 hb2 hb3 ho2 ho3 _ _⟩
    unfold lineErr
    first | (rw [if_pos (by assumption)]; rfl) | (rw [if_neg (by omega)]; rfl)
end Go.Proofs.YtbhjkfeonhddlaaDoor

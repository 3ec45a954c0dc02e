/- vergeref06: the walk of Copy. Conditions: lists that read. -/
import Derived.Test.YtbhjkfeonhddlaaDoorRefB
namespace Go.Proofs.YtbhjkfeonhddlaaDoor
open Go.RowKit Go.Shelf

/-- A controller's two lists lie in memory of their own. -/
structure Mem (w : World) (base : Nat) (d : IC) (pA : Option Addr) (pc : Nat) (sA : Option Addr) (sc : Nat) : Prop where
  prio : w.ownsRow base 3 1 (.slice pA d.prio.length pc) d.prio.length (d.prio.map (.int .i64))
  stack : w.ownsRow base 3 1 (.slice sA d.stack.length sc) d.stack.length (d.stack.map (.int .i64))
  apart : ∀ a b, pA = some a → sA = some b → a.block ≠ b.block
def RetM (d : IC) (w : World) (e : Ending) (w' : World) : Prop :=
  ∃ pA pc sA sc, e = .returned (icv d pA pc sA sc) ∧ Mem w' w.heap.size d pA pc sA sc ∧ Below w.heap.size w w'

theorem own_empty_at (w : World) (e : TypeId) {n : Nat} (h : w.heap.size = n) : (w.alloc (.cells #[] e)).ownsRow n e 1 (.slice (some ⟨n, 0, none⟩) 0 0) 0 [] := by
  subst h; exact own_empty w e (Nat.le_refl _)

set_option maxHeartbeats 2000000 in
theorem copy_any (d : IC) (hf : d.Fits) (pA : Option Addr) (pc : Nat) (sA : Option Addr) (sc : Nat) (w : World) (hp : Rd w pA (d.prio.map (.int .i64))) (hs : Rd w sA (d.stack.map (.int .i64))) :
    Calls Tryd.prog 7 #[icv d pA pc sA sc] w (RetM d w) := by
  have Hp := Lib.hid hp; clear hp
  have Hs := Lib.hid hs; clear hs
  have hpl := hf.prio
  have hsl := hf.stack
  unfold icv at *
  go_enter Tryd.func7, Tryd.ntmps7
  go_wp2_with (first
    | (at_builtin; refine wp_appN rfl _ _ sl_int (by decide) rfl (own_empty_at _ _ (n := w.heap.size + 1 + 1) (by simp)) rfl (by simp) pA pc (d.prio.map (.int .i64)) (by rw [List.length_map]; rfl) (((Hp.out.alloc _).alloc _).alloc _) (ints_one _) (by rw [List.length_map]; omega) ?_; intro A1 c1 w1 ho1 hb1; rw [List.length_map, Nat.zero_add, List.nil_append] at ho1; rw [List.length_map, Nat.zero_add]; have HX1 := Lib.hid ((hb1.block w.heap.size (by omega)).trans (box_alloc (box_alloc (heap_alloc_new w _) _) _)); have HR1 := Lib.hid ((hb1.block (w.heap.size + 1) (by omega)).trans (box_alloc (heap_new_at _ (n := w.heap.size + 1) (by simp)) _)); have HO1 := Lib.hid ho1; have HB1 := Lib.hid (((((Below.refl w.heap.size w).alloc (Nat.le_refl _) _).alloc (by simp) _).alloc (by simp; omega) (.cells #[] 3)).trans (hb1.mono (by omega))); have s1 := HB1.out.size; obtain ⟨x1, y1⟩ := box_rules HX1.out; have l1 := box_lt HX1.out; obtain ⟨r1, t1⟩ := box_rules HR1.out; have m1 := box_lt HR1.out)
    | (at_builtin; refine wp_appN rfl _ _ sl_int (by decide) rfl (own_empty_at _ _ (n := w1.heap.size) (by simp [World.setCell])) rfl (by simp [World.setCell]) sA sc (d.stack.map (.int .i64)) (by rw [List.length_map]; rfl) ((Hs.out.below (HB1.out.setCell (p := ⟨w.heap.size, 4, none⟩) (Nat.le_refl _) _)).alloc _) (ints_one _) (by rw [List.length_map]; omega) ?_; intro A2 c2 w2 ho2 hb2; rw [List.length_map, Nat.zero_add, List.nil_append] at ho2; rw [List.length_map, Nat.zero_add]; have hsz : (w1.setCell ⟨w.heap.size, 4, none⟩ (.slice A1 d.prio.length c1)).heap.size = w1.heap.size := (by simp [World.setCell]); have HBW : Hid (Below w1.heap.size (w1.setCell ⟨w.heap.size, 4, none⟩ (.slice A1 d.prio.length c1)) w2) := ((Below.refl _ _).alloc (Nat.le_of_eq hsz.symm) _).trans hb2; have HX2 : Hid (w2.heap[w.heap.size]? = some (.cells #[.int .u64 d.p, .int .u64 d.e, .int .u64 d.r, .int .u64 d.g, .slice A1 d.prio.length c1, .int .i64 d.t, .slice sA d.stack.length sc] 25 (0, 0))) := (HBW.out.block _ l1).trans (box_set HX1.out _); have HR2 := Lib.hid ((HBW.out.block _ m1).trans (box_far HR1.out (p := ⟨w.heap.size, 4, none⟩) (by show _ ≠ w.heap.size; omega) _)); have HO2 := Lib.hid ho2; have s2 := HBW.out.size; rw [hsz] at s2; obtain ⟨x2, y2⟩ := box_rules HX2.out; have l2 := box_lt HX2.out; obtain ⟨r2, t2⟩ := box_rules HR2.out; have m2 := box_lt HR2.out))
  have b0 : w.heap.size ≤ w.heap.size := Nat.le_refl _
  have b1 : w.heap.size ≤ w.heap.size + 1 := Nat.le_succ _
  have HB2 := Lib.hid ((HB1.out.setCell (p := ⟨w.heap.size, 4, none⟩) b0 (.slice A1 d.prio.length c1)).trans (HBW.out.mono (by omega)))
  have q1 : ∀ a, A1 = some a → a.block ≠ w.heap.size := fun a ha e => by have := (own_block HO1.out ha).1; omega
  have q2 : ∀ a, A1 = some a → a.block ≠ w.heap.size + 1 := fun a ha e => by have := (own_block HO1.out ha).1; omega
  have q3 : ∀ a, A2 = some a → a.block ≠ w.heap.size := fun a ha e => by have := (own_block HO2.out ha).1; omega
  have q4 : ∀ a, A2 = some a → a.block ≠ w.heap.size + 1 := fun a ha e => by have := (own_block HO2.out ha).1; omega
  have HP2 := Lib.hid (own_below (own_set HO1.out (p := ⟨w.heap.size, 4, none⟩) q1 (.slice A1 d.prio.length c1)) (by rw [hsz]; exact HBW.out))
  refine bodyPost_ret (v := icv d A1 c1 A2 c2) (by simp [results, icv, Tryd.f7, go_sem, r2]) rfl ?_
  refine ⟨A1, c1, A2, c2, rfl, ⟨?_, ?_, ?_⟩, ?_⟩
  · refine own_mono (base := w.heap.size + 1 + 1) ?_ (by omega)
    repeat (with_reducible first | refine own_set ?_ q1 _ | refine own_set ?_ q2 _ | exact HP2.out)
  · refine own_mono (base := w1.heap.size) ?_ (by omega)
    repeat (with_reducible first | refine own_set ?_ q3 _ | refine own_set ?_ q4 _ | exact HO2.out)
  · intro a b ha hb e
    have h1 := (HO1.out.lt a.block (by subst ha; rfl)).2
    have h2 := (own_block HO2.out hb).1
    omega
  · repeat (with_reducible first | refine Below.setCell ?_ b0 _ | refine Below.setCell ?_ b1 _ | exact HB2.out)
end Go.Proofs.YtbhjkfeonhddlaaDoor

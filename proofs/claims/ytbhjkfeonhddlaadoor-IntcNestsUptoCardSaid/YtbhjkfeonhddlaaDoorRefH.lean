/- vergeref06: the walk of Enable. Conditions: lists that read. -/
import Derived.Test.YtbhjkfeonhddlaaDoorRefG
namespace Go.Proofs.YtbhjkfeonhddlaaDoor
open Go.RowKit Go.Shelf

/-- A struct of seven cells that was stored whole. -/
theorem box_fill {w : World} {b : Nat} {t : TypeId} {c0 c1 c2 c3 c4 c5 c6 : Value} (h : w.heap[b]? = some (.cells #[c0, c1, c2, c3, c4, c5, c6] t (0, 0))) (v0 v1 v2 v3 v4 v5 v6 : Value) :
    (((((((w.setCell ⟨b, 0, none⟩ v0).setCell ⟨b, 1, none⟩ v1).setCell ⟨b, 2, none⟩ v2).setCell ⟨b, 3, none⟩ v3).setCell ⟨b, 4, none⟩ v4).setCell ⟨b, 5, none⟩ v5).setCell ⟨b, 6, none⟩ v6).heap[b]? = some (.cells #[v0, v1, v2, v3, v4, v5, v6] t (0, 0)) :=
  by
    have h0 := box_set (i := 0) h v0
    simp only [List.setIfInBounds_toArray, List.set_cons_zero, List.set_cons_succ] at h0
    have h1 := box_set (i := 1) h0 v1
    simp only [List.setIfInBounds_toArray, List.set_cons_zero, List.set_cons_succ] at h1
    have h2 := box_set (i := 2) h1 v2
    simp only [List.setIfInBounds_toArray, List.set_cons_zero, List.set_cons_succ] at h2
    have h3 := box_set (i := 3) h2 v3
    simp only [List.setIfInBounds_toArray, List.set_cons_zero, List.set_cons_succ] at h3
    have h4 := box_set (i := 4) h3 v4
    simp only [List.setIfInBounds_toArray, List.set_cons_zero, List.set_cons_succ] at h4
    have h5 := box_set (i := 5) h4 v5
    simp only [List.setIfInBounds_toArray, List.set_cons_zero, List.set_cons_succ] at h5
    have h6 := box_set (i := 6) h5 v6
    simp only [List.setIfInBounds_toArray, List.set_cons_zero, List.set_cons_succ] at h6
    exact h6

section
variable (d : IC) (hf : d.Fits) (pA : Option Addr) (pc : Nat) (sA : Option Addr) (sc : Nat) (line : Int) (w : World) (hp : Rd w pA (d.prio.map (.int .i64))) (hs : Rd w sA (d.stack.map (.int .i64)))
include hf hp hs

set_option maxHeartbeats 2000000 in
theorem renable_any (on : Bool) : Calls Tryd.prog 28 #[icv d pA pc sA sc, .int .i64 line, .bool on] w (RetI (d.on line (d.enableF on)) w) := by
  by_cases hk : d.ok
  · have f1 := Lib.hid (fun w hp hs => bad_good d hf pA pc sA sc line w hp hs hk)
    have Hp := Lib.hid hp; clear hp
    have Hs := Lib.hid hs; clear hs
    by_cases hl : 0 ≤ line ∧ line < d.prio.length
    · obtain ⟨n, rfl⟩ := Int.eq_ofNat_of_zero_le hl.1
      have hn : n < 64 := by have := hk.len2; omega
      have HR := Lib.hid (IC.on_in hk hl.2 (d.enableF on))
      have hle : lineErr d.prio.length (n : Int) = 0 := by unfold lineErr; rw [if_pos hl]
      have Hle := Lib.hid hle; clear hle
      have f2 := Lib.hid (fun w => with_any d.e hf.e n hn on w)
      unfold icv at *
      go_enter Tryd.func28, Tryd.ntmps28
      go_wp2_with fail
      refine (f1.out _ ((Hp.out.alloc _).alloc _) ((Hs.out.alloc _).alloc _)).mono ?_
      rintro e w1 ⟨qA, qc, tA, tc, rfl, hM, hb⟩
      rw [Hle.out]
      unfold icv
      have HXr := Lib.hid (box_new hb)
      obtain ⟨xr, yr⟩ := box_rules HXr.out
      have lr := box_lt HXr.out
      have HXd := Lib.hid (box_keep (box_alloc (heap_alloc_new w _) _) hb)
      obtain ⟨xd, yd⟩ := box_rules HXd.out
      have ld := box_lt HXd.out
      rw [World.size_alloc] at xr yr lr
      have HM := Lib.hid hM
      have HB := Lib.hid ((((Below.refl w.heap.size w).alloc (Nat.le_refl _) _).alloc (by simp) _).trans (hb.mono (by simp; omega)))
      have s1 := HB.out.size
      clear hb hM
      go_wp2_with fail
      refine (f2.out _).mono ?_
      rintro e w2 ⟨rfl, hb2⟩
      have bW : w.heap.size ≤ w.heap.size := Nat.le_refl _
      have bR : w.heap.size ≤ w.heap.size + 1 := Nat.le_succ _
      have HX2 := Lib.hid (box_keep (box_fill HXd.out _ _ _ _ _ _ _) hb2)
      have HR2 := Lib.hid (box_keep (box_far (box_far (box_far (box_far (box_far (box_far (box_far HXr.out (p := ⟨w.heap.size, 0, none⟩) (by simp) _) (p := ⟨w.heap.size, 1, none⟩) (by simp) _) (p := ⟨w.heap.size, 2, none⟩) (by simp) _) (p := ⟨w.heap.size, 3, none⟩) (by simp) _) (p := ⟨w.heap.size, 4, none⟩) (by simp) _) (p := ⟨w.heap.size, 5, none⟩) (by simp) _) (p := ⟨w.heap.size, 6, none⟩) (by simp) _) hb2)
      obtain ⟨x2, y2⟩ := box_rules HX2.out
      obtain ⟨r2, t2⟩ := box_rules HR2.out
      rw [World.size_alloc] at r2 t2
      have q1 : ∀ a, qA = some a → a.block ≠ w.heap.size := fun a ha e => by have := (own_block HM.out.prio ha).1; simp at this; omega
      have q2 : ∀ a, qA = some a → a.block ≠ w.heap.size + 1 := fun a ha e => by have := (own_block HM.out.prio ha).1; simp at this; omega
      have q3 : ∀ a, tA = some a → a.block ≠ w.heap.size := fun a ha e => by have := (own_block HM.out.stack ha).1; simp at this; omega
      have q4 : ∀ a, tA = some a → a.block ≠ w.heap.size + 1 := fun a ha e => by have := (own_block HM.out.stack ha).1; simp at this; omega
      have HP2 : Hid (Rd w2 qA (d.prio.map (.int .i64))) := Rd.below (by repeat (with_reducible first | refine Rd.set ?_ q1 _ | exact own_rd HM.out.prio)) hb2
      have HS2 : Hid (Rd w2 tA (d.stack.map (.int .i64))) := Rd.below (by repeat (with_reducible first | refine Rd.set ?_ q3 _ | exact own_rd HM.out.stack)) hb2
      have HB2 : Hid (Below w.heap.size w w2) := Below.trans (by repeat (with_reducible first | refine Below.setCell ?_ bW _ | exact HB.out)) (hb2.mono (by simp [World.setCell]; omega))
      have Q1 := Lib.hid q1; have Q2 := Lib.hid q2; have Q3 := Lib.hid q3; have Q4 := Lib.hid q4
      clear xd yd xr yr q1 q2 q3 q4
      go_wp2_with fail
      refine bodyPost_ret (v := .tuple #[icv { d with e := setB d.e n on } qA qc tA tc, .int .i64 0]) (by simp [results, icv, Tryd.f28, go_sem, r2]) rfl ?_
      rw [HR.out]
      refine ⟨qA, qc, tA, tc, rfl, ?_, ?_, ?_, ⟨fun a ha => by have := (own_block HM.out.prio ha).1; simp at this; omega, fun a ha => by have := (own_block HM.out.stack ha).1; simp at this; omega⟩⟩
      · show Rd _ _ (d.prio.map (.int .i64))
        repeat (with_reducible first | refine Rd.set ?_ Q1.out _ | refine Rd.set ?_ Q2.out _ | exact HP2.out)
      · show Rd _ _ (d.stack.map (.int .i64))
        repeat (with_reducible first | refine Rd.set ?_ Q3.out _ | refine Rd.set ?_ Q4.out _ | exact HS2.out)
      · repeat (with_reducible first | refine Below.setCell ?_ bW _ | refine Below.setCell ?_ bR _ | exact HB2.out)
    · have HR := Lib.hid (IC.on_out hk hl (d.enableF on))
      have hle : lineErr d.prio.length line = 1 := by unfold lineErr; rw [if_neg hl]
      have Hle := Lib.hid hle; clear hle
      unfold icv at *
      go_enter Tryd.func28, Tryd.ntmps28
      go_wp2_with fail
      refine (f1.out _ ((Hp.out.alloc _).alloc _) ((Hs.out.alloc _).alloc _)).mono ?_
      rintro e w1 ⟨qA, qc, tA, tc, rfl, hM, hb⟩
      rw [Hle.out]
      unfold icv
      have HXr := Lib.hid (box_new hb)
      obtain ⟨xr, yr⟩ := box_rules HXr.out
      have lr := box_lt HXr.out
      have HXd := Lib.hid (box_keep (box_alloc (heap_alloc_new w _) _) hb)
      obtain ⟨xd, yd⟩ := box_rules HXd.out
      have ld := box_lt HXd.out
      rw [World.size_alloc] at xr yr lr
      have HM := Lib.hid hM
      have HB := Lib.hid ((((Below.refl w.heap.size w).alloc (Nat.le_refl _) _).alloc (by simp) _).trans (hb.mono (by simp; omega)))
      have q1 : ∀ a, qA = some a → a.block ≠ w.heap.size := fun a ha e => by have := (own_block HM.out.prio ha).1; simp at this; omega
      have q2 : ∀ a, qA = some a → a.block ≠ w.heap.size + 1 := fun a ha e => by have := (own_block HM.out.prio ha).1; simp at this; omega
      have q3 : ∀ a, tA = some a → a.block ≠ w.heap.size := fun a ha e => by have := (own_block HM.out.stack ha).1; simp at this; omega
      have q4 : ∀ a, tA = some a → a.block ≠ w.heap.size + 1 := fun a ha e => by have := (own_block HM.out.stack ha).1; simp at this; omega
      have Q1 := Lib.hid q1; have Q2 := Lib.hid q2; have Q3 := Lib.hid q3; have Q4 := Lib.hid q4
      clear hb hM q1 q2 q3 q4 hl
      go_wp2_with fail
      refine bodyPost_ret (v := .tuple #[icv d qA qc tA tc, .int .i64 1]) (by simp [results, icv, Tryd.f28, go_sem, xr]) rfl ?_
      rw [HR.out]
      have bW : w.heap.size ≤ w.heap.size := Nat.le_refl _
      have bR : w.heap.size ≤ w.heap.size + 1 := Nat.le_succ _
      refine ⟨qA, qc, tA, tc, rfl, ?_, ?_, ?_, ⟨fun a ha => by have := (own_block HM.out.prio ha).1; simp at this; omega, fun a ha => by have := (own_block HM.out.stack ha).1; simp at this; omega⟩⟩
      · repeat (with_reducible first | refine Rd.set ?_ Q1.out _ | refine Rd.set ?_ Q2.out _ | exact own_rd HM.out.prio)
      · repeat (with_reducible first | refine Rd.set ?_ Q3.out _ | refine Rd.set ?_ Q4.out _ | exact own_rd HM.out.stack)
      · repeat (with_reducible first | refine Below.setCell ?_ bW _ | refine Below.setCell ?_ bR _ | exact HB.out)
  · have f1 := Lib.hid (fun w hp hs => bad_bad d hf pA pc sA sc line w hp hs hk)
    have HR := Lib.hid (IC.on_bad hk line (d.enableF on))
    have Hp := Lib.hid hp; clear hp
    have Hs := Lib.hid hs; clear hs
    unfold icv at *
    go_enter Tryd.func28, Tryd.ntmps28
    go_wp2_with fail
    refine (f1.out _ ((Hp.out.alloc _).alloc _) ((Hs.out.alloc _).alloc _)).mono ?_
    rintro e w1 ⟨rfl, hb⟩
    have HXr := Lib.hid (box_new hb)
    obtain ⟨xr, yr⟩ := box_rules HXr.out
    have lr := box_lt HXr.out
    have HXd := Lib.hid (box_keep (box_alloc (heap_alloc_new w _) _) hb)
    obtain ⟨xd, yd⟩ := box_rules HXd.out
    have ld := box_lt HXd.out
    rw [World.size_alloc] at xr yr lr
    have HB := Lib.hid ((((Below.refl w.heap.size w).alloc (Nat.le_refl _) _).alloc (by simp) _).trans (hb.mono (by simp; omega)))
    clear hb
    simp only [IC.zero]
    go_wp2_with fail
    refine bodyPost_ret (v := .tuple #[icv IC.zero none 0 none 0, .int .i64 2]) (by simp [results, icv, IC.zero, Tryd.f28, go_sem, xr]) rfl ?_
    rw [HR.out]
    have bW : w.heap.size ≤ w.heap.size := Nat.le_refl _
    have bR : w.heap.size ≤ w.heap.size + 1 := Nat.le_succ _
    refine ⟨none, 0, none, 0, rfl, Rd.nil _ _, Rd.nil _ _, ?_, New.none _⟩
    repeat (with_reducible first | refine Below.setCell ?_ bW _ | refine Below.setCell ?_ bR _ | exact HB.out)
end
end Go.Proofs.YtbhjkfeonhddlaaDoor

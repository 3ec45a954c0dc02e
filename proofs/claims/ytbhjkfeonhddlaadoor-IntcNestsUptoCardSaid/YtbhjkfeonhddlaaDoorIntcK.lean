/- Package intc: the walk of End. Conditions: the argument's lists read as they are said to. -/
import Derived.Test.YtbhjkfeonhddlaaDoorIntcJ
namespace Go.Proofs.YtbhjkfeonhddlaaDoor
open Go.RowKit Go.Shelf

theorem own_at {w : World} {base : Nat} {e : TypeId} {a : Addr} {n c : Nat} {vs : List Value} (h : w.ownsRow base e 1 (.slice (some a) n c) n vs) : (∃ g, a = ⟨g, 0, none⟩) ∧ n ≤ c := by
  rcases h.2 with ⟨h, _⟩ | ⟨g, cap, cur, h, _, _, hnc, _⟩
  · injection h with h; cases h
  · injection h with h h1 h2
    injection h with h
    exact ⟨⟨g, h⟩, by omega⟩

section
variable (d : IC) (hf : d.Fits) (pA : Option Addr) (pc : Nat) (sA : Option Addr) (sc : Nat) (w : World) (hp : Rd w pA (d.prio.map (.int .i64))) (hs : Rd w sA (d.stack.map (.int .i64)))
include hf hp hs

set_option maxHeartbeats 1000000 in
theorem end_any : Calls Tryd.prog 14 #[icv d pA pc sA sc] w (RetIN (d.three d.endF) w) := by
  by_cases hk : d.ok
  · have f1 := Lib.hid (fun w hp hs => open_good d hf hk pA pc sA sc 0 w hp hs)
    have Hp := Lib.hid hp; clear hp
    have Hs := Lib.hid hs; clear hs
    have h1 := hk.len1
    have hle : lineErr d.prio.length 0 = 0 := by unfold lineErr; rw [if_pos ⟨by omega, by omega⟩]
    have Hle := Lib.hid hle; clear hle
    have HR := Lib.hid (IC.three_ok hk d.endF)
    unfold icv at *
    go_enter Tryd.func14, Tryd.ntmps14
    go_wp2_with fail
    refine (f1.out _ ((Hp.out.alloc _).alloc _) ((Hs.out.alloc _).alloc _)).mono ?_
    rintro e w1 ⟨D, pA', pc', sA', sc', rfl, hD, hb⟩
    have HXr := Lib.hid (box_new hb)
    have lD := hD.lo
    rw [World.size_alloc, World.size_alloc] at lD
    have HB := Lib.hid ((((Below.refl w.heap.size w).alloc (Nat.le_refl _) _).alloc (by simp) _).trans (hb.mono (by simp; omega)))
    have HD := Lib.hid hD; clear hD hb
    rw [Hle.out]
    have HO := Lib.hid (opened (r := w.heap.size + 1) HD.out (by simp))
    obtain ⟨xr, yr⟩ := box_rules HXr.out
    have lr := box_lt HXr.out
    obtain ⟨xd, yd⟩ := box_rules HD.out.blk
    have ld := box_lt HD.out.blk
    rw [World.size_alloc] at xr yr lr
    have bR : w.heap.size ≤ w.heap.size + 1 := Nat.le_succ _
    have bD : w.heap.size ≤ D := by omega
    by_cases hst : d.stack = []
    · have HR2 : Hid (d.three d.endF = (d, 0, 7)) := by rw [HR.out]; unfold IC.endF; rw [if_pos hst]; rfl
      have hm : d.stack.length = 0 := by rw [hst]; rfl
      have HM := Lib.hid hm
      rw [hm] at xd
      clear hst hm HR
      go_wp2_with fail
      refine bodyPost_ret (v := .tuple #[icv d pA' pc' sA' sc', .int .i64 0, .int .i64 7]) (by simp [results, icv, Tryd.f14, go_sem, xr, HM.out]) rfl ?_
      rw [HR2.out]
      refine ⟨pA', pc', sA', sc', rfl, ?_, ?_, ?_, HO.out.new.mono (Nat.le_succ _)⟩
      · repeat (with_reducible first | refine Rd.set ?_ HO.out.p1 _ | refine Rd.set ?_ HO.out.p2 _ | refine Rd.drew ?_ | exact HO.out.prio)
      · repeat (with_reducible first | refine Rd.set ?_ HO.out.s1 _ | refine Rd.set ?_ HO.out.s2 _ | refine Rd.drew ?_ | exact HO.out.stack)
      · repeat (with_reducible first | refine Below.setCell ?_ bR _ | refine Below.setCell ?_ bD _ | refine Below.drew ?_ | exact HB.out)
    · obtain ⟨m, hm⟩ : ∃ m, d.stack.length = m + 1 := ⟨d.stack.length - 1, by have := List.length_pos_iff.2 hst; omega⟩
      have hgd := hk.stack m (by omega)
      obtain ⟨n, hn⟩ := Int.eq_ofNat_of_zero_le hgd.1
      have hn64 : n < 64 := by have := hk.len2; have := hgd.2.1; omega
      have HR2 : Hid (d.three d.endF = ({ d with p := if d.r.testBit n = true then setB d.p n true else d.p, stack := d.stack.dropLast }, (n : Int), 0)) := by
        rw [HR.out]; unfold IC.endF; rw [if_neg hst, hm, Nat.add_sub_cancel, hn]; rfl
      obtain ⟨ba, rfl, c1⟩ := HO.out.stack.int (i := m) (by omega)
      obtain ⟨⟨g, rfl⟩, hcap⟩ := own_at HD.out.stack
      rw [add_zero_lit, Nat.zero_add] at c1
      change w1.cell? _ = some (.int .i64 (d.st m)) at c1
      rw [hn] at c1
      rw [hm] at xd
      have HM : Hid (d.stack.dropLast.length = m) := by show _ = _; rw [List.length_dropLast, hm]; rfl
      have HS2 : Hid (Rd w1 (some ⟨g, 0, none⟩) (d.stack.dropLast.map (.int .i64))) := by have h := HO.out.stack.take m; rw [← List.map_take] at h; rw [List.dropLast_eq_take, hm]; exact h
      have hsz := hf.stack
      have u1 := u_or_and (r := d.r) hf.p hn64 hf.r
      generalize hq : (if d.r.testBit n = true then setB d.p n true else d.p) = q at *
      clear hst HR hgd hn hq
      go_wp2_with fail
      refine still_tail 17 (by kernel_rfl) (by kernel_rfl) ?_
      simp only [List.take_succ_cons, List.take_zero, List.drop_succ_cons, List.drop_zero]
      repeat still_step
      refine wpStill_nil ?_
      go_wp2_with fail
      refine bodyPost_ret (v := .tuple #[icv { d with p := q, stack := d.stack.dropLast } pA' pc' (some ⟨g, 0, none⟩) sc', .int .i64 n, .int .i64 0]) (by simp [results, icv, Tryd.f14, go_sem, xr, HM.out, hm]) rfl ?_
      rw [HR2.out]
      refine ⟨pA', pc', some ⟨g, 0, none⟩, sc', rfl, ?_, ?_, ?_, HO.out.new.mono (Nat.le_succ _)⟩
      · repeat (with_reducible first | refine Rd.set ?_ HO.out.p1 _ | refine Rd.set ?_ HO.out.p2 _ | refine Rd.drew ?_ | exact HO.out.prio)
      · repeat (with_reducible first | refine Rd.set ?_ HO.out.s1 _ | refine Rd.set ?_ HO.out.s2 _ | refine Rd.drew ?_ | exact HS2.out)
      · repeat (with_reducible first | refine Below.setCell ?_ bR _ | refine Below.setCell ?_ bD _ | refine Below.drew ?_ | exact HB.out)
  · have f1 := Lib.hid (fun w hp hs => open_bad d hf hk pA pc sA sc 0 w hp hs)
    have HR := Lib.hid (IC.three_bad hk d.endF)
    have Hp := Lib.hid hp; clear hp
    have Hs := Lib.hid hs; clear hs
    unfold icv at *
    go_enter Tryd.func14, Tryd.ntmps14
    go_wp2_with fail
    refine (f1.out _ ((Hp.out.alloc _).alloc _) ((Hs.out.alloc _).alloc _)).mono ?_
    rintro e w1 ⟨D, rfl, lD, hD, hb⟩
    have HXr := Lib.hid (box_new hb)
    obtain ⟨xr, yr⟩ := box_rules HXr.out
    have lr := box_lt HXr.out
    have HD := Lib.hid hD; clear hD
    obtain ⟨xd, yd⟩ := box_rules HD.out
    have ld := box_lt HD.out
    rw [World.size_alloc, World.size_alloc] at lD
    rw [World.size_alloc] at xr yr lr
    have HB := Lib.hid ((((Below.refl w.heap.size w).alloc (Nat.le_refl _) _).alloc (by simp) _).trans (hb.mono (by simp; omega)))
    clear hb HXr
    go_wp2_with fail
    refine bodyPost_ret (v := .tuple #[icv IC.zero none 0 none 0, .int .i64 0, .int .i64 2]) (by simp [results, icv, IC.zero, Tryd.f14, go_sem, xr]) rfl ?_
    rw [HR.out]
    have bR : w.heap.size ≤ w.heap.size + 1 := Nat.le_succ _
    refine ⟨none, 0, none, 0, rfl, Rd.nil _ _, Rd.nil _ _, ?_, New.none _⟩
    repeat (with_reducible first | refine Below.setCell ?_ bR _ | exact HB.out)
end
end Go.Proofs.YtbhjkfeonhddlaaDoor

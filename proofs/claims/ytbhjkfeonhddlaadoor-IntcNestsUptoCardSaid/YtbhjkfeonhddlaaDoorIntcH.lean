/- Package intc: the walks of Raise. Conditions: the argument's lists read as they are said to. (Printed by gen_intc.py.) -/
import Derived.Test.YtbhjkfeonhddlaaDoorIntcG
namespace Go.Proofs.YtbhjkfeonhddlaaDoor
open Go.RowKit Go.Shelf

section
variable (d : IC) (hf : d.Fits) (pA : Option Addr) (pc : Nat) (sA : Option Addr) (sc : Nat) (line : Int) (w : World) (hp : Rd w pA (d.prio.map (.int .i64))) (hs : Rd w sA (d.stack.map (.int .i64)))
include hf hp hs


set_option maxHeartbeats 2000000 in
theorem raise_any : Calls Tryd.prog 18 #[icv d pA pc sA sc, .int .i64 line] w (RetI (d.on line d.raiseF) w) := by
  by_cases hk : d.ok
  · by_cases hl : 0 ≤ line ∧ line < d.prio.length
    · have f1 := Lib.hid (fun w hp hs => open_good d hf hk pA pc sA sc line w hp hs)
      have Hp := Lib.hid hp; clear hp
      have Hs := Lib.hid hs; clear hs
      obtain ⟨n, rfl⟩ := Int.eq_ofNat_of_zero_le hl.1
      have hn : n < 64 := by have := hk.len2; omega
      have HR := Lib.hid (IC.on_in hk hl.2 d.raiseF)
      have hle : lineErr d.prio.length (n : Int) = 0 := by unfold lineErr; rw [if_pos hl]
      have Hle := Lib.hid hle; clear hle
      unfold icv at *
      go_enter Tryd.func18, Tryd.ntmps18
      go_wp2_with fail
      refine (f1.out _ ((Hp.out.alloc _).alloc _) ((Hs.out.alloc _).alloc _)).mono ?_
      rintro e w1 ⟨D, pA', pc', sA', sc', rfl, hD, hb⟩
      have HXr := Lib.hid (box_new hb)
      obtain ⟨xr, yr⟩ := box_rules HXr.out
      have HD := Lib.hid hD; clear hD
      obtain ⟨xd, yd⟩ := box_rules HD.out.blk
      have ld := box_lt HD.out.blk
      have lr := box_lt HXr.out
      have lD := HD.out.lo
      rw [World.size_alloc, World.size_alloc] at lD
      rw [World.size_alloc] at xr yr lr
      have HB := Lib.hid ((((Below.refl w.heap.size w).alloc (Nat.le_refl _) _).alloc (by simp) _).trans (hb.mono (by simp; omega)))
      have HO := Lib.hid (opened (r := w.heap.size + 1) HD.out (by simp))
      clear hb HXr
      rw [Hle.out]
      have f3 := Lib.hid (edge_any (w := w1) HD.out hf n hn)
      have HL : Hid (d.raiseF n = if d.g.testBit n = true then (if d.p.testBit n = true then (d, 4) else ({ d with p := setB d.p n true }, 0)) else ({ d with r := setB d.r n true, p := if (ofList d.stack).testBit n = true then d.p else setB d.p n true }, 0)) := rfl
      have u1 := u_or hf.p hn
      have u2 := u_and_ne hf.p hn
      have u3 := u_or hf.r hn
      have u4 := u_or_andNot hf.p hn (ofList_lt d.stack)
      generalize hg : d.g.testBit n = tg at *
      have Hg := Lib.hid hg; clear hg
      cases tg with
      | true =>
        generalize hq : d.p.testBit n = tp at *
        have Hq := Lib.hid hq; clear hq
        cases tp with
        | true =>
          have HR2 : Hid (d.on n d.raiseF = (d, 4)) := by rw [HR.out, HL.out]; rfl
          go_wp2_with (refine f3.out.mono ?_; rintro e w' ⟨rfl, rfl⟩)
          refine bodyPost_ret (v := .tuple #[icv d pA' pc' sA' sc', .int .i64 4]) (by simp [results, icv, Tryd.f18, go_sem, xr]) rfl ?_
          rw [HR2.out]
          have bR : w.heap.size ≤ w.heap.size + 1 := Nat.le_succ _
          have bD : w.heap.size ≤ D := by omega
          refine ⟨pA', pc', sA', sc', rfl, ?_, ?_, ?_, HO.out.new.mono (Nat.le_succ _)⟩
          · repeat (with_reducible first | refine Rd.set ?_ HO.out.p1 _ | refine Rd.set ?_ HO.out.p2 _ | refine Rd.drew ?_ | exact HO.out.prio)
          · repeat (with_reducible first | refine Rd.set ?_ HO.out.s1 _ | refine Rd.set ?_ HO.out.s2 _ | refine Rd.drew ?_ | exact HO.out.stack)
          · repeat (with_reducible first | refine Below.setCell ?_ bR _ | refine Below.setCell ?_ bD _ | refine Below.drew ?_ | exact HB.out)
        | false =>
          have HR2 : Hid (d.on n d.raiseF = ({ d with p := setB d.p n true }, 0)) := by rw [HR.out, HL.out]; rfl
          go_wp2_with fail
          refine f3.out.mono ?_
          rintro e w' ⟨rfl, rfl⟩
          go_wp2_with fail
          refine f3.out.mono ?_
          rintro e w' ⟨rfl, rfl⟩
          go_wp2_with fail
          refine bodyPost_ret (v := .tuple #[icv { d with p := setB d.p n true } pA' pc' sA' sc', .int .i64 0]) (by simp [results, icv, Tryd.f18, go_sem, xr]) rfl ?_
          rw [HR2.out]
          have bR : w.heap.size ≤ w.heap.size + 1 := Nat.le_succ _
          have bD : w.heap.size ≤ D := by omega
          refine ⟨pA', pc', sA', sc', rfl, ?_, ?_, ?_, HO.out.new.mono (Nat.le_succ _)⟩
          · repeat (with_reducible first | refine Rd.set ?_ HO.out.p1 _ | refine Rd.set ?_ HO.out.p2 _ | refine Rd.drew ?_ | exact HO.out.prio)
          · repeat (with_reducible first | refine Rd.set ?_ HO.out.s1 _ | refine Rd.set ?_ HO.out.s2 _ | refine Rd.drew ?_ | exact HO.out.stack)
          · repeat (with_reducible first | refine Below.setCell ?_ bR _ | refine Below.setCell ?_ bD _ | refine Below.drew ?_ | exact HB.out)
      | false =>
        have HR2 : Hid (d.on n d.raiseF = ({ d with r := setB d.r n true, p := if (ofList d.stack).testBit n = true then d.p else setB d.p n true }, 0)) := by rw [HR.out, HL.out]; rfl
        go_wp2_with fail
        refine f3.out.mono ?_
        rintro e w' ⟨rfl, rfl⟩
        go_wp2_with fail
        refine f3.out.mono ?_
        rintro e w' ⟨rfl, rfl⟩
        generalize hpp : (if (ofList d.stack).testBit n = true then d.p else setB d.p n true) = pp at *
        clear hpp
        have s6 : (w1.setCell ⟨D, 2, none⟩ (.int .u64 ((setB d.r n true : Nat) : Int))).cell? ⟨D, 6, none⟩ = some (.slice sA' d.stack.length sc') := cell_set_far (by rw [xd]; rfl) (by simp) _
        have f5 := Lib.hid (active_raw d (w := (w1.setCell ⟨D, 2, none⟩ (.int .u64 ((setB d.r n true : Nat) : Int))).drew) s6 ((HO.out.stack.set (p := ⟨D, 2, none⟩) HO.out.s2 _).drew) hf.stack (st_range hk))
        clear s6
        go_wp2_with fail
        refine still_tail 13 (by kernel_rfl) (by kernel_rfl) ?_
        simp only [List.take_succ_cons, List.take_zero, List.drop_succ_cons, List.drop_zero]
        repeat still_step
        still_call (f5.out.mono fun _ _ ⟨a, b⟩ => ⟨a, b.symm⟩)
        repeat still_step
        refine wpStill_nil ?_
        go_wp2_with fail
        refine bodyPost_ret (v := .tuple #[icv { d with r := setB d.r n true, p := pp } pA' pc' sA' sc', .int .i64 0]) (by simp [results, icv, Tryd.f18, go_sem, xr]) rfl ?_
        rw [HR2.out]
        have bR : w.heap.size ≤ w.heap.size + 1 := Nat.le_succ _
        have bD : w.heap.size ≤ D := by omega
        refine ⟨pA', pc', sA', sc', rfl, ?_, ?_, ?_, HO.out.new.mono (Nat.le_succ _)⟩
        · repeat (with_reducible first | refine Rd.set ?_ HO.out.p1 _ | refine Rd.set ?_ HO.out.p2 _ | refine Rd.drew ?_ | exact HO.out.prio)
        · repeat (with_reducible first | refine Rd.set ?_ HO.out.s1 _ | refine Rd.set ?_ HO.out.s2 _ | refine Rd.drew ?_ | exact HO.out.stack)
        · repeat (with_reducible first | refine Below.setCell ?_ bR _ | refine Below.setCell ?_ bD _ | refine Below.drew ?_ | exact HB.out)
    · have f1 := Lib.hid (fun w hp hs => open_good d hf hk pA pc sA sc line w hp hs)
      have Hp := Lib.hid hp; clear hp
      have Hs := Lib.hid hs; clear hs
      have HR := Lib.hid (IC.on_out hk hl d.raiseF)
      have hle : lineErr d.prio.length line = 1 := by unfold lineErr; rw [if_neg hl]
      have Hle := Lib.hid hle; clear hle
      unfold icv at *
      go_enter Tryd.func18, Tryd.ntmps18
      go_wp2_with fail
      refine (f1.out _ ((Hp.out.alloc _).alloc _) ((Hs.out.alloc _).alloc _)).mono ?_
      rintro e w1 ⟨D, pA', pc', sA', sc', rfl, hD, hb⟩
      have HXr := Lib.hid (box_new hb)
      obtain ⟨xr, yr⟩ := box_rules HXr.out
      have HD := Lib.hid hD; clear hD
      obtain ⟨xd, yd⟩ := box_rules HD.out.blk
      have ld := box_lt HD.out.blk
      have lr := box_lt HXr.out
      have lD := HD.out.lo
      rw [World.size_alloc, World.size_alloc] at lD
      rw [World.size_alloc] at xr yr lr
      have HB := Lib.hid ((((Below.refl w.heap.size w).alloc (Nat.le_refl _) _).alloc (by simp) _).trans (hb.mono (by simp; omega)))
      have HO := Lib.hid (opened (r := w.heap.size + 1) HD.out (by simp))
      clear hb HXr
      rw [Hle.out]
      go_wp2_with fail
      refine bodyPost_ret (v := .tuple #[icv d pA' pc' sA' sc', .int .i64 1]) (by simp [results, icv, Tryd.f18, go_sem, xr]) rfl ?_
      rw [HR.out]
      have bR : w.heap.size ≤ w.heap.size + 1 := Nat.le_succ _
      have bD : w.heap.size ≤ D := by omega
      refine ⟨pA', pc', sA', sc', rfl, ?_, ?_, ?_, HO.out.new.mono (Nat.le_succ _)⟩
      · repeat (with_reducible first | refine Rd.set ?_ HO.out.p1 _ | refine Rd.set ?_ HO.out.p2 _ | refine Rd.drew ?_ | exact HO.out.prio)
      · repeat (with_reducible first | refine Rd.set ?_ HO.out.s1 _ | refine Rd.set ?_ HO.out.s2 _ | refine Rd.drew ?_ | exact HO.out.stack)
      · repeat (with_reducible first | refine Below.setCell ?_ bR _ | refine Below.setCell ?_ bD _ | refine Below.drew ?_ | exact HB.out)
  · have f1 := Lib.hid (fun w hp hs => open_bad d hf hk pA pc sA sc line w hp hs)
    have HR := Lib.hid (IC.on_bad hk line d.raiseF)
    have Hp := Lib.hid hp; clear hp
    have Hs := Lib.hid hs; clear hs
    unfold icv at *
    go_enter Tryd.func18, Tryd.ntmps18
    go_wp2_with fail
    refine (f1.out _ ((Hp.out.alloc _).alloc _) ((Hs.out.alloc _).alloc _)).mono ?_
    rintro e w1 ⟨D, rfl, lD, hD, hb⟩
    have HXr := Lib.hid (box_new hb)
    obtain ⟨xr, yr⟩ := box_rules HXr.out
    have lr := box_lt HXr.out
    have HD := Lib.hid hD; clear hD
    obtain ⟨xd, yd⟩ := box_rules HD.out
    have ld := box_lt HD.out
    rw [World.size_alloc, World.size_alloc] at lD
    rw [World.size_alloc] at xr yr lr
    have HB := Lib.hid ((((Below.refl w.heap.size w).alloc (Nat.le_refl _) _).alloc (by simp) _).trans (hb.mono (by simp; omega)))
    clear hb HXr
    go_wp2_with fail
    refine bodyPost_ret (v := .tuple #[icv IC.zero none 0 none 0, .int .i64 2]) (by simp [results, icv, IC.zero, Tryd.f18, go_sem, xr]) rfl ?_
    rw [HR.out]
    have bR : w.heap.size ≤ w.heap.size + 1 := Nat.le_succ _
    refine ⟨none, 0, none, 0, rfl, Rd.nil _ _, Rd.nil _ _, ?_, New.none _⟩
    repeat (with_reducible first | refine Below.setCell ?_ bR _ | exact HB.out)

end
end Go.Proofs.YtbhjkfeonhddlaaDoor

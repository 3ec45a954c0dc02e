/- Package intc: what the calls come to, and facts on an open desk. Conditions: none of its own. -/
import Derived.Test.YtpncbkodhojicaaDoorIntcEIc
import Derived.Test.YtpncbkodhojicaaDoorSetOpsI
namespace Go.Proofs.YtpncbkodhojicaaDoor
open Go.RowKit Go.Shelf

def IC.zero : IC := ⟨0, 0, 0, 0, [], 0, []⟩
/-- Two slices that lie in blocks from b on. -/
def New (b : Nat) (pA sA : Option Addr) : Prop := (∀ a, pA = some a → b ≤ a.block) ∧ (∀ a, sA = some a → b ≤ a.block)
theorem New.none (b : Nat) : New b none none := ⟨fun _ h => (Option.some_ne_none _ h.symm).elim, fun _ h => (Option.some_ne_none _ h.symm).elim⟩
theorem New.mono {b b' : Nat} {pA sA : Option Addr} (h : New b pA sA) (hb : b' ≤ b) : New b' pA sA := ⟨fun a ha => Nat.le_trans hb (h.1 a ha), fun a ha => Nat.le_trans hb (h.2 a ha)⟩
/-- A controller and why. -/
def RetI (x : IC × Int) (w : World) (e : Ending) (w' : World) : Prop :=
  ∃ pA pc sA sc, e = .returned (.tuple #[icv x.1 pA pc sA sc, .int .i64 x.2]) ∧ Rd w' pA (x.1.prio.map (.int .i64)) ∧ Rd w' sA (x.1.stack.map (.int .i64)) ∧ Below w.heap.size w w' ∧ New w.heap.size pA sA
/-- A controller, a number, and why. -/
def RetIN (x : IC × Int × Int) (w : World) (e : Ending) (w' : World) : Prop :=
  ∃ pA pc sA sc, e = .returned (.tuple #[icv x.1 pA pc sA sc, .int .i64 x.2.1, .int .i64 x.2.2]) ∧ Rd w' pA (x.1.prio.map (.int .i64)) ∧ Rd w' sA (x.1.stack.map (.int .i64)) ∧ Below w.heap.size w w' ∧ New w.heap.size pA sA
/-- A number and why. -/
def RetN (x : Int × Int) (w : World) (e : Ending) (w' : World) : Prop := e = .returned (.tuple #[.int .i64 x.1, .int .i64 x.2]) ∧ Below w.heap.size w w'

open Classical in
/-- What a call on a line comes to: f says what becomes of a right controller. -/
noncomputable def IC.on (d : IC) (line : Int) (f : Nat → IC × Int) : IC × Int :=
  if ¬ d.ok then (IC.zero, 2) else if 0 ≤ line ∧ line < d.prio.length then f line.toNat else (d, 1)
theorem IC.on_bad {d : IC} (hk : ¬ d.ok) (line : Int) (f : Nat → IC × Int) : d.on line f = (IC.zero, 2) := by unfold IC.on; rw [if_pos hk]
theorem IC.on_out {d : IC} (hk : d.ok) {line : Int} (hl : ¬ (0 ≤ line ∧ line < d.prio.length)) (f : Nat → IC × Int) : d.on line f = (d, 1) := by unfold IC.on; rw [if_neg (by simpa using hk), if_neg hl]
theorem IC.on_in {d : IC} (hk : d.ok) {n : Nat} (hl : (n : Int) < d.prio.length) (f : Nat → IC × Int) : d.on n f = f n := by unfold IC.on; rw [if_neg (by simpa using hk), if_pos ⟨by omega, hl⟩]; rfl

def IC.lowerF (d : IC) (n : Nat) : IC × Int := if d.g.testBit n = true then (d, 7) else ({ d with r := setB d.r n false, p := setB d.p n false }, 0)
def IC.enableF (d : IC) (on : Bool) (n : Nat) : IC × Int := ({ d with e := setB d.e n on }, 0)
def IC.raiseF (d : IC) (n : Nat) : IC × Int :=
  if d.g.testBit n = true then (if d.p.testBit n = true then (d, 4) else ({ d with p := setB d.p n true }, 0))
  else ({ d with r := setB d.r n true, p := if (ofList d.stack).testBit n = true then d.p else setB d.p n true }, 0)
def IC.limitF (d : IC) (t : Int) : IC × Int := if 0 ≤ t ∧ t ≤ 15 then ({ d with t := t }, 0) else (d, 1)

theorem Rd.set {w : World} {A : Option Addr} {vs : List Value} (h : Rd w A vs) {p : Addr} (hne : ∀ a, A = some a → a.block ≠ p.block) (u : Value) : Rd (w.setCell p u) A vs := fun i v hv => by
  obtain ⟨a, ha, hc⟩ := h i v hv
  exact ⟨a, ha, cell_set_far hc (fun e => hne a ha (by rw [e, add_block])) u⟩

/-- What is known of a desk that was opened, the result's cell at r. -/
structure Opened (w1 : World) (r D : Nat) (d : IC) (pA : Option Addr) (sA : Option Addr) : Prop where
  prio : Rd w1 pA (d.prio.map (.int .i64))
  stack : Rd w1 sA (d.stack.map (.int .i64))
  p1 : ∀ a, pA = some a → a.block ≠ r
  p2 : ∀ a, pA = some a → a.block ≠ D
  s1 : ∀ a, sA = some a → a.block ≠ r
  s2 : ∀ a, sA = some a → a.block ≠ D
  new : New r pA sA
theorem own_block {w : World} {base : Nat} {e : TypeId} {A : Option Addr} {n c : Nat} {vs : List Value} (h : w.ownsRow base e 1 (.slice A n c) n vs) {a : Addr} (ha : A = some a) : base ≤ a.block ∧ ∃ cur, w.heap[a.block]? = some (.cells cur e (0, 0)) := by
  subst ha
  rcases h.2 with ⟨h1, _⟩ | ⟨g, cap, cur, h1, h2, h3, _⟩
  · injection h1 with h1; cases h1
  · injection h1 with h1
    cases h1
    exact ⟨h2, cur, h3⟩
theorem own_other {w : World} {base : Nat} {A : Option Addr} {n c : Nat} {vs : List Value} (h : w.ownsRow base 3 1 (.slice A n c) n vs) {D : Nat} {cs : Array Value} {t : TypeId} (hD : w.heap[D]? = some (.cells cs t (0, 0))) (ht : t ≠ 3) : ∀ a, A = some a → a.block ≠ D := by
  intro a ha e
  obtain ⟨_, cur, hc⟩ := own_block h ha
  rw [e, hD] at hc
  injection hc with hc
  injection hc with _ hc
  exact ht hc
theorem opened {w1 : World} {base r D : Nat} {d : IC} {pA : Option Addr} {pc : Nat} {sA : Option Addr} {sc : Nat} (h : Desk w1 base D d pA pc sA sc) (hr : r < base) : Opened w1 r D d pA sA :=
  ⟨own_rd h.prio, own_rd h.stack, fun a ha e => by have := (own_block h.prio ha).1; omega, own_other h.prio h.blk (by decide),
   fun a ha e => by have := (own_block h.stack ha).1; omega, own_other h.stack h.blk (by decide),
   ⟨fun a ha => by have := (own_block h.prio ha).1; omega, fun a ha => by have := (own_block h.stack ha).1; omega⟩⟩
end Go.Proofs.YtpncbkodhojicaaDoor
/- Package intc: the walks of Lower, Enable, Limit, Raise. Conditions: the argument's lists read as they are said to. (Printed by gen_intc.py.) -/
namespace Go.Proofs.YtpncbkodhojicaaDoor
open Go.RowKit Go.Shelf

section
variable (d : IC) (hf : d.Fits) (pA : Option Addr) (pc : Nat) (sA : Option Addr) (sc : Nat) (line : Int) (w : World) (hp : Rd w pA (d.prio.map (.int .i64))) (hs : Rd w sA (d.stack.map (.int .i64)))
include hf hp hs


set_option maxHeartbeats 1000000 in
set_option maxRecDepth 100000 in
theorem enable_any (on : Bool) : Calls Tryd.prog 61 #[icv d pA pc sA sc, .int .i64 line, .bool on] w (RetI (d.on line (d.enableF on)) w) := by
  by_cases hk : d.ok
  · by_cases hl : 0 ≤ line ∧ line < d.prio.length
    · have f1 := Lib.hid (fun w hp hs => open_good d hf hk pA pc sA sc line w hp hs)
      have Hp := Lib.hid hp; clear hp
      have Hs := Lib.hid hs; clear hs
      obtain ⟨n, rfl⟩ := Int.eq_ofNat_of_zero_le hl.1
      have hn : n < 64 := by have := hk.len2; omega
      have HR := Lib.hid (IC.on_in hk hl.2 (d.enableF on))
      have hle : lineErr d.prio.length (n : Int) = 0 := by unfold lineErr; rw [if_pos hl]
      have Hle := Lib.hid hle; clear hle
      unfold icv at *
      go_enter Tryd.func61, Tryd.ntmps61
      go_wp2_with fail
      refine (f1.out _ ((Hp.out.alloc _).alloc _) ((Hs.out.alloc _).alloc _)).mono ?_
      rintro e w1 ⟨D, pA', pc', sA', sc', rfl, hD, hb⟩
      have HXr := Lib.hid (box_new hb)
      obtain ⟨xr, yr⟩ := box_rules HXr.out
      have HD := Lib.hid hD; clear hD
      obtain ⟨xd, yd⟩ := box_rules HD.out.blk
      have ld := box_lt HD.out.blk
      have lr := box_lt HXr.out
      have lD := HD.out.lo
      rw [World.size_alloc, World.size_alloc] at lD
      rw [World.size_alloc] at xr yr lr
      have HB := Lib.hid ((((Below.refl w.heap.size w).alloc (Nat.le_refl _) _).alloc (by simp) _).trans (hb.mono (by simp; omega)))
      have HO := Lib.hid (opened (r := w.heap.size + 1) HD.out (by simp))
      clear hb HXr
      rw [Hle.out]
      have u1 := u_andNot hf.e hn
      have u2 := u_or hf.e hn
      cases on with
      | true =>
        have HR2 : Hid (d.on n (d.enableF true) = ({ d with e := setB d.e n true }, 0)) := by rw [HR.out]; rfl
        go_wp2_with fail
        refine still_tail 11 (by kernel_rfl) (by kernel_rfl) ?_
        simp only [List.take_succ_cons, List.take_zero, List.drop_succ_cons, List.drop_zero]
        repeat still_step
        refine wpStill_nil ?_
        go_wp2_with fail
        refine bodyPost_ret (v := .tuple #[icv { d with e := setB d.e n true } pA' pc' sA' sc', .int .i64 0]) (by simp [results, icv, Tryd.f61, go_sem, xr]) rfl ?_
        rw [HR2.out]
        have bR : w.heap.size ≤ w.heap.size + 1 := Nat.le_succ _
        have bD : w.heap.size ≤ D := by omega
        refine ⟨pA', pc', sA', sc', rfl, ?_, ?_, ?_, HO.out.new.mono (Nat.le_succ _)⟩
        · repeat (with_reducible first | refine Rd.set ?_ HO.out.p1 _ | refine Rd.set ?_ HO.out.p2 _ | refine Rd.drew ?_ | exact HO.out.prio)
        · repeat (with_reducible first | refine Rd.set ?_ HO.out.s1 _ | refine Rd.set ?_ HO.out.s2 _ | refine Rd.drew ?_ | exact HO.out.stack)
        · repeat (with_reducible first | refine Below.setCell ?_ bR _ | refine Below.setCell ?_ bD _ | refine Below.drew ?_ | exact HB.out)
      | false =>
        have HR2 : Hid (d.on n (d.enableF false) = ({ d with e := setB d.e n false }, 0)) := by rw [HR.out]; rfl
        go_wp2_with fail
        refine still_tail 11 (by kernel_rfl) (by kernel_rfl) ?_
        simp only [List.take_succ_cons, List.take_zero, List.drop_succ_cons, List.drop_zero]
        repeat still_step
        refine wpStill_nil ?_
        go_wp2_with fail
        refine bodyPost_ret (v := .tuple #[icv { d with e := setB d.e n false } pA' pc' sA' sc', .int .i64 0]) (by simp [results, icv, Tryd.f61, go_sem, xr]) rfl ?_
        rw [HR2.out]
        have bR : w.heap.size ≤ w.heap.size + 1 := Nat.le_succ _
        have bD : w.heap.size ≤ D := by omega
        refine ⟨pA', pc', sA', sc', rfl, ?_, ?_, ?_, HO.out.new.mono (Nat.le_succ _)⟩
        · repeat (with_reducible first | refine Rd.set ?_ HO.out.p1 _ | refine Rd.set ?_ HO.out.p2 _ | refine Rd.drew ?_ | exact HO.out.prio)
        · repeat (with_reducible first | refine Rd.set ?_ HO.out.s1 _ | refine Rd.set ?_ HO.out.s2 _ | refine Rd.drew ?_ | exact HO.out.stack)
        · repeat (with_reducible first | refine Below.setCell ?_ bR _ | refine Below.setCell ?_ bD _ | refine Below.drew ?_ | exact HB.out)
    · have f1 := Lib.hid (fun w hp hs => open_good d hf hk pA pc sA sc line w hp hs)
      have Hp := Lib.hid hp; clear hp
      have Hs := Lib.hid hs; clear hs
      have HR := Lib.hid (IC.on_out hk hl (d.enableF on))
      have hle : lineErr d.prio.length line = 1 := by unfold lineErr; rw [if_neg hl]
      have Hle := Lib.hid hle; clear hle
      unfold icv at *
      go_enter Tryd.func61, Tryd.ntmps61
      go_wp2_with fail
      refine (f1.out _ ((Hp.out.alloc _).alloc _) ((Hs.out.alloc _).alloc _)).mono ?_
      rintro e w1 ⟨D, pA', pc', sA', sc', rfl, hD, hb⟩
      have HXr := Lib.hid (box_new hb)
      obtain ⟨xr, yr⟩ := box_rules HXr.out
      have HD := Lib.hid hD; clear hD
      obtain ⟨xd, yd⟩ := box_rules HD.out.blk
      have ld := box_lt HD.out.blk
      have lr := box_lt HXr.out
      have lD := HD.out.lo
      rw [World.size_alloc, World.size_alloc] at lD
      rw [World.size_alloc] at xr yr lr
      have HB := Lib.hid ((((Below.refl w.heap.size w).alloc (Nat.le_refl _) _).alloc (by simp) _).trans (hb.mono (by simp; omega)))
      have HO := Lib.hid (opened (r := w.heap.size + 1) HD.out (by simp))
      clear hb HXr
      rw [Hle.out]
      go_wp2_with fail
      refine bodyPost_ret (v := .tuple #[icv d pA' pc' sA' sc', .int .i64 1]) (by simp [results, icv, Tryd.f61, go_sem, xr]) rfl ?_
      rw [HR.out]
      have bR : w.heap.size ≤ w.heap.size + 1 := Nat.le_succ _
      have bD : w.heap.size ≤ D := by omega
      refine ⟨pA', pc', sA', sc', rfl, ?_, ?_, ?_, HO.out.new.mono (Nat.le_succ _)⟩
      · repeat (with_reducible first | refine Rd.set ?_ HO.out.p1 _ | refine Rd.set ?_ HO.out.p2 _ | refine Rd.drew ?_ | exact HO.out.prio)
      · repeat (with_reducible first | refine Rd.set ?_ HO.out.s1 _ | refine Rd.set ?_ HO.out.s2 _ | refine Rd.drew ?_ | exact HO.out.stack)
      · repeat (with_reducible first | refine Below.setCell ?_ bR _ | refine Below.setCell ?_ bD _ | refine Below.drew ?_ | exact HB.out)
  · have f1 := Lib.hid (fun w hp hs => open_bad d hf hk pA pc sA sc line w hp hs)
    have HR := Lib.hid (IC.on_bad hk line (d.enableF on))
    have Hp := Lib.hid hp; clear hp
    have Hs := Lib.hid hs; clear hs
    unfold icv at *
    go_enter Tryd.func61, Tryd.ntmps61
    go_wp2_with fail
    refine (f1.out _ ((Hp.out.alloc _).alloc _) ((Hs.out.alloc _).alloc _)).mono ?_
    rintro e w1 ⟨D, rfl, lD, hD, hb⟩
    have HXr := Lib.hid (box_new hb)
    obtain ⟨xr, yr⟩ := box_rules HXr.out
    have lr := box_lt HXr.out
    have HD := Lib.hid hD; clear hD
    obtain ⟨xd, yd⟩ := box_rules HD.out
    have ld := box_lt HD.out
    rw [World.size_alloc, World.size_alloc] at lD
    rw [World.size_alloc] at xr yr lr
    have HB := Lib.hid ((((Below.refl w.heap.size w).alloc (Nat.le_refl _) _).alloc (by simp) _).trans (hb.mono (by simp; omega)))
    clear hb HXr
    go_wp2_with fail
    refine bodyPost_ret (v := .tuple #[icv IC.zero none 0 none 0, .int .i64 2]) (by simp [results, icv, IC.zero, Tryd.f61, go_sem, xr]) rfl ?_
    rw [HR.out]
    have bR : w.heap.size ≤ w.heap.size + 1 := Nat.le_succ _
    refine ⟨none, 0, none, 0, rfl, Rd.nil _ _, Rd.nil _ _, ?_, New.none _⟩
    repeat (with_reducible first | refine Below.setCell ?_ bR _ | exact HB.out)

end
end Go.Proofs.YtpncbkodhojicaaDoor
/- Package intc: the walks of Raise. Conditions: the argument's lists read as they are said to. (Printed by gen_intc.py.) -/
namespace Go.Proofs.YtpncbkodhojicaaDoor
open Go.RowKit Go.Shelf

section
variable (d : IC) (hf : d.Fits) (pA : Option Addr) (pc : Nat) (sA : Option Addr) (sc : Nat) (line : Int) (w : World) (hp : Rd w pA (d.prio.map (.int .i64))) (hs : Rd w sA (d.stack.map (.int .i64)))
include hf hp hs


set_option maxHeartbeats 2000000 in
set_option maxRecDepth 100000 in
theorem raise_any : Calls Tryd.prog 37 #[icv d pA pc sA sc, .int .i64 line] w (RetI (d.on line d.raiseF) w) := by
  by_cases hk : d.ok
  · by_cases hl : 0 ≤ line ∧ line < d.prio.length
    · have f1 := Lib.hid (fun w hp hs => open_good d hf hk pA pc sA sc line w hp hs)
      have Hp := Lib.hid hp; clear hp
      have Hs := Lib.hid hs; clear hs
      obtain ⟨n, rfl⟩ := Int.eq_ofNat_of_zero_le hl.1
      have hn : n < 64 := by have := hk.len2; omega
      have HR := Lib.hid (IC.on_in hk hl.2 d.raiseF)
      have hle : lineErr d.prio.length (n : Int) = 0 := by unfold lineErr; rw [if_pos hl]
      have Hle := Lib.hid hle; clear hle
      unfold icv at *
      go_enter Tryd.func37, Tryd.ntmps37
      go_wp2_with fail
      refine (f1.out _ ((Hp.out.alloc _).alloc _) ((Hs.out.alloc _).alloc _)).mono ?_
      rintro e w1 ⟨D, pA', pc', sA', sc', rfl, hD, hb⟩
      have HXr := Lib.hid (box_new hb)
      obtain ⟨xr, yr⟩ := box_rules HXr.out
      have HD := Lib.hid hD; clear hD
      obtain ⟨xd, yd⟩ := box_rules HD.out.blk
      have ld := box_lt HD.out.blk
      have lr := box_lt HXr.out
      have lD := HD.out.lo
      rw [World.size_alloc, World.size_alloc] at lD
      rw [World.size_alloc] at xr yr lr
      have HB := Lib.hid ((((Below.refl w.heap.size w).alloc (Nat.le_refl _) _).alloc (by simp) _).trans (hb.mono (by simp; omega)))
      have HO := Lib.hid (opened (r := w.heap.size + 1) HD.out (by simp))
      clear hb HXr
      rw [Hle.out]
      have f3 := Lib.hid (edge_any (w := w1) HD.out hf n hn)
      have HL : Hid (d.raiseF n = if d.g.testBit n = true then (if d.p.testBit n = true then (d, 4) else ({ d with p := setB d.p n true }, 0)) else ({ d with r := setB d.r n true, p := if (ofList d.stack).testBit n = true then d.p else setB d.p n true }, 0)) := rfl
      have u1 := u_or hf.p hn
      have u2 := u_and_ne hf.p hn
      have u3 := u_or hf.r hn
      have u4 := u_or_andNot hf.p hn (ofList_lt d.stack)
      generalize hg : d.g.testBit n = tg at *
      have Hg := Lib.hid hg; clear hg
      cases tg with
      | true =>
        generalize hq : d.p.testBit n = tp at *
        have Hq := Lib.hid hq; clear hq
        cases tp with
        | true =>
          have HR2 : Hid (d.on n d.raiseF = (d, 4)) := by rw [HR.out, HL.out]; rfl
          go_wp2_with (refine f3.out.mono ?_; rintro e w' ⟨rfl, rfl⟩)
          refine bodyPost_ret (v := .tuple #[icv d pA' pc' sA' sc', .int .i64 4]) (by simp [results, icv, Tryd.f37, go_sem, xr]) rfl ?_
          rw [HR2.out]
          have bR : w.heap.size ≤ w.heap.size + 1 := Nat.le_succ _
          have bD : w.heap.size ≤ D := by omega
          refine ⟨pA', pc', sA', sc', rfl, ?_, ?_, ?_, HO.out.new.mono (Nat.le_succ _)⟩
          · repeat (with_reducible first | refine Rd.set ?_ HO.out.p1 _ | refine Rd.set ?_ HO.out.p2 _ | refine Rd.drew ?_ | exact HO.out.prio)
          · repeat (with_reducible first | refine Rd.set ?_ HO.out.s1 _ | refine Rd.set ?_ HO.out.s2 _ | refine Rd.drew ?_ | exact HO.out.stack)
          · repeat (with_reducible first | refine Below.setCell ?_ bR _ | refine Below.setCell ?_ bD _ | refine Below.drew ?_ | exact HB.out)
        | false =>
          have HR2 : Hid (d.on n d.raiseF = ({ d with p := setB d.p n true }, 0)) := by rw [HR.out, HL.out]; rfl
          go_wp2_with fail
          refine f3.out.mono ?_
          rintro e w' ⟨rfl, rfl⟩
          go_wp2_with fail
          refine f3.out.mono ?_
          rintro e w' ⟨rfl, rfl⟩
          go_wp2_with fail
          refine bodyPost_ret (v := .tuple #[icv { d with p := setB d.p n true } pA' pc' sA' sc', .int .i64 0]) (by simp [results, icv, Tryd.f37, go_sem, xr]) rfl ?_
          rw [HR2.out]
          have bR : w.heap.size ≤ w.heap.size + 1 := Nat.le_succ _
          have bD : w.heap.size ≤ D := by omega
          refine ⟨pA', pc', sA', sc', rfl, ?_, ?_, ?_, HO.out.new.mono (Nat.le_succ _)⟩
          · repeat (with_reducible first | refine Rd.set ?_ HO.out.p1 _ | refine Rd.set ?_ HO.out.p2 _ | refine Rd.drew ?_ | exact HO.out.prio)
          · repeat (with_reducible first | refine Rd.set ?_ HO.out.s1 _ | refine Rd.set ?_ HO.out.s2 _ | refine Rd.drew ?_ | exact HO.out.stack)
          · repeat (with_reducible first | refine Below.setCell ?_ bR _ | refine Below.setCell ?_ bD _ | refine Below.drew ?_ | exact HB.out)
      | false =>
        have HR2 : Hid (d.on n d.raiseF = ({ d with r := setB d.r n true, p := if (ofList d.stack).testBit n = true then d.p else setB d.p n true }, 0)) := by rw [HR.out, HL.out]; rfl
        go_wp2_with fail
        refine f3.out.mono ?_
        rintro e w' ⟨rfl, rfl⟩
        go_wp2_with fail
        refine f3.out.mono ?_
        rintro e w' ⟨rfl, rfl⟩
        generalize hpp : (if (ofList d.stack).testBit n = true then d.p else setB d.p n true) = pp at *
        clear hpp
        have s6 : (w1.setCell ⟨D, 2, none⟩ (.int .u64 ((setB d.r n true : Nat) : Int))).cell? ⟨D, 6, none⟩ = some (.slice sA' d.stack.length sc') := cell_set_far (by rw [xd]; rfl) (by simp) _
        have f5 := Lib.hid (active_raw d (w := (w1.setCell ⟨D, 2, none⟩ (.int .u64 ((setB d.r n true : Nat) : Int))).drew) s6 ((HO.out.stack.set (p := ⟨D, 2, none⟩) HO.out.s2 _).drew) hf.stack (st_range hk))
        clear s6
        go_wp2_with fail
        refine still_tail 13 (by kernel_rfl) (by kernel_rfl) ?_
        simp only [List.take_succ_cons, List.take_zero, List.drop_succ_cons, List.drop_zero]
        repeat still_step
        still_call (f5.out.mono fun _ _ ⟨a, b⟩ => ⟨a, b.symm⟩)
        repeat still_step
        refine wpStill_nil ?_
        go_wp2_with fail
        refine bodyPost_ret (v := .tuple #[icv { d with r := setB d.r n true, p := pp } pA' pc' sA' sc', .int .i64 0]) (by simp [results, icv, Tryd.f37, go_sem, xr]) rfl ?_
        rw [HR2.out]
        have bR : w.heap.size ≤ w.heap.size + 1 := Nat.le_succ _
        have bD : w.heap.size ≤ D := by omega
        refine ⟨pA', pc', sA', sc', rfl, ?_, ?_, ?_, HO.out.new.mono (Nat.le_succ _)⟩
        · repeat (with_reducible first | refine Rd.set ?_ HO.out.p1 _ | refine Rd.set ?_ HO.out.p2 _ | refine Rd.drew ?_ | exact HO.out.prio)
        · repeat (with_reducible first | refine Rd.set ?_ HO.out.s1 _ | refine Rd.set ?_ HO.out.s2 _ | refine Rd.drew ?_ | exact HO.out.stack)
        · repeat (with_reducible first | refine Below.setCell ?_ bR _ | refine Below.setCell ?_ bD _ | refine Below.drew ?_ | exact HB.out)
    · have f1 := Lib.hid (fun w hp hs => open_good d hf hk pA pc sA sc line w hp hs)
      have Hp := Lib.hid hp; clear hp
      have Hs := Lib.hid hs; clear hs
      have HR := Lib.hid (IC.on_out hk hl d.raiseF)
      have hle : lineErr d.prio.length line = 1 := by unfold lineErr; rw [if_neg hl]
      have Hle := Lib.hid hle; clear hle
      unfold icv at *
      go_enter Tryd.func37, Tryd.ntmps37
      go_wp2_with fail
      refine (f1.out _ ((Hp.out.alloc _).alloc _) ((Hs.out.alloc _).alloc _)).mono ?_
      rintro e w1 ⟨D, pA', pc', sA', sc', rfl, hD, hb⟩
      have HXr := Lib.hid (box_new hb)
      obtain ⟨xr, yr⟩ := box_rules HXr.out
      have HD := Lib.hid hD; clear hD
      obtain ⟨xd, yd⟩ := box_rules HD.out.blk
      have ld := box_lt HD.out.blk
      have lr := box_lt HXr.out
      have lD := HD.out.lo
      rw [World.size_alloc, World.size_alloc] at lD
      rw [World.size_alloc] at xr yr lr
      have HB := Lib.hid ((((Below.refl w.heap.size w).alloc (Nat.le_refl _) _).alloc (by simp) _).trans (hb.mono (by simp; omega)))
      have HO := Lib.hid (opened (r := w.heap.size + 1) HD.out (by simp))
      clear hb HXr
      rw [Hle.out]
      go_wp2_with fail
      refine bodyPost_ret (v := .tuple #[icv d pA' pc' sA' sc', .int .i64 1]) (by simp [results, icv, Tryd.f37, go_sem, xr]) rfl ?_
      rw [HR.out]
      have bR : w.heap.size ≤ w.heap.size + 1 := Nat.le_succ _
      have bD : w.heap.size ≤ D := by omega
      refine ⟨pA', pc', sA', sc', rfl, ?_, ?_, ?_, HO.out.new.mono (Nat.le_succ _)⟩
      · repeat (with_reducible first | refine Rd.set ?_ HO.out.p1 _ | refine Rd.set ?_ HO.out.p2 _ | refine Rd.drew ?_ | exact HO.out.prio)
      · repeat (with_reducible first | refine Rd.set ?_ HO.out.s1 _ | refine Rd.set ?_ HO.out.s2 _ | refine Rd.drew ?_ | exact HO.out.stack)
      · repeat (with_reducible first | refine Below.setCell ?_ bR _ | refine Below.setCell ?_ bD _ | refine Below.drew ?_ | exact HB.out)
  · have f1 := Lib.hid (fun w hp hs => open_bad d hf hk pA pc sA sc line w hp hs)
    have HR := Lib.hid (IC.on_bad hk line d.raiseF)
    have Hp := Lib.hid hp; clear hp
    have Hs := Lib.hid hs; clear hs
    unfold icv at *
    go_enter Tryd.func37, Tryd.ntmps37
    go_wp2_with fail
    refine (f1.out _ ((Hp.out.alloc _).alloc _) ((Hs.out.alloc _).alloc _)).mono ?_
    rintro e w1 ⟨D, rfl, lD, hD, hb⟩
    have HXr := Lib.hid (box_new hb)
    obtain ⟨xr, yr⟩ := box_rules HXr.out
    have lr := box_lt HXr.out
    have HD := Lib.hid hD; clear hD
    obtain ⟨xd, yd⟩ := box_rules HD.out
    have ld := box_lt HD.out
    rw [World.size_alloc, World.size_alloc] at lD
    rw [World.size_alloc] at xr yr lr
    have HB := Lib.hid ((((Below.refl w.heap.size w).alloc (Nat.le_refl _) _).alloc (by simp) _).trans (hb.mono (by simp; omega)))
    clear hb HXr
    go_wp2_with fail
    refine bodyPost_ret (v := .tuple #[icv IC.zero none 0 none 0, .int .i64 2]) (by simp [results, icv, IC.zero, Tryd.f37, go_sem, xr]) rfl ?_
    rw [HR.out]
    have bR : w.heap.size ≤ w.heap.size + 1 := Nat.le_succ _
    refine ⟨none, 0, none, 0, rfl, Rd.nil _ _, Rd.nil _ _, ?_, New.none _⟩
    repeat (with_reducible first | refine Below.setCell ?_ bR _ | exact HB.out)

end
end Go.Proofs.YtpncbkodhojicaaDoor
/- Package intc: the walks of Level and Next. Conditions: the argument's lists read as they are said to; the de Bruijn table as its initialiser lays it (Next). (Printed by gen_intc.py.) -/
namespace Go.Proofs.YtpncbkodhojicaaDoor
open Go.RowKit Go.Shelf

open Classical in
/-- A number of a right controller. -/
noncomputable def IC.num (d : IC) (f : Int × Int) : Int × Int := if d.ok then f else (0, 2)
theorem IC.num_ok {d : IC} (hk : d.ok) (f : Int × Int) : d.num f = f := by unfold IC.num; rw [if_pos hk]
theorem IC.num_bad {d : IC} (hk : ¬ d.ok) (f : Int × Int) : d.num f = (0, 2) := by unfold IC.num; rw [if_neg hk]
def IC.nextF (d : IC) : Int × Int := if d.best = 64 then (0, 3) else (d.best, 0)

section
variable (d : IC) (hf : d.Fits) (pA : Option Addr) (pc : Nat) (sA : Option Addr) (sc : Nat) (w : World) (hp : Rd w pA (d.prio.map (.int .i64))) (hs : Rd w sA (d.stack.map (.int .i64)))
include hf hp hs


set_option maxHeartbeats 1000000 in
set_option maxRecDepth 100000 in
theorem nextC_any (hT : Tab w) : Calls Tryd.prog 39 #[icv d pA pc sA sc] w (RetN (d.num d.nextF) w) := by
  by_cases hk : d.ok
  · have f1 := Lib.hid (fun w hp hs => open_good d hf hk pA pc sA sc 0 w hp hs)
    have Hp := Lib.hid hp; clear hp
    have Hs := Lib.hid hs; clear hs
    have h1 := hk.len1
    have hle : lineErr d.prio.length 0 = 0 := by unfold lineErr; rw [if_pos ⟨by omega, by omega⟩]
    have Hle := Lib.hid hle; clear hle
    have HR := Lib.hid (IC.num_ok hk d.nextF)
    unfold icv at *
    go_enter Tryd.func39, Tryd.ntmps39
    go_wp2_with fail
    refine (f1.out _ (Hp.out.alloc _) (Hs.out.alloc _)).mono ?_
    rintro e w1 ⟨D, pA', pc', sA', sc', rfl, hD, hb⟩
    have HB := Lib.hid (((Below.refl w.heap.size w).alloc (Nat.le_refl _) _).trans (hb.mono (by simp)))
    have HD := Lib.hid hD; clear hD hb
    rw [Hle.out]
    have f2 := Lib.hid (next_any HD.out hf hk (hT.below HB.out hT.lt))
    have HL : Hid (d.nextF = if d.best = 64 then (0, 3) else (d.best, 0)) := rfl
    unfold NextPost at f2
    generalize d.best = b at *
    go_wp2_with fail
    refine f2.out.mono ?_
    rintro e w' ⟨rfl, hb2⟩
    have HB2 := Lib.hid hb2; clear hb2
    by_cases h64 : b = 64
    · subst h64
      have he : ((64 : Int) != 64) = false := rfl
      rw [he]
      go_wp2_with fail
      go_ret2
      rw [HR.out, HL.out]
      exact ⟨rfl, HB.out.trans (HB2.out.mono HB.out.size)⟩
    · have he : (b != 64) = true := by simpa using h64
      have H64 := Lib.hid h64; clear h64
      rw [he]
      go_wp2_with fail
      go_ret2
      rw [HR.out, HL.out, if_neg H64.out]
      exact ⟨rfl, HB.out.trans (HB2.out.mono HB.out.size)⟩
  · have f1 := Lib.hid (fun w hp hs => open_bad d hf hk pA pc sA sc 0 w hp hs)
    have HR := Lib.hid (IC.num_bad hk d.nextF)
    have Hp := Lib.hid hp; clear hp
    have Hs := Lib.hid hs; clear hs
    unfold icv at *
    go_enter Tryd.func39, Tryd.ntmps39
    go_wp2_with fail
    refine (f1.out _ (Hp.out.alloc _) (Hs.out.alloc _)).mono ?_
    rintro e w1 ⟨D, rfl, lD, hD, hb⟩
    have HB := Lib.hid (((Below.refl w.heap.size w).alloc (Nat.le_refl _) _).trans (hb.mono (by simp)))
    clear hD hb
    go_wp2_with fail
    go_ret2
    rw [HR.out]
    exact ⟨rfl, HB.out⟩

end
end Go.Proofs.YtpncbkodhojicaaDoor
/- Package intc: the walk of Ack. Conditions: the argument's lists read as they are said to; the de Bruijn table as its initialiser lays it. -/
namespace Go.Proofs.YtpncbkodhojicaaDoor
open Go.RowKit Go.Shelf

theorem IC.pick_or (d : IC) : ∀ (l : List Nat) (s : Int × Int), d.pick l s = s ∨ ∃ n, n ∈ l ∧ d.pick l s = ((n : Int), d.pr n) ∧ s.2 < d.pr n
  | [], _ => .inl rfl
  | n :: l, s => by
    unfold IC.pick
    by_cases h : s.2 < d.pr n
    · rw [if_pos h]
      rcases IC.pick_or d l ((n : Int), d.pr n) with e | ⟨m, hm, e, hl⟩
      · exact .inr ⟨n, by simp, e, h⟩
      · exact .inr ⟨m, by simp [hm], e, Int.lt_trans h hl⟩
    · rw [if_neg h]
      rcases IC.pick_or d l s with e | ⟨m, hm, e, hl⟩
      · exact .inl e
      · exact .inr ⟨m, by simp [hm], e, hl⟩
/-- The next line is none, or one that waits, more urgent than the level. -/
theorem IC.best_or (d : IC) (hk : d.ok) : d.best = 64 ∨ ∃ n : Nat, n < d.prio.length ∧ d.best = (n : Int) ∧ d.level < d.pr n ∧ d.waits.testBit n = true := by
  unfold IC.best
  rcases d.pick_or (bitsOf d.waits) (64, d.level) with e | ⟨n, hn, e, hl⟩
  · exact .inl (by rw [e])
  · obtain ⟨h64, hb⟩ := mem_bitsOf.1 hn
    refine .inr ⟨n, ?_, by rw [e], hl, hb⟩
    apply Classical.byContradiction
    intro hx
    have h1 := (hk.sets n (by omega) h64).1
    unfold IC.waits at hb
    rw [Nat.testBit_and, Nat.testBit_and, h1] at hb
    simp at hb

open Classical in
/-- What a call that serves comes to: f says what becomes of a right controller. -/
noncomputable def IC.three (d : IC) (f : IC × Int × Int) : IC × Int × Int := if d.ok then f else (IC.zero, 0, 2)
theorem IC.three_ok {d : IC} (hk : d.ok) (f : IC × Int × Int) : d.three f = f := by unfold IC.three; rw [if_pos hk]
theorem IC.three_bad {d : IC} (hk : ¬ d.ok) (f : IC × Int × Int) : d.three f = (IC.zero, 0, 2) := by unfold IC.three; rw [if_neg hk]
def IC.ackF (d : IC) : IC × Int × Int := if d.best = 64 then (d, 64, 0) else ({ d with p := setB d.p d.best.toNat false, stack := d.stack ++ [d.best] }, d.best, 0)
def IC.endF (d : IC) : IC × Int × Int :=
  if d.stack = [] then (d, 0, 7) else
  ({ d with p := if d.r.testBit (d.st (d.stack.length - 1)).toNat = true then setB d.p (d.st (d.stack.length - 1)).toNat true else d.p, stack := d.stack.dropLast }, d.st (d.stack.length - 1), 0)

theorem Rd.grown {w w' : World} {A : Option Addr} {vs : List Value} {row : Option Nat} (h : Rd w A vs) (hg : w.grownBy w' row) (hne : ∀ a, A = some a → some a.block ≠ row) : Rd w' A vs := fun i v hv => by
  obtain ⟨a, ha, hc⟩ := h i v hv
  refine ⟨a, ha, ?_⟩
  rw [← hc]
  exact World.cell?_of_block (by rw [add_block]; exact hg.block _ (Rd.lt hc) (hne a ha))

theorem own_set {w : World} {base : Nat} {e : TypeId} {A : Option Addr} {n c : Nat} {vs : List Value} (h : w.ownsRow base e 1 (.slice A n c) n vs) {p : Addr} (hp : ∀ a, A = some a → a.block ≠ p.block) (u : Value) : (w.setCell p u).ownsRow base e 1 (.slice A n c) n vs := by
  refine ⟨h.1, ?_⟩
  rcases h.2 with h2 | ⟨g, cap, cur, h1, h2, h3, h4⟩
  · exact .inl h2
  · refine .inr ⟨g, cap, cur, h1, h2, ?_, h4⟩
    injection h1 with h1
    exact box_far h3 (hp _ h1) u
theorem row_ne {D : Nat} {A : Option Addr} (n c : Nat) (h : ∀ a, A = some a → a.block ≠ D) : some D ≠ (Value.slice A n c).ownBlock := by
  cases A with
  | none => intro e; cases e
  | some a => intro e; cases e; exact h a rfl rfl
theorem row_off {A B : Option Addr} (n c : Nat) (h : ∀ a b, A = some a → B = some b → a.block ≠ b.block) : ∀ a, A = some a → some a.block ≠ (Value.slice B n c).ownBlock := fun a ha => row_ne n c fun b hb e => h a b ha hb e.symm
theorem box_drew {w : World} {b : Nat} {o : Obj} (h : w.heap[b]? = some o) : w.drew.heap[b]? = some o := h
theorem box_grown {w w' : World} {b : Nat} {o : Obj} {row : Option Nat} (h : w.heap[b]? = some o) (hg : w.grownBy w' row) (hne : some b ≠ row) : w'.heap[b]? = some o := (hg.block b (box_lt h) hne).trans h

section
variable (d : IC) (hf : d.Fits) (pA : Option Addr) (pc : Nat) (sA : Option Addr) (sc : Nat) (w : World) (hp : Rd w pA (d.prio.map (.int .i64))) (hs : Rd w sA (d.stack.map (.int .i64)))
include hf hp hs

set_option maxHeartbeats 1000000 in
set_option maxRecDepth 100000 in
theorem ack_any (hT : Tab w) : Calls Tryd.prog 42 #[icv d pA pc sA sc] w (RetIN (d.three d.ackF) w) := by
  by_cases hk : d.ok
  · have f1 := Lib.hid (fun w hp hs => open_good d hf hk pA pc sA sc 0 w hp hs)
    have Hp := Lib.hid hp; clear hp
    have Hs := Lib.hid hs; clear hs
    have h1 := hk.len1
    have hle : lineErr d.prio.length 0 = 0 := by unfold lineErr; rw [if_pos ⟨by omega, by omega⟩]
    have Hle := Lib.hid hle; clear hle
    have HR := Lib.hid (IC.three_ok hk d.ackF)
    unfold icv at *
    go_enter Tryd.func42, Tryd.ntmps42
    go_wp2_with fail
    refine (f1.out _ ((Hp.out.alloc _).alloc _) ((Hs.out.alloc _).alloc _)).mono ?_
    rintro e w1 ⟨D, pA', pc', sA', sc', rfl, hD, hb⟩
    have HXr := Lib.hid (box_new hb)
    have lD := hD.lo
    rw [World.size_alloc, World.size_alloc] at lD
    have HB := Lib.hid ((((Below.refl w.heap.size w).alloc (Nat.le_refl _) _).alloc (by simp) _).trans (hb.mono (by simp; omega)))
    have HD := Lib.hid hD; clear hD hb
    rw [Hle.out]
    have f2 := Lib.hid (next_any HD.out hf hk (hT.below HB.out hT.lt))
    unfold NextPost at f2
    have HL : Hid (d.ackF = if d.best = 64 then (d, 64, 0) else ({ d with p := setB d.p d.best.toNat false, stack := d.stack ++ [d.best] }, d.best, 0)) := rfl
    have hbo := d.best_or hk
    generalize d.best = b at *
    go_wp2_with fail
    refine f2.out.mono ?_
    rintro e w2 ⟨rfl, hb2⟩
    have HX2 := Lib.hid (box_keep HXr.out hb2)
    have HB2 := Lib.hid (HB.out.trans (hb2.mono HB.out.size))
    have HD2 : Hid (Desk w2 _ D d pA' pc' sA' sc') := ⟨HD.out.lo, box_keep HD.out.blk hb2, own_below HD.out.prio hb2, own_below HD.out.stack hb2, HD.out.apart⟩
    have HO := Lib.hid (opened (r := w.heap.size + 1) HD2.out (by simp))
    clear hb2 HXr HB HD
    obtain ⟨xr, yr⟩ := box_rules HX2.out
    have lr := box_lt HX2.out
    obtain ⟨xd, yd⟩ := box_rules HD2.out.blk
    have ld := box_lt HD2.out.blk
    rw [World.size_alloc] at xr yr lr
    have bR : w.heap.size ≤ w.heap.size + 1 := Nat.le_succ _
    have bD : w.heap.size ≤ D := by omega
    by_cases h64 : b = 64
    · subst h64
      have he : ((64 : Int) != 64) = false := rfl
      have HR2 : Hid (d.three d.ackF = (d, 64, 0)) := by rw [HR.out, HL.out]; rfl
      clear HL HR hbo
      rw [he]
      go_wp2_with fail
      refine bodyPost_ret (v := .tuple #[icv d pA' pc' sA' sc', .int .i64 64, .int .i64 0]) (by simp [results, icv, Tryd.f42, go_sem, xr]) rfl ?_
      rw [HR2.out]
      refine ⟨pA', pc', sA', sc', rfl, ?_, ?_, ?_, HO.out.new.mono (Nat.le_succ _)⟩
      · repeat (with_reducible first | refine Rd.set ?_ HO.out.p1 _ | refine Rd.set ?_ HO.out.p2 _ | refine Rd.drew ?_ | exact HO.out.prio)
      · repeat (with_reducible first | refine Rd.set ?_ HO.out.s1 _ | refine Rd.set ?_ HO.out.s2 _ | refine Rd.drew ?_ | exact HO.out.stack)
      · repeat (with_reducible first | refine Below.setCell ?_ bR _ | refine Below.setCell ?_ bD _ | refine Below.drew ?_ | exact HB2.out)
    · obtain ⟨n, hn, rfl, hlv, hwt⟩ := hbo.resolve_left h64
      have HR2 : Hid (d.three d.ackF = ({ d with p := setB d.p n false, stack := d.stack ++ [(n : Int)] }, (n : Int), 0)) := by rw [HR.out, HL.out, if_neg h64]; rfl
      have he : ((n : Int) != 64) = true := by simpa using h64
      have hn64 : n < 64 := by have := hk.len2; omega
      clear h64 hlv hwt HL HR hbo
      have u1 := u_andNot hf.p hn64
      rw [he]
      clear he
      go_wp2_with fail
      refine still_tail 11 (by kernel_rfl) (by kernel_rfl) ?_
      simp only [List.take_succ_cons, List.take_zero, List.drop_succ_cons, List.drop_zero]
      repeat still_step
      refine wpStill_nil ?_
      have hst := hf.stack
      have zw := HD2.out.lo
      have HW := Lib.hid ((own_set HD2.out.stack (p := ⟨D, 0, none⟩) HO.out.s2 (.int .u64 ((setB d.p n false : Nat) : Int))).alloc (.cells #[.int .i64 n] 3))
      go_wp2_with (at_builtin; refine wp_app1g rfl _ _ sl_int (by decide) rfl HW.out rfl (by omega) (by simp at zw ⊢; omega) w2.heap.size (.int .i64 n) rfl (by go_simp) rfl ?_; intro A' c' w3 hown' hg hat; have HXD : Hid (w3.heap[D]? = some (.cells #[.int .u64 ((setB d.p n false : Nat) : Int), .int .u64 d.e, .int .u64 d.r, .int .u64 d.g, .slice pA' d.prio.length pc', .int .i64 d.t, .slice sA' d.stack.length sc'] 128 (0, 0))) := box_grown (box_drew (box_alloc (box_set HD2.out.blk _) _)) hg (row_ne _ _ HO.out.s2); have HXR := Lib.hid (box_grown (box_drew (box_alloc (box_far HX2.out (p := ⟨D, 0, none⟩) (by show _ ≠ D; simp; omega) _) _)) hg (row_ne _ _ (by simpa using HO.out.s1))); obtain ⟨xd3, yd3⟩ := box_rules HXD.out; obtain ⟨xr3, yr3⟩ := box_rules HXR.out; rw [World.size_alloc] at xr3 yr3; have ld3 := box_lt HXD.out; have lr3 := box_lt HXR.out; rw [World.size_alloc] at lr3)
      have HN := Lib.hid (fun a (ha : A' = some a) => own_other hown' HXD.out (by decide) a ha)
      have HP3 := Lib.hid (((HO.out.prio.set HO.out.p2 (.int .u64 ((setB d.p n false : Nat) : Int))).alloc (.cells #[.int .i64 n] 3)).drew.grown hg (row_off _ _ HD2.out.apart))
      have HB3 := Lib.hid (((HB2.out.setCell bD (.int .u64 ((setB d.p n false : Nat) : Int))).alloc (Nat.le_trans bD (by simp; omega)) (.cells #[.int .i64 n] 3)).drew.grown hg (by simp; omega) (fun k hk => by have := (HW.out.lt k hk).1; simp at this; omega))
      have HN2 := Lib.hid (fun a (ha : A' = some a) => show a.block ≠ w.heap.size + 1 from fun e => by have := (own_block hown' ha).1; simp at this; omega)
      have HN3 := Lib.hid (fun a (ha : A' = some a) => show w.heap.size ≤ a.block from by have := (own_block hown' ha).1; simp at this; omega)
      have HS3 := Lib.hid (own_rd hown')
      clear hown' hg hat
      refine bodyPost_ret (v := .tuple #[icv { d with p := setB d.p n false, stack := d.stack ++ [(n : Int)] } pA' pc' A' c', .int .i64 n, .int .i64 0]) (by simp [results, icv, Tryd.f42, go_sem, xr3]) rfl ?_
      rw [HR2.out]
      refine ⟨pA', pc', A', c', rfl, ?_, ?_, ?_, ⟨fun a ha => Nat.le_of_succ_le (HO.out.new.1 a ha), HN3.out⟩⟩
      · repeat (with_reducible first | refine Rd.set ?_ HO.out.p1 _ | refine Rd.set ?_ HO.out.p2 _ | refine Rd.drew ?_ | exact HP3.out)
      · show Rd _ _ ((d.stack ++ [(n : Int)]).map (.int .i64))
        rw [List.map_append]
        show Rd _ _ (d.stack.map (.int .i64) ++ [.int .i64 n])
        repeat (with_reducible first | refine Rd.set ?_ HN.out _ | refine Rd.set ?_ HN2.out _ | refine Rd.drew ?_ | exact HS3.out)
      · repeat (with_reducible first | refine Below.setCell ?_ bR _ | refine Below.setCell ?_ bD _ | refine Below.drew ?_ | exact HB3.out)
  · have f1 := Lib.hid (fun w hp hs => open_bad d hf hk pA pc sA sc 0 w hp hs)
    have HR := Lib.hid (IC.three_bad hk d.ackF)
    have Hp := Lib.hid hp; clear hp
    have Hs := Lib.hid hs; clear hs
    unfold icv at *
    go_enter Tryd.func42, Tryd.ntmps42
    go_wp2_with fail
    refine (f1.out _ ((Hp.out.alloc _).alloc _) ((Hs.out.alloc _).alloc _)).mono ?_
    rintro e w1 ⟨D, rfl, lD, hD, hb⟩
    have HXr := Lib.hid (box_new hb)
    obtain ⟨xr, yr⟩ := box_rules HXr.out
    have lr := box_lt HXr.out
    have HD := Lib.hid hD; clear hD
    obtain ⟨xd, yd⟩ := box_rules HD.out
    have ld := box_lt HD.out
    rw [World.size_alloc, World.size_alloc] at lD
    rw [World.size_alloc] at xr yr lr
    have HB := Lib.hid ((((Below.refl w.heap.size w).alloc (Nat.le_refl _) _).alloc (by simp) _).trans (hb.mono (by simp; omega)))
    clear hb HXr
    go_wp2_with fail
    refine bodyPost_ret (v := .tuple #[icv IC.zero none 0 none 0, .int .i64 0, .int .i64 2]) (by simp [results, icv, IC.zero, Tryd.f42, go_sem, xr]) rfl ?_
    rw [HR.out]
    have bR : w.heap.size ≤ w.heap.size + 1 := Nat.le_succ _
    refine ⟨none, 0, none, 0, rfl, Rd.nil _ _, Rd.nil _ _, ?_, New.none _⟩
    repeat (with_reducible first | refine Below.setCell ?_ bR _ | exact HB.out)
end
end Go.Proofs.YtpncbkodhojicaaDoor
/- Package intc: the walk of End. Conditions: the argument's lists read as they are said to. -/
namespace Go.Proofs.YtpncbkodhojicaaDoor
open Go.RowKit Go.Shelf

theorem own_at {w : World} {base : Nat} {e : TypeId} {a : Addr} {n c : Nat} {vs : List Value} (h : w.ownsRow base e 1 (.slice (some a) n c) n vs) : (∃ g, a = ⟨g, 0, none⟩) ∧ n ≤ c := by
  rcases h.2 with ⟨h, _⟩ | ⟨g, cap, cur, h, _, _, hnc, _⟩
  · injection h with h; cases h
  · injection h with h h1 h2
    injection h with h
    exact ⟨⟨g, h⟩, by omega⟩

section
variable (d : IC) (hf : d.Fits) (pA : Option Addr) (pc : Nat) (sA : Option Addr) (sc : Nat) (w : World) (hp : Rd w pA (d.prio.map (.int .i64))) (hs : Rd w sA (d.stack.map (.int .i64)))
include hf hp hs

set_option maxHeartbeats 1000000 in
set_option maxRecDepth 100000 in
theorem end_any : Calls Tryd.prog 44 #[icv d pA pc sA sc] w (RetIN (d.three d.endF) w) := by
  by_cases hk : d.ok
  · have f1 := Lib.hid (fun w hp hs => open_good d hf hk pA pc sA sc 0 w hp hs)
    have Hp := Lib.hid hp; clear hp
    have Hs := Lib.hid hs; clear hs
    have h1 := hk.len1
    have hle : lineErr d.prio.length 0 = 0 := by unfold lineErr; rw [if_pos ⟨by omega, by omega⟩]
    have Hle := Lib.hid hle; clear hle
    have HR := Lib.hid (IC.three_ok hk d.endF)
    unfold icv at *
    go_enter Tryd.func44, Tryd.ntmps44
    go_wp2_with fail
    refine (f1.out _ ((Hp.out.alloc _).alloc _) ((Hs.out.alloc _).alloc _)).mono ?_
    rintro e w1 ⟨D, pA', pc', sA', sc', rfl, hD, hb⟩
    have HXr := Lib.hid (box_new hb)
    have lD := hD.lo
    rw [World.size_alloc, World.size_alloc] at lD
    have HB := Lib.hid ((((Below.refl w.heap.size w).alloc (Nat.le_refl _) _).alloc (by simp) _).trans (hb.mono (by simp; omega)))
    have HD := Lib.hid hD; clear hD hb
    rw [Hle.out]
    have HO := Lib.hid (opened (r := w.heap.size + 1) HD.out (by simp))
    obtain ⟨xr, yr⟩ := box_rules HXr.out
    have lr := box_lt HXr.out
    obtain ⟨xd, yd⟩ := box_rules HD.out.blk
    have ld := box_lt HD.out.blk
    rw [World.size_alloc] at xr yr lr
    have bR : w.heap.size ≤ w.heap.size + 1 := Nat.le_succ _
    have bD : w.heap.size ≤ D := by omega
    by_cases hst : d.stack = []
    · have HR2 : Hid (d.three d.endF = (d, 0, 7)) := by rw [HR.out]; unfold IC.endF; rw [if_pos hst]; rfl
      have hm : d.stack.length = 0 := by rw [hst]; rfl
      have HM := Lib.hid hm
      rw [hm] at xd
      clear hst hm HR
      go_wp2_with fail
      refine bodyPost_ret (v := .tuple #[icv d pA' pc' sA' sc', .int .i64 0, .int .i64 7]) (by simp [results, icv, Tryd.f44, go_sem, xr, HM.out]) rfl ?_
      rw [HR2.out]
      refine ⟨pA', pc', sA', sc', rfl, ?_, ?_, ?_, HO.out.new.mono (Nat.le_succ _)⟩
      · repeat (with_reducible first | refine Rd.set ?_ HO.out.p1 _ | refine Rd.set ?_ HO.out.p2 _ | refine Rd.drew ?_ | exact HO.out.prio)
      · repeat (with_reducible first | refine Rd.set ?_ HO.out.s1 _ | refine Rd.set ?_ HO.out.s2 _ | refine Rd.drew ?_ | exact HO.out.stack)
      · repeat (with_reducible first | refine Below.setCell ?_ bR _ | refine Below.setCell ?_ bD _ | refine Below.drew ?_ | exact HB.out)
    · obtain ⟨m, hm⟩ : ∃ m, d.stack.length = m + 1 := ⟨d.stack.length - 1, by have := List.length_pos_iff.2 hst; omega⟩
      have hgd := hk.stack m (by omega)
      obtain ⟨n, hn⟩ := Int.eq_ofNat_of_zero_le hgd.1
      have hn64 : n < 64 := by have := hk.len2; have := hgd.2.1; omega
      have HR2 : Hid (d.three d.endF = ({ d with p := if d.r.testBit n = true then setB d.p n true else d.p, stack := d.stack.dropLast }, (n : Int), 0)) := by
        rw [HR.out]; unfold IC.endF; rw [if_neg hst, hm, Nat.add_sub_cancel, hn]; rfl
      obtain ⟨ba, rfl, c1⟩ := HO.out.stack.int (i := m) (by omega)
      obtain ⟨⟨g, rfl⟩, hcap⟩ := own_at HD.out.stack
      rw [add_zero_lit, Nat.zero_add] at c1
      change w1.cell? _ = some (.int .i64 (d.st m)) at c1
      rw [hn] at c1
      rw [hm] at xd
      have HM : Hid (d.stack.dropLast.length = m) := by show _ = _; rw [List.length_dropLast, hm]; rfl
      have HS2 : Hid (Rd w1 (some ⟨g, 0, none⟩) (d.stack.dropLast.map (.int .i64))) := by have h := HO.out.stack.take m; rw [← List.map_take] at h; rw [List.dropLast_eq_take, hm]; exact h
      have hsz := hf.stack
      have u1 := u_or_and (r := d.r) hf.p hn64 hf.r
      generalize hq : (if d.r.testBit n = true then setB d.p n true else d.p) = q at *
      clear hst HR hgd hn hq
      go_wp2_with fail
      refine still_tail 17 (by kernel_rfl) (by kernel_rfl) ?_
      simp only [List.take_succ_cons, List.take_zero, List.drop_succ_cons, List.drop_zero]
      repeat still_step
      refine wpStill_nil ?_
      go_wp2_with fail
      refine bodyPost_ret (v := .tuple #[icv { d with p := q, stack := d.stack.dropLast } pA' pc' (some ⟨g, 0, none⟩) sc', .int .i64 n, .int .i64 0]) (by simp [results, icv, Tryd.f44, go_sem, xr, HM.out]) rfl ?_
      rw [HR2.out]
      refine ⟨pA', pc', some ⟨g, 0, none⟩, sc', rfl, ?_, ?_, ?_, HO.out.new.mono (Nat.le_succ _)⟩
      · repeat (with_reducible first | refine Rd.set ?_ HO.out.p1 _ | refine Rd.set ?_ HO.out.p2 _ | refine Rd.drew ?_ | exact HO.out.prio)
      · repeat (with_reducible first | refine Rd.set ?_ HO.out.s1 _ | refine Rd.set ?_ HO.out.s2 _ | refine Rd.drew ?_ | exact HS2.out)
      · repeat (with_reducible first | refine Below.setCell ?_ bR _ | refine Below.setCell ?_ bD _ | refine Below.drew ?_ | exact HB.out)
  · have f1 := Lib.hid (fun w hp hs => open_bad d hf hk pA pc sA sc 0 w hp hs)
    have HR := Lib.hid (IC.three_bad hk d.endF)
    have Hp := Lib.hid hp; clear hp
    have Hs := Lib.hid hs; clear hs
    unfold icv at *
    go_enter Tryd.func44, Tryd.ntmps44
    go_wp2_with fail
    refine (f1.out _ ((Hp.out.alloc _).alloc _) ((Hs.out.alloc _).alloc _)).mono ?_
    rintro e w1 ⟨D, rfl, lD, hD, hb⟩
    have HXr := Lib.hid (box_new hb)
    obtain ⟨xr, yr⟩ := box_rules HXr.out
    have lr := box_lt HXr.out
    have HD := Lib.hid hD; clear hD
    obtain ⟨xd, yd⟩ := box_rules HD.out
    have ld := box_lt HD.out
    rw [World.size_alloc, World.size_alloc] at lD
    rw [World.size_alloc] at xr yr lr
    have HB := Lib.hid ((((Below.refl w.heap.size w).alloc (Nat.le_refl _) _).alloc (by simp) _).trans (hb.mono (by simp; omega)))
    clear hb HXr
    go_wp2_with fail
    refine bodyPost_ret (v := .tuple #[icv IC.zero none 0 none 0, .int .i64 0, .int .i64 2]) (by simp [results, icv, IC.zero, Tryd.f44, go_sem, xr]) rfl ?_
    rw [HR.out]
    have bR : w.heap.size ≤ w.heap.size + 1 := Nat.le_succ _
    refine ⟨none, 0, none, 0, rfl, Rd.nil _ _, Rd.nil _ _, ?_, New.none _⟩
    repeat (with_reducible first | refine Below.setCell ?_ bR _ | exact HB.out)
end
end Go.Proofs.YtpncbkodhojicaaDoor
/- Package intc: the walk of Make. Conditions: a word below 2^64, a list that reads. -/
namespace Go.Proofs.YtpncbkodhojicaaDoor
open Go.RowKit Go.Shelf

/-- A new controller. -/
def freshC (g : Nat) (l : List Int) : IC := ⟨0, mk (fun i => decide (i < l.length)), 0, g, l, 0, []⟩
open Classical in
noncomputable def makeC (g : Nat) (l : List Int) : IC × Int := if (freshC g l).ok then (freshC g l, 0) else (IC.zero, 2)
theorem makeC_ok {g : Nat} {l : List Int} (h : (freshC g l).ok) : makeC g l = (freshC g l, 0) := by unfold makeC; rw [if_pos h]
theorem makeC_bad {g : Nat} {l : List Int} (h : ¬ (freshC g l).ok) : makeC g l = (IC.zero, 2) := by unfold makeC; rw [if_neg h]
theorem freshC_fits {g : Nat} {l : List Int} (hg : g < 18446744073709551616) (hl : l.length ≤ 549755813888) : (freshC g l).Fits := ⟨by show (0 : Nat) < _; decide, mk_lt _, by show (0 : Nat) < _; decide, hg, hl, by show 0 ≤ _; decide⟩

set_option maxHeartbeats 1000000 in
set_option maxRecDepth 100000 in
theorem make_any (g : Nat) (hg : g < 18446744073709551616) (l : List Int) (hl : l.length ≤ 549755813888) (A : Option Addr) (c : Nat) (w : World) (hr : Rd w A (l.map (.int .i64))) :
    Calls Tryd.prog 26 #[.int .u64 g, .slice A l.length c] w (RetI (makeC g l) w) := by
  have f1 := Lib.hid (fun w hp => clone_any A l c w hl hp)
  have f2 := Lib.hid (fun A c sv w => lines_any 0 0 0 g l.length A c 0 sv w hl)
  have f3 := Lib.hid (fun A c w hp => check_any (freshC g l) (freshC_fits hg hl) A c none 0 w hp (Rd.nil w none))
  have HE : Hid (icv (freshC g l) = fun A c A' c' => .agg #[.int .u64 0, .int .u64 ((mk fun i => decide (i < l.length) : Nat) : Int), .int .u64 0, .int .u64 g, .slice A l.length c, .int .i64 0, .slice A' 0 c']) := rfl
  generalize he : (mk fun i => decide (i < l.length)) = e at *
  have He := Lib.hid he; clear he
  rw [HE.out] at f3
  have Hr := Lib.hid hr; clear hr
  go_enter Tryd.func26, Tryd.ntmps26
  go_wp2_with fail
  refine (f1.out _ (Hr.out.alloc _)).mono ?_
  rintro e' w1 ⟨A1, c1, rfl, ho1, hb1⟩
  have HX1 := Lib.hid (box_new hb1)
  obtain ⟨x1, y1⟩ := box_rules HX1.out
  have l1 := box_lt HX1.out
  have HB1 := Lib.hid (((Below.refl w.heap.size w).alloc (Nat.le_refl _) _).trans (hb1.mono (by simp)))
  have HO1 := Lib.hid ho1
  have q1 : ∀ a, A1 = some a → a.block ≠ w1.heap.size := by
    intro a ha e
    have := (HO1.out.lt a.block (by subst ha; rfl)).2
    omega
  have q2 : ∀ a, A1 = some a → a.block ≠ w.heap.size := by
    intro a ha e
    have := (own_block HO1.out ha).1
    simp at this
    omega
  clear ho1 hb1
  have Q1 := Lib.hid q1; have Q2 := Lib.hid q2; clear q1 q2
  have N1 := Lib.hid (fun a (ha : A1 = some a) => show w.heap.size ≤ a.block from by have := (own_block HO1.out ha).1; simp at this; omega)
  go_wp2_with fail
  refine (f2.out A1 c1 _ _).mono ?_
  rintro e' w2 ⟨rfl, hb2⟩
  have HX2 := Lib.hid (box_new hb2)
  obtain ⟨x2, y2⟩ := box_rules HX2.out
  have l2 := box_lt HX2.out
  have HXr := Lib.hid (box_keep (box_alloc HX1.out _) hb2)
  obtain ⟨xr, yr⟩ := box_rules HXr.out
  have lr := box_lt HXr.out
  have s1 := HB1.out.size
  have HB2 := Lib.hid ((HB1.out.alloc s1 _).trans (hb2.mono (by simp; omega)))
  have HO2 := Lib.hid (own_below (HO1.out.alloc _) hb2)
  clear hb2
  go_wp2_with fail
  refine (f3.out A1 c1 _ ?_).mono ?_
  · exact (own_rd HO2.out).set Q1.out _
  rintro e' w3 ⟨⟨z, rfl, hz⟩, hb3⟩
  have HX3 : Hid (w3.heap[w1.heap.size]? = some (.cells #[.int .u64 0, .int .u64 e, .int .u64 0, .int .u64 g, .slice A1 l.length c1, .int .i64 0, .slice none 0 0] 68 (0, 0))) := box_keep (box_set HX2.out _) hb3
  obtain ⟨x3, y3⟩ := box_rules HX3.out
  have l3 := box_lt HX3.out
  have HXr3 := Lib.hid (box_keep (box_far HXr.out (p := ⟨w1.heap.size, 1, none⟩) (by show _ ≠ w1.heap.size; omega) _) hb3)
  obtain ⟨xr3, yr3⟩ := box_rules HXr3.out
  have lr3 := box_lt HXr3.out
  have s2 := HB2.out.size
  have HB3 := Lib.hid ((HB2.out.setCell (p := ⟨w1.heap.size, 1, none⟩) s1 (.int .u64 e)).trans (hb3.mono (by simp; omega)))
  have HP3 := Lib.hid (((own_rd HO2.out).set (p := ⟨w1.heap.size, 1, none⟩) Q1.out (.int .u64 e)).below hb3)
  clear hb3
  have bR : w.heap.size ≤ w.heap.size := Nat.le_refl _
  rcases hz with ⟨hk, rfl⟩ | ⟨hk, rfl⟩
  · have HR := Lib.hid (makeC_ok hk)
    clear hk
    go_wp2_with fail
    refine bodyPost_ret (v := .tuple #[icv (freshC g l) A1 c1 none 0, .int .i64 0]) (by rw [HE.out]; simp [results, Tryd.f26, go_sem, xr3]) rfl ?_
    rw [HR.out]
    refine ⟨A1, c1, none, 0, rfl, ?_, Rd.nil _ _, ?_, ⟨N1.out, fun _ h => by cases h⟩⟩
    · show Rd _ _ (l.map (.int .i64))
      repeat (with_reducible first | refine Rd.set ?_ Q2.out _ | refine Rd.drew ?_ | exact HP3.out)
    · repeat (with_reducible first | refine Below.setCell ?_ bR _ | refine Below.drew ?_ | exact HB3.out)
  · have HR := Lib.hid (makeC_bad hk)
    clear hk
    go_wp2_with fail
    refine bodyPost_ret (v := .tuple #[icv IC.zero none 0 none 0, .int .i64 2]) (by simp [results, icv, IC.zero, Tryd.f26, go_sem, xr3]) rfl ?_
    rw [HR.out]
    refine ⟨none, 0, none, 0, rfl, Rd.nil _ _, Rd.nil _ _, ?_, New.none _⟩
    repeat (with_reducible first | refine Below.setCell ?_ bR _ | refine Below.drew ?_ | exact HB3.out)
end Go.Proofs.YtpncbkodhojicaaDoor

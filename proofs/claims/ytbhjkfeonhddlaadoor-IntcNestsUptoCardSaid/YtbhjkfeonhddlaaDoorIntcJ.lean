/- Package intc: the walk of Ack. Conditions: the argument's lists read as they are said to; the de Bruijn table as its initialiser lays it. -/
import Derived.Test.YtbhjkfeonhddlaaDoorIntcI
namespace Go.Proofs.YtbhjkfeonhddlaaDoor
open Go.RowKit Go.Shelf

theorem IC.pick_or (d : IC) : ∀ (l : List Nat) (s : Int × Int), d.pick l s = s ∨ ∃ n, n ∈ l ∧ d.pick l s = ((n : Int), d.pr n) ∧ s.2 < d.pr n
  | [], _ => .inl rfl
  | n :: l, s => by
    unfold IC.pick
    by_cases h : s.2 < d.pr n
    · rw [if_pos h]
      rcases IC.pick_or d l ((n : Int), d.pr n) with e | ⟨m, hm, e, hl⟩
      · exact .inr ⟨n, by simp, e, h⟩
      · exact .inr ⟨m, by simp [hm], e, Int.lt_trans h hl⟩
    · rw [if_neg h]
      rcases IC.pick_or d l s with e | ⟨m, hm, e, hl⟩
      · exact .inl e
      · exact .inr ⟨m, by simp [hm], e, hl⟩
/-- The next line is none, or one that waits, more urgent than the level. -/
theorem IC.best_or (d : IC) (hk : d.ok) : d.best = 64 ∨ ∃ n : Nat, n < d.prio.length ∧ d.best = (n : Int) ∧ d.level < d.pr n ∧ d.waits.testBit n = true := by
  unfold IC.best
  rcases d.pick_or (bitsOf d.waits) (64, d.level) with e | ⟨n, hn, e, hl⟩
  · exact .inl (by rw [e])
  · obtain ⟨h64, hb⟩ := mem_bitsOf.1 hn
    refine .inr ⟨n, ?_, by rw [e], hl, hb⟩
    apply Classical.byContradiction
    intro hx
    have h1 := (hk.sets n (by omega) h64).1
    unfold IC.waits at hb
    rw [Nat.testBit_and, Nat.testBit_and, h1] at hb
    simp at hb

open Classical in
/-- What a call that serves comes to: f says what becomes of a right controller. -/
noncomputable def IC.three (d : IC) (f : IC × Int × Int) : IC × Int × Int := if d.ok then f else (IC.zero, 0, 2)
theorem IC.three_ok {d : IC} (hk : d.ok) (f : IC × Int × Int) : d.three f = f := by unfold IC.three; rw [if_pos hk]
theorem IC.three_bad {d : IC} (hk : ¬ d.ok) (f : IC × Int × Int) : d.three f = (IC.zero, 0, 2) := by unfold IC.three; rw [if_neg hk]
def IC.ackF (d : IC) : IC × Int × Int := if d.best = 64 then (d, 64, 0) else ({ d with p := setB d.p d.best.toNat false, stack := d.stack ++ [d.best] }, d.best, 0)
def IC.endF (d : IC) : IC × Int × Int :=
  if d.stack = [] then (d, 0, 7) else
  ({ d with p := if d.r.testBit (d.st (d.stack.length - 1)).toNat = true then setB d.p (d.st (d.stack.length - 1)).toNat true else d.p, stack := d.stack.dropLast }, d.st (d.stack.length - 1), 0)

theorem Rd.grown {w w' : World} {A : Option Addr} {vs : List Value} {row : Option Nat} (h : Rd w A vs) (hg : w.grownBy w' row) (hne : ∀ a, A = some a → some a.block ≠ row) : Rd w' A vs := fun i v hv => by
  obtain ⟨a, ha, hc⟩ := h i v hv
  refine ⟨a, ha, ?_⟩
  rw [← hc]
  exact World.cell?_of_block (by rw [add_block]; exact hg.block _ (Rd.lt hc) (hne a ha))

theorem own_set {w : World} {base : Nat} {e : TypeId} {A : Option Addr} {n c : Nat} {vs : List Value} (h : w.ownsRow base e 1 (.slice A n c) n vs) {p : Addr} (hp : ∀ a, A = some a → a.block ≠ p.block) (u : Value) : (w.setCell p u).ownsRow base e 1 (.slice A n c) n vs := by
  refine ⟨h.1, ?_⟩
  rcases h.2 with h2 | ⟨g, cap, cur, h1, h2, h3, h4⟩
  · exact .inl h2
  · refine .inr ⟨g, cap, cur, h1, h2, ?_, h4⟩
    injection h1 with h1
    exact box_far h3 (hp _ h1) u
theorem row_ne {D : Nat} {A : Option Addr} (n c : Nat) (h : ∀ a, A = some a → a.block ≠ D) : some D ≠ (Value.slice A n c).ownBlock := by
  cases A with
  | none => intro e; cases e
  | some a => intro e; cases e; exact h a rfl rfl
theorem row_off {A B : Option Addr} (n c : Nat) (h : ∀ a b, A = some a → B = some b → a.block ≠ b.block) : ∀ a, A = some a → some a.block ≠ (Value.slice B n c).ownBlock := fun a ha => row_ne n c fun b hb e => h a b ha hb e.symm
theorem box_drew {w : World} {b : Nat} {o : Obj} (h : w.heap[b]? = some o) : w.drew.heap[b]? = some o := h
theorem box_grown {w w' : World} {b : Nat} {o : Obj} {row : Option Nat} (h : w.heap[b]? = some o) (hg : w.grownBy w' row) (hne : some b ≠ row) : w'.heap[b]? = some o := (hg.block b (box_lt h) hne).trans h

section
variable (d : IC) (hf : d.Fits) (pA : Option Addr) (pc : Nat) (sA : Option Addr) (sc : Nat) (w : World) (hp : Rd w pA (d.prio.map (.int .i64))) (hs : Rd w sA (d.stack.map (.int .i64)))
include hf hp hs

set_option maxHeartbeats 1000000 in
theorem ack_any (hT : Tab w) : Calls Tryd.prog 12 #[icv d pA pc sA sc] w (RetIN (d.three d.ackF) w) := by
  by_cases hk : d.ok
  · have f1 := Lib.hid (fun w hp hs => open_good d hf hk pA pc sA sc 0 w hp hs)
    have Hp := Lib.hid hp; clear hp
    have Hs := Lib.hid hs; clear hs
    have h1 := hk.len1
    have hle : lineErr d.prio.length 0 = 0 := by unfold lineErr; rw [if_pos ⟨by omega, by omega⟩]
    have Hle := Lib.hid hle; clear hle
    have HR := Lib.hid (IC.three_ok hk d.ackF)
    unfold icv at *
    go_enter Tryd.func12, Tryd.ntmps12
    go_wp2_with fail
    refine (f1.out _ ((Hp.out.alloc _).alloc _) ((Hs.out.alloc _).alloc _)).mono ?_
    rintro e w1 ⟨D, pA', pc', sA', sc', rfl, hD, hb⟩
    have HXr := Lib.hid (box_new hb)
    have lD := hD.lo
    rw [World.size_alloc, World.size_alloc] at lD
    have HB := Lib.hid ((((Below.refl w.heap.size w).alloc (Nat.le_refl _) _).alloc (by simp) _).trans (hb.mono (by simp; omega)))
    have HD := Lib.hid hD; clear hD hb
    rw [Hle.out]
    have f2 := Lib.hid (next_any HD.out hf hk (hT.below HB.out hT.lt))
    unfold NextPost at f2
    have HL : Hid (d.ackF = if d.best = 64 then (d, 64, 0) else ({ d with p := setB d.p d.best.toNat false, stack := d.stack ++ [d.best] }, d.best, 0)) := rfl
    have hbo := d.best_or hk
    generalize d.best = b at *
    go_wp2_with fail
    refine f2.out.mono ?_
    rintro e w2 ⟨rfl, hb2⟩
    have HX2 := Lib.hid (box_keep HXr.out hb2)
    have HB2 := Lib.hid (HB.out.trans (hb2.mono HB.out.size))
    have HD2 : Hid (Desk w2 _ D d pA' pc' sA' sc') := ⟨HD.out.lo, box_keep HD.out.blk hb2, own_below HD.out.prio hb2, own_below HD.out.stack hb2, HD.out.apart⟩
    have HO := Lib.hid (opened (r := w.heap.size + 1) HD2.out (by simp))
    clear hb2 HXr HB HD
    obtain ⟨xr, yr⟩ := box_rules HX2.out
    have lr := box_lt HX2.out
    obtain ⟨xd, yd⟩ := box_rules HD2.out.blk
    have ld := box_lt HD2.out.blk
    rw [World.size_alloc] at xr yr lr
    have bR : w.heap.size ≤ w.heap.size + 1 := Nat.le_succ _
    have bD : w.heap.size ≤ D := by omega
    by_cases h64 : b = 64
    · subst h64
      have he : ((64 : Int) != 64) = false := rfl
      have HR2 : Hid (d.three d.ackF = (d, 64, 0)) := by rw [HR.out, HL.out]; rfl
      clear HL HR hbo
      rw [he]
      go_wp2_with fail
      refine bodyPost_ret (v := .tuple #[icv d pA' pc' sA' sc', .int .i64 64, .int .i64 0]) (by simp [results, icv, Tryd.f12, go_sem, xr]) rfl ?_
      rw [HR2.out]
      refine ⟨pA', pc', sA', sc', rfl, ?_, ?_, ?_, HO.out.new.mono (Nat.le_succ _)⟩
      · repeat (with_reducible first | refine Rd.set ?_ HO.out.p1 _ | refine Rd.set ?_ HO.out.p2 _ | refine Rd.drew ?_ | exact HO.out.prio)
      · repeat (with_reducible first | refine Rd.set ?_ HO.out.s1 _ | refine Rd.set ?_ HO.out.s2 _ | refine Rd.drew ?_ | exact HO.out.stack)
      · repeat (with_reducible first | refine Below.setCell ?_ bR _ | refine Below.setCell ?_ bD _ | refine Below.drew ?_ | exact HB2.out)
    · obtain ⟨n, hn, rfl, hlv, hwt⟩ := hbo.resolve_left h64
      have HR2 : Hid (d.three d.ackF = ({ d with p := setB d.p n false, stack := d.stack ++ [(n : Int)] }, (n : Int), 0)) := by rw [HR.out, HL.out, if_neg h64]; rfl
      have he : ((n : Int) != 64) = true := by simpa using h64
      have hn64 : n < 64 := by have := hk.len2; omega
      clear h64 hlv hwt HL HR hbo
      have u1 := u_andNot hf.p hn64
      rw [he]
      clear he
      go_wp2_with fail
      refine still_tail 11 (by kernel_rfl) (by kernel_rfl) ?_
      simp only [List.take_succ_cons, List.take_zero, List.drop_succ_cons, List.drop_zero]
      repeat still_step
      refine wpStill_nil ?_
      have hst := hf.stack
      have zw := HD2.out.lo
      have HW := Lib.hid ((own_set HD2.out.stack (p := ⟨D, 0, none⟩) HO.out.s2 (.int .u64 ((setB d.p n false : Nat) : Int))).alloc (.cells #[.int .i64 n] 3))
      go_wp2_with (at_builtin; refine wp_app1g rfl _ _ sl_int (by decide) rfl HW.out rfl (by omega) (by simp at zw ⊢; omega) w2.heap.size (.int .i64 n) rfl (by go_simp) rfl ?_; intro A' c' w3 hown' hg hat; have HXD : Hid (w3.heap[D]? = some (.cells #[.int .u64 ((setB d.p n false : Nat) : Int), .int .u64 d.e, .int .u64 d.r, .int .u64 d.g, .slice pA' d.prio.length pc', .int .i64 d.t, .slice sA' d.stack.length sc'] 57 (0, 0))) := box_grown (box_drew (box_alloc (box_set HD2.out.blk _) _)) hg (row_ne _ _ HO.out.s2); have HXR := Lib.hid (box_grown (box_drew (box_alloc (box_far HX2.out (p := ⟨D, 0, none⟩) (by show _ ≠ D; simp; omega) _) _)) hg (row_ne _ _ (by simpa using HO.out.s1))); obtain ⟨xd3, yd3⟩ := box_rules HXD.out; obtain ⟨xr3, yr3⟩ := box_rules HXR.out; rw [World.size_alloc] at xr3 yr3; have ld3 := box_lt HXD.out; have lr3 := box_lt HXR.out; rw [World.size_alloc] at lr3)
      have HN := Lib.hid (fun a (ha : A' = some a) => own_other hown' HXD.out (by decide) a ha)
      have HP3 := Lib.hid (((HO.out.prio.set HO.out.p2 (.int .u64 ((setB d.p n false : Nat) : Int))).alloc (.cells #[.int .i64 n] 3)).drew.grown hg (row_off _ _ HD2.out.apart))
      have HB3 := Lib.hid (((HB2.out.setCell bD (.int .u64 ((setB d.p n false : Nat) : Int))).alloc (Nat.le_trans bD (by simp; omega)) (.cells #[.int .i64 n] 3)).drew.grown hg (by simp; omega) (fun k hk => by have := (HW.out.lt k hk).1; simp at this; omega))
      have HN2 := Lib.hid (fun a (ha : A' = some a) => show a.block ≠ w.heap.size + 1 from fun e => by have := (own_block hown' ha).1; simp at this; omega)
      have HN3 := Lib.hid (fun a (ha : A' = some a) => show w.heap.size ≤ a.block from by have := (own_block hown' ha).1; simp at this; omega)
      have HS3 := Lib.hid (own_rd hown')
      clear hown' hg hat
      refine bodyPost_ret (v := .tuple #[icv { d with p := setB d.p n false, stack := d.stack ++ [(n : Int)] } pA' pc' A' c', .int .i64 n, .int .i64 0]) (by simp [results, icv, Tryd.f12, go_sem, xr3]) rfl ?_
      rw [HR2.out]
      refine ⟨pA', pc', A', c', rfl, ?_, ?_, ?_, ⟨fun a ha => Nat.le_of_succ_le (HO.out.new.1 a ha), HN3.out⟩⟩
      · repeat (with_reducible first | refine Rd.set ?_ HO.out.p1 _ | refine Rd.set ?_ HO.out.p2 _ | refine Rd.drew ?_ | exact HP3.out)
      · show Rd _ _ ((d.stack ++ [(n : Int)]).map (.int .i64))
        rw [List.map_append]
        show Rd _ _ (d.stack.map (.int .i64) ++ [.int .i64 n])
        repeat (with_reducible first | refine Rd.set ?_ HN.out _ | refine Rd.set ?_ HN2.out _ | refine Rd.drew ?_ | exact HS3.out)
      · repeat (with_reducible first | refine Below.setCell ?_ bR _ | refine Below.setCell ?_ bD _ | refine Below.drew ?_ | exact HB3.out)
  · have f1 := Lib.hid (fun w hp hs => open_bad d hf hk pA pc sA sc 0 w hp hs)
    have HR := Lib.hid (IC.three_bad hk d.ackF)
    have Hp := Lib.hid hp; clear hp
    have Hs := Lib.hid hs; clear hs
    unfold icv at *
    go_enter Tryd.func12, Tryd.ntmps12
    go_wp2_with fail
    refine (f1.out _ ((Hp.out.alloc _).alloc _) ((Hs.out.alloc _).alloc _)).mono ?_
    rintro e w1 ⟨D, rfl, lD, hD, hb⟩
    have HXr := Lib.hid (box_new hb)
    obtain ⟨xr, yr⟩ := box_rules HXr.out
    have lr := box_lt HXr.out
    have HD := Lib.hid hD; clear hD
    obtain ⟨xd, yd⟩ := box_rules HD.out
    have ld := box_lt HD.out
    rw [World.size_alloc, World.size_alloc] at lD
    rw [World.size_alloc] at xr yr lr
    have HB := Lib.hid ((((Below.refl w.heap.size w).alloc (Nat.le_refl _) _).alloc (by simp) _).trans (hb.mono (by simp; omega)))
    clear hb HXr
    go_wp2_with fail
    refine bodyPost_ret (v := .tuple #[icv IC.zero none 0 none 0, .int .i64 0, .int .i64 2]) (by simp [results, icv, IC.zero, Tryd.f12, go_sem, xr]) rfl ?_
    rw [HR.out]
    have bR : w.heap.size ≤ w.heap.size + 1 := Nat.le_succ _
    refine ⟨none, 0, none, 0, rfl, Rd.nil _ _, Rd.nil _ _, ?_, New.none _⟩
    repeat (with_reducible first | refine Below.setCell ?_ bR _ | exact HB.out)
end
end Go.Proofs.YtbhjkfeonhddlaaDoor

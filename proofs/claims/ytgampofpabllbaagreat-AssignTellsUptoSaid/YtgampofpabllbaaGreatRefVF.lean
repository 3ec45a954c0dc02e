/- Package vergeref27: the walk of Check. Conditions: lists that read. -/
import Derived.Test.YtgampofpabllbaaGreatRefVE
namespace Go.Proofs.YtgampofpabllbaaGreat
open Go.RowKit Go.Shelf

theorem why_filt (l : List Fl) : (firstOf l).1.why = match filt l with | [] => 0 | f :: _ => f.why := by
  induction l with
  | nil => rfl
  | cons f l ih =>
    by_cases h : f.why = 0
    · rw [firstOf_cons, if_neg (by simp [h]), ih]
      unfold filt
      rw [List.filter_cons_of_neg (by simp [h])]
    · rw [firstOf_hit h]
      unfold filt
      rw [List.filter_cons_of_pos (by simp [h])]
set_option maxHeartbeats 2000000 in
/-- vergeref27.Check -/
theorem check27_cfg (mn mx sw : Int) (ts : List Tk) (ls : List Ln) (hs : List Th) (A : Option Addr) (ca : Nat) (B : Option Addr) (cb : Nat) (D : Option Addr) (cd : Nat) (w : World)
    (hlt : ts.length ≤ 1048576) (hll : ls.length ≤ 1048576) (hlh : hs.length ≤ 1048576)
    (ht : Rd w A (ts.flatMap tkc)) (hl : Rd w B (ls.flatMap lnc)) (hh : Rd w D (hs.flatMap thc)) (hmx : I64 mx) :
    Calls Tryz.prog 22 #[cfv mn mx sw A ts.length ca B ls.length cb D hs.length cd] w fun e w' => e = .returned (.int .i64 (Cf.why ⟨mn, mx, sw, ts, ls, hs⟩)) ∧ Below w.heap.size w w' := by
  have f1 := Lib.hid (fun w ht hl hh => all27_any mn mx sw ts ls hs A ca B cb D cd w hlt hll hlh ht hl hh hmx)
  have HW : Hid (Cf.why ⟨mn, mx, sw, ts, ls, hs⟩ = match filt (Cf.looks ⟨mn, mx, sw, ts, ls, hs⟩) with | [] => 0 | f :: _ => f.why) := Lib.hid (why_filt _)
  have Ht := Lib.hid ht; have Hl := Lib.hid hl; have Hh := Lib.hid hh
  clear ht hl hh hmx
  unfold OutI at f1
  generalize filt (Cf.looks ⟨mn, mx, sw, ts, ls, hs⟩) = fl at *
  generalize Cf.why ⟨mn, mx, sw, ts, ls, hs⟩ = y at *
  unfold cfv at *
  go_enter Tryz.func22, Tryz.ntmps22
  go_wp2_with fail
  refine (f1.out _ (Ht.out.alloc _) (Hl.out.alloc _) (Hh.out.alloc _)).mono ?_
  rintro e w2 ⟨⟨s, rfl, A1, c1, rfl, ho⟩, hb⟩
  have HB := Lib.hid (((Below.refl w.heap.size w).alloc (Nat.le_refl _) _).trans (hb.mono (by simp)))
  have HR := Lib.hid (own_rdK ho)
  clear hb ho
  cases fl with
  | nil =>
    obtain rfl : y = 0 := HW.out
    go_wp2
    go_ret
    exact ⟨rfl, HB.out⟩
  | cons f l =>
    obtain rfl : y = f.why := HW.out
    obtain ⟨p, i, y⟩ := f
    have h3 := HR.out 2 (.int .i64 y) rfl
    obtain ⟨a, rfl, h2⟩ := h3
    have hne : (((l.length + 1 : Nat) : Int) == 0) = false := by rw [beq_eq_false_iff_ne]; omega
    have h2' : w2.cell? ⟨a.block, a.off + 2, none⟩ = some (.int .i64 y) := by
      have := add_plus a 0 2 (by omega)
      rw [Nat.zero_add] at this
      rw [this] at h2
      simpa [Addr.add] using h2
    go_wp2
    go_ret
    exact ⟨rfl, HB.out⟩
end Go.Proofs.YtgampofpabllbaaGreat

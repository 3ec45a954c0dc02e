/- Package intc: the walk of Make. Conditions: a word below 2^64, a list that reads. -/
import Derived.Test.YtgampofpabllbaaIntcFV
namespace Go.Proofs.Ytgampofpabllbaa
open Go.RowKit

/-- A new controller. -/
def freshC (g : Nat) (l : List Int) : IC := ⟨0, mk (fun i => decide (i < l.length)), 0, g, l, 0, []⟩
open Classical in
noncomputable def makeC (g : Nat) (l : List Int) : IC × Int := if (freshC g l).ok then (freshC g l, 0) else (IC.zero, 2)
theorem makeC_ok {g : Nat} {l : List Int} (h : (freshC g l).ok) : makeC g l = (freshC g l, 0) := by unfold makeC; rw [if_pos h]
theorem makeC_bad {g : Nat} {l : List Int} (h : ¬ (freshC g l).ok) : makeC g l = (IC.zero, 2) := by unfold makeC; rw [if_neg h]
theorem freshC_fits {g : Nat} {l : List Int} (hg : g < 18446744073709551616) (hl : l.length ≤ 549755813888) : (freshC g l).Fits := ⟨by show (0 : Nat) < _; decide, mk_lt _, by show (0 : Nat) < _; decide, hg, hl, by show 0 ≤ _; decide⟩

set_option maxHeartbeats 1000000 in
theorem make_any (g : Nat) (hg : g < 18446744073709551616) (l : List Int) (hl : l.length ≤ 549755813888) (A : Option Addr) (c : Nat) (w : World) (hr : Rd w A (l.map (.int .i64))) :
    Calls Try.prog 17 #[.int .u64 g, .slice A l.length c] w (RetI (makeC g l) w) := by
  have f1 := Lib.hid (fun w hp => clone_any A l c w hl hp)
  have f2 := Lib.hid (fun A c sv w => lines_any 0 0 0 g l.length A c 0 sv w hl)
  have f3 := Lib.hid (fun A c w hp => check_any (freshC g l) (freshC_fits hg hl) A c none 0 w hp (Rd.nil w none))
  have HE : Hid (icv (freshC g l) = fun A c A' c' => .agg #[.int .u64 0, .int .u64 ((mk fun i => decide (i < l.length) : Nat) : Int), .int .u64 0, .int .u64 g, .slice A l.length c, .int .i64 0, .slice A' 0 c']) := rfl
  generalize he : (mk fun i => decide (i < l.length)) = e at *
  have He := Lib.hid he; clear he
  rw [HE.out] at f3
  have Hr := Lib.hid hr; clear hr
  go_enter Try.func17, Try.ntmps17
  go_wp2_with fail
  refine (f1.out _ (Hr.out.alloc _)).mono ?_
  rintro e' w1 ⟨A1, c1, rfl, ho1, hb1⟩
  have HX1 := Lib.hid (box_new hb1)
  obtain ⟨x1, y1⟩ := box_rules HX1.out
  have l1 := box_lt HX1.out
  have HB1 := Lib.hid (((Below.refl w.heap.size w).alloc (Nat.le_refl _) _).trans (hb1.mono (by simp)))
  have HO1 := Lib.hid ho1
  have q1 : ∀ a, A1 = some a → a.block ≠ w1.heap.size := by
    intro a ha e
    have := (HO1.out.lt a.block (by subst ha; rfl)).2
    omega
  have q2 : ∀ a, A1 = some a → a.block ≠ w.heap.size := by
    intro a ha e
    have := (own_block HO1.out ha).1
    simp at this
    omega
  clear ho1 hb1
  have Q1 := Lib.hid q1; have Q2 := Lib.hid q2; clear q1 q2
  have N1 := Lib.hid (fun a (ha : A1 = some a) => show w.heap.size ≤ a.block from by have := (own_block HO1.out ha).1; simp at this; omega)
  go_wp2_with fail
  refine (f2.out A1 c1 _ _).mono ?_
  rintro e' w2 ⟨rfl, hb2⟩
  have HX2 := Lib.hid (box_new hb2)
  obtain ⟨x2, y2⟩ := box_rules HX2.out
  have l2 := box_lt HX2.out
  have HXr := Lib.hid (box_keep (box_alloc HX1.out _) hb2)
  obtain ⟨xr, yr⟩ := box_rules HXr.out
  have lr := box_lt HXr.out
  have s1 := HB1.out.size
  have HB2 := Lib.hid ((HB1.out.alloc s1 _).trans (hb2.mono (by simp; omega)))
  have HO2 := Lib.hid (own_below (HO1.out.alloc _) hb2)
  clear hb2
  go_wp2_with fail
  refine (f3.out A1 c1 _ ?_).mono ?_
  · exact (own_rd HO2.out).set Q1.out _
  rintro e' w3 ⟨⟨z, rfl, hz⟩, hb3⟩
  have HX3 : Hid (w3.heap[w1.heap.size]? = some (.cells #[.int .u64 0, .int .u64 e, .int .u64 0, .int .u64 g, .slice A1 l.length c1, .int .i64 0, .slice none 0 0] 70 (0, 0))) := box_keep (box_set HX2.out _) hb3
  obtain ⟨x3, y3⟩ := box_rules HX3.out
  have l3 := box_lt HX3.out
  have HXr3 := Lib.hid (box_keep (box_far HXr.out (p := ⟨w1.heap.size, 1, none⟩) (by show _ ≠ w1.heap.size; omega) _) hb3)
  obtain ⟨xr3, yr3⟩ := box_rules HXr3.out
  have lr3 := box_lt HXr3.out
  have s2 := HB2.out.size
  have HB3 := Lib.hid ((HB2.out.setCell (p := ⟨w1.heap.size, 1, none⟩) s1 (.int .u64 e)).trans (hb3.mono (by simp; omega)))
  have HP3 := Lib.hid (((own_rd HO2.out).set (p := ⟨w1.heap.size, 1, none⟩) Q1.out (.int .u64 e)).below hb3)
  clear hb3
  have bR : w.heap.size ≤ w.heap.size := Nat.le_refl _
  rcases hz with ⟨hk, rfl⟩ | ⟨hk, rfl⟩
  · have HR := Lib.hid (makeC_ok hk)
    clear hk
    go_wp2_with fail
    refine bodyPost_ret (v := .tuple #[icv (freshC g l) A1 c1 none 0, .int .i64 0]) (by rw [HE.out]; simp [results, Try.f17, go_sem, xr3]) rfl ?_
    rw [HR.out]
    refine ⟨A1, c1, none, 0, rfl, ?_, Rd.nil _ _, ?_, ⟨N1.out, fun _ h => by cases h⟩⟩
    · show Rd _ _ (l.map (.int .i64))
      repeat (with_reducible first | refine Rd.set ?_ Q2.out _ | refine Rd.drew ?_ | exact HP3.out)
    · repeat (with_reducible first | refine Below.setCell ?_ bR _ | refine Below.drew ?_ | exact HB3.out)
  · have HR := Lib.hid (makeC_bad hk)
    clear hk
    go_wp2_with fail
    refine bodyPost_ret (v := .tuple #[icv IC.zero none 0 none 0, .int .i64 2]) (by simp [results, icv, IC.zero, Try.f17, go_sem, xr3]) rfl ?_
    rw [HR.out]
    refine ⟨none, 0, none, 0, rfl, Rd.nil _ _, Rd.nil _ _, ?_, New.none _⟩
    repeat (with_reducible first | refine Below.setCell ?_ bR _ | refine Below.drew ?_ | exact HB3.out)
end Go.Proofs.Ytgampofpabllbaa

/- Packages hyper and vergeref35: the walks of bad and ahead. Conditions: lists that read. -/
import Derived.Test.YtpdanmdpaanafaaDoorHypE
namespace Go.Proofs.YtpdanmdpaanafaaDoor
open Go.RowKit Go.Shelf

set_option maxHeartbeats 4000000 in
set_option maxRecDepth 100000 in
theorem bad_cfg (mn mx sw : Int) (ts : List Tk) (ls : List Ln) (hs : List Th) (A : Option Addr) (ca : Nat) (B : Option Addr) (cb : Nat) (D : Option Addr) (cd : Nat) (n u v : Int) (w : World)
    (hlt0 : ts.length ≤ 1048576) (hll : ls.length ≤ 1048576) (hlh : hs.length ≤ 1048576)
    (ht : Rd w A (ts.flatMap tkc)) (hl : Rd w B (ls.flatMap lnc)) (hh : Rd w D (hs.flatMap thc)) (hmx : I64 mx) :
    Calls Tryd.prog 25 #[cfv mn mx sw A ts.length ca B ls.length cb D hs.length cd, .int .i64 n, .int .i64 u, .int .i64 v] w fun e w' =>
      e = .returned (.int .i64 (openY (Cf.why ⟨mn, mx, sw, ts, ls, hs⟩) ts n [u, v])) ∧ Below w.heap.size w w' := by
  have Ht := Lib.hid ht; have Hl := Lib.hid hl; have Hh := Lib.hid hh
  have f1 := Lib.hid (fun w ht hl hh => check27_cfg mn mx sw ts ls hs A ca B cb D cd w hlt0 hll hlh ht hl hh hmx)
  have q1 := Lib.hid (fun w => time01_any u w)
  have q2 := Lib.hid (fun w => time01_any v w)
  clear ht hl hh hmx
  unfold cfv at *
  generalize Cf.why ⟨mn, mx, sw, ts, ls, hs⟩ = y at *
  have HO : Hid (openY y ts n [u, v] = if y ≠ 0 then y else if n < 0 ∨ (ts.length : Int) ≤ n then 1 else if (tmOk u && tmOk v) = false then 1 else if (ts.getD n.toNat tk0).kind ≠ 1 then 7 else 0) := Lib.hid (by unfold openY; simp)
  generalize openY y ts n [u, v] = Y at *
  generalize tmOk u = bu at *
  generalize tmOk v = bv at *
  go_enter Tryd.func25, Tryd.ntmps25
  go_wp2_with fail
  refine (f1.out _ (Ht.out.alloc _) (Hl.out.alloc _) (Hh.out.alloc _)).mono ?_
  rintro e w2 ⟨rfl, hb⟩
  have HX := Lib.hid (box_keep (heap_alloc_new w (.cells #[.int .i64 mn, .int .i64 mx, .int .i64 sw, .slice A ts.length ca, .slice B ls.length cb, .slice D hs.length cd] 35)) hb)
  have HB := Lib.hid (((Below.refl w.heap.size w).alloc (Nat.le_refl _) _).trans (hb.mono (by simp)))
  clear hb f1
  obtain ⟨hx, hy⟩ := box_rules HX.out
  by_cases hy0 : y = 0
  · subst hy0
    by_cases hn0 : n < 0
    · have HY := Lib.hid (show Y = 1 by rw [HO.out, if_neg (by simp), if_pos (.inl hn0)])
      clear HO
      go_wp2
      go_ret
      exact ⟨ret_int (by rw [HY.out]), HB.out⟩
    · by_cases hn1 : (ts.length : Int) ≤ n
      · have HY := Lib.hid (show Y = 1 by rw [HO.out, if_neg (by simp), if_pos (.inr hn1)])
        clear HO
        go_wp2
        go_ret
        exact ⟨ret_int (by rw [HY.out]), HB.out⟩
      · obtain ⟨m, rfl⟩ := Int.eq_ofNat_of_zero_le (show 0 ≤ n by omega)
        have hm : m < ts.length := by omega
        cases bu with
        | false =>
          have HY := Lib.hid (show Y = 1 by rw [HO.out, if_neg (by simp), if_neg (by omega), if_pos (by simp)])
          clear HO
          go_wp2_with (go_at_call 21; (first | ((with_reducible refine (q1.out _).mono ?_)) | ((with_reducible refine (q2.out _).mono ?_))); rintro e w' ⟨rfl, rfl⟩)
          go_ret
          exact ⟨ret_int (by rw [HY.out]), HB.out⟩
        | true =>
          cases bv with
          | false =>
            have HY := Lib.hid (show Y = 1 by rw [HO.out, if_neg (by simp), if_neg (by omega), if_pos (by simp)])
            clear HO
            go_wp2_with (go_at_call 21; (first | ((with_reducible refine (q1.out _).mono ?_)) | ((with_reducible refine (q2.out _).mono ?_))); rintro e w' ⟨rfl, rfl⟩)
            go_ret
            exact ⟨ret_int (by rw [HY.out]), HB.out⟩
          | true =>
            obtain ⟨a, x, rfl, hxx, ⟨g0, g1, g2, g3⟩, g4, g5, g6, g7, g8, g9⟩ := (Ht.out.below HB.out).tkAt hm
            have hY2 : Y = if x.kind ≠ 1 then 7 else 0 := by
              rw [HO.out, if_neg (by simp), if_neg (by omega), if_neg (by simp)]
              show (if (ts.getD m tk0).kind ≠ 1 then 7 else 0) = _
              rw [hxx]
            clear hxx HO
            obtain ⟨x0, x1, x2, x3, x4, x5, x6, x7, x8, x9⟩ := x
            dsimp only at g0 g1 g2 g3 g4 g5 g6 g7 g8 g9 hY2
            by_cases hk1 : x0 = 1
            · subst hk1
              have HY := Lib.hid (show Y = 0 by rw [hY2]; rfl)
              clear hY2
              go_wp2_with (go_at_call 21; (first | ((with_reducible refine (q1.out _).mono ?_)) | ((with_reducible refine (q2.out _).mono ?_))); rintro e w' ⟨rfl, rfl⟩)
              go_ret
              exact ⟨ret_int (by rw [HY.out]), HB.out⟩
            · have hk2 : (x0 != 1) = true := by simpa using hk1
              have HY := Lib.hid (show Y = 7 by rw [hY2, if_pos hk1])
              clear hY2
              go_wp2_with (go_at_call 21; (first | ((with_reducible refine (q1.out _).mono ?_)) | ((with_reducible refine (q2.out _).mono ?_))); rintro e w' ⟨rfl, rfl⟩)
              go_ret
              exact ⟨ret_int (by rw [HY.out]), HB.out⟩
  · have hy1 : (y != 0) = true := by simpa using hy0
    have HY := Lib.hid (show Y = y by rw [HO.out, if_pos hy0])
    go_wp2
    go_ret
    exact ⟨ret_int (by rw [HY.out]), HB.out⟩

/-- How many times a task has ahead of one. -/
def aheadOf (off per e : Int) : Int := if e ≤ off then 0 else (e - off - 1) / per + 1
theorem ahead_eq {off per e : Int} (hp : 1 ≤ per) : (max (e - off) 0 + per - 1) / per = aheadOf off per e := by
  unfold aheadOf
  by_cases h : e ≤ off
  · rw [if_pos h, show max (e - off) 0 = 0 by omega]
    exact Int.ediv_eq_zero_of_lt (by omega) (by omega)
  · rw [if_neg h, show max (e - off) 0 + per - 1 = (e - off - 1) + 1 * per by omega, Int.add_mul_ediv_right _ _ (by omega)]
theorem ahead_in {off per e : Int} (ho : 0 ≤ off) (hp : 1 ≤ per) (he : e ≤ 4503599627370496) : 0 ≤ aheadOf off per e ∧ aheadOf off per e ≤ 4503599627370496 := by
  unfold aheadOf
  split
  · omega
  · have h1 : 0 ≤ (e - off - 1) / per := Int.ediv_nonneg (by omega) (by omega)
    have h2 : (e - off - 1) / per ≤ e - off - 1 := Int.ediv_le_self _ (by omega)
    omega
set_option maxHeartbeats 1000000 in
theorem ahead_any (x : Tk) (e : Int) (w : World) (ho : 0 ≤ x.offset ∧ x.offset ≤ 1099511627776) (hp : 1 ≤ x.period ∧ x.period ≤ 1099511627776) (he : 0 ≤ e ∧ e ≤ 4503599627370496) :
    Calls Tryd.prog 26 #[tkv x, .int .i64 e] w fun e' w' => e' = .returned (.int .i64 (aheadOf x.offset x.period e)) ∧ Below w.heap.size w w' := by
  obtain ⟨x0, x1, per, off, x4, x5, x6, x7, x8, x9⟩ := x
  unfold tkv
  dsimp only at ho hp ⊢
  obtain ⟨o1, o2⟩ := ho
  obtain ⟨p1, p2⟩ := hp
  obtain ⟨e1, e2⟩ := he
  have HE := Lib.hid (ahead_eq (off := off) (e := e) p1)
  have HI := Lib.hid (ahead_in (e := e) o1 p1 e2)
  generalize aheadOf off per e = r at *
  go_enter Tryd.func26, Tryd.ntmps26
  go_wp2
  all_goals
    go_ret
    refine ⟨ret_int ?_, (Below.refl _ _).alloc (Nat.le_refl _) _⟩
    rw [← HE.out]
    first | (congr 1; omega) | (rw [Int.tdiv_eq_ediv_of_nonneg (by omega)]; congr 1; omega)
set_option maxHeartbeats 1000000 in
theorem ahead35_any (x : Tk) (e : Int) (w : World) (ho : 0 ≤ x.offset ∧ x.offset ≤ 1099511627776) (hp : 1 ≤ x.period ∧ x.period ≤ 1099511627776) (he : 0 ≤ e ∧ e ≤ 4503599627370496) :
    Calls Tryd.prog 27 #[tkv x, .int .i64 e] w fun e' w' => e' = .returned (.int .i64 (aheadOf x.offset x.period e)) ∧ Below w.heap.size w w' := by
  obtain ⟨x0, x1, per, off, x4, x5, x6, x7, x8, x9⟩ := x
  unfold tkv
  dsimp only at ho hp ⊢
  obtain ⟨o1, o2⟩ := ho
  obtain ⟨p1, p2⟩ := hp
  obtain ⟨e1, e2⟩ := he
  have HE : Hid (aheadOf off per e = if e ≤ off then 0 else (e - off - 1) / per + 1) := Lib.hid rfl
  have HI := Lib.hid (ahead_in (e := e) o1 p1 e2)
  have hq1 := Lib.hid (show e > off → 0 ≤ (e - off - 1) / per from fun _ => Int.ediv_nonneg (by omega) (by omega))
  have hq2 := Lib.hid (show e > off → (e - off - 1) / per ≤ e - off - 1 from fun _ => Int.ediv_le_self _ (by omega))
  generalize aheadOf off per e = r at *
  by_cases h : e ≤ off
  · go_enter Tryd.func27, Tryd.ntmps27
    go_wp2
    go_ret
    exact ⟨ret_int (by rw [HE.out, if_pos h]), (Below.refl _ _).alloc (Nat.le_refl _) _⟩
  · have h' := hq1.out (by omega)
    have h'' := hq2.out (by omega)
    have HW := Lib.hid (show wrap64 ((e - off - 1) / per) = (e - off - 1) / per from Go.IntWalk.wrap64_in _ (by omega))
    have HW2 := Lib.hid (show wrap64 ((e - off - 1) / per + 1) = (e - off - 1) / per + 1 from Go.IntWalk.wrap64_in _ (by omega))
    have HR := Lib.hid (show r = (e - off - 1) / per + 1 by rw [HE.out, if_neg h])
    clear HE
    go_enter Tryd.func27, Tryd.ntmps27
    go_wp2_with (first | rw [HW2.out] | rw [HW.out])
    go_ret
    exact ⟨ret_int (by rw [HR.out]), (Below.refl _ _).alloc (Nat.le_refl _) _⟩
end Go.Proofs.YtpdanmdpaanafaaDoor

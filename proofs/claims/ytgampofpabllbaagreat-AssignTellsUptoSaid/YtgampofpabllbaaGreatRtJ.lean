/- Packages solve and vergeref25: the walks of Solve, and of vergeref25.Steps. Conditions: lists that read. -/
import Derived.Test.YtgampofpabllbaaGreatRtI
namespace Go.Proofs.YtgampofpabllbaaGreat
open Go.RowKit Go.Shelf

set_option maxHeartbeats 2000000 in
set_option maxRecDepth 100000 in
theorem steps25_walk (base : Int) (l : List Ld) (limit : Int) (hl : l.length ≤ 1048576) (A : Option Addr) (c : Nat) (w : World) (hr : Rd w A (l.flatMap ldc)) :
    Calls Tryz.prog 59 #[.int .i64 base, .slice A l.length c, .int .i64 limit] w (RetSt (stepsY base l limit) w) := by
  have Hr := Lib.hid hr
  have f1 := Lib.hid (fun w hr => lcheck23_any l hl A c w hr)
  have f2 := Lib.hid (fun t w hr => round25_any base l t hl A c w hr)
  have fT := Lib.hid (fun w => time01_any limit w)
  have Hf : Hid (ldsWhy l ≠ 0 → stepsY base l limit = (0, 2)) := Lib.hid (fun h => by unfold stepsY; rw [if_pos h])
  have Hg : Hid (ldsWhy l = 0 → ¬ ((1 ≤ base ∧ base ≤ 4503599627370496) ∧ 0 ≤ limit ∧ limit ≤ 4503599627370496) → stepsY base l limit = (0, 1)) := Lib.hid (fun h h2 => by
    have h3 : inB base 1 4503599627370496 = false ∨ inB limit 0 4503599627370496 = false := by
      unfold inB
      by_cases hb : 1 ≤ base ∧ base ≤ 4503599627370496
      · exact .inr (decide_eq_false fun h => h2 ⟨hb, h⟩)
      · exact .inl (decide_eq_false hb)
    unfold stepsY; rw [if_neg (by simp [h]), if_pos h3])
  have Hk : Hid (ldsWhy l = 0 → ((1 ≤ base ∧ base ≤ 4503599627370496) ∧ 0 ≤ limit ∧ limit ≤ 4503599627370496) → stepsY base l limit = stGo base l limit 4096 base) := Lib.hid (fun h h2 => by
    have h3 : ¬ (inB base 1 4503599627370496 = false ∨ inB limit 0 4503599627370496 = false) := by
      unfold inB
      rw [decide_eq_true h2.1, decide_eq_true h2.2]; simp
    unfold stepsY; rw [if_neg (by simp [h]), if_neg h3])
  have HT1 : Hid (inB limit 0 4503599627370496 = decide (0 ≤ limit ∧ limit ≤ 4503599627370496)) := Lib.hid rfl
  have H02 := lds_02 l
  clear hr
  generalize inB limit 0 4503599627370496 = tb at *
  generalize stepsY base l limit = R at *
  generalize ldsWhy l = y at *
  go_enter Tryz.func59, Tryz.ntmps59
  go_wp2_with fail
  refine (f1.out _ Hr.out).mono ?_
  rintro e W ⟨rfl, hb⟩
  have HB := Lib.hid hb
  clear hb f1
  rcases H02 with rfl | rfl
  · clear Hf
    by_cases hin : (1 ≤ base ∧ base ≤ 4503599627370496) ∧ 0 ≤ limit ∧ limit ≤ 4503599627370496
    · have hR := Hk.out (by first | rfl | trivial) hin
      have HRR := Lib.hid hR
      clear hR
      have e0 : tb = true := by rw [HT1.out]; exact decide_eq_true hin.2
      subst e0
      obtain ⟨⟨b1, b2⟩, t1, t2⟩ := hin
      have d1 : decide (base < 1) = false := by simp; omega
      have d2 : decide (4503599627370496 < base) = false := by simp; omega
      clear Hg Hk HT1
      go_wp2_with (go_at_call 103; refine (fT.out _).mono ?_; rintro e w' ⟨rfl, rfl⟩)
      go_loopw [8, 9] (fun s t wr => ∃ (n : Nat) (A1 : Option Addr) (c1 : Nat) (xs : List Int) (tt : Int), n ≤ 4096 ∧ s = .slice A1 n c1 ∧ t = .int .i64 tt ∧ Hid (xs.length = n) ∧ Hid (R = stGo base l limit (4096 - n) tt) ∧
        wr.ownsRow W.heap.size 2 1 (.slice A1 n c1) n (xs.map (.int .i64)) ∧ Below W.heap.size W wr) (fun s _ _ => match s with | .slice _ n _ => 4096 - n | _ => 0)
      case atStart => exact ⟨0, none, 0, [], base, by omega, rfl, rfl, rfl, HRR.out, own_nilK _ _ _ _, Below.refl _ _⟩
      case round =>
        obtain ⟨n, A1, c1, xs, tt, hn, rfl, rfl, Hxs, hRR, ho, hB⟩ := hrel
        have HO := Lib.hid ho; have HWr := Lib.hid hB
        have sB := hB.size
        clear ho hB HRR
        by_cases hlt : n < 4096
        · obtain ⟨f, hf⟩ : ∃ f, 4096 - n = f + 1 := ⟨4095 - n, by omega⟩
          have HG : Hid (R = if limit < tt then (0, 11) else if roundWhy base l tt ≠ 0 then (0, roundWhy base l tt) else if roundN base l tt = tt then (tt, 0) else stGo base l limit (4096 - (n + 1)) (roundN base l tt)) := Lib.hid (by
            rw [hRR.out, hf, show 4096 - (n + 1) = f by omega]; rfl)
          clear hf hRR
          by_cases hlate : limit < tt
          · rw [if_pos hlate] at HG
            obtain rfl := HG.out
            go_wp2
            go_ret2
            exact retSt_no rfl (by decide) (HB.out.trans (HWr.out.mono HB.out.size))
          · rw [if_neg hlate] at HG
            have HrW := Lib.hid (Hr.out.below (HB.out.trans (HWr.out.mono HB.out.size)))
            go_wp2_with (at_builtin; go_loud (refine wp_appK rfl _ _ sk_i64 (by decide) rfl (own_allocK HO.out _) rfl (by omega) (by simp; omega) wr.heap.size [.int .i64 tt] rfl rfl (fun j u hu => new_cell (w := wr) hu) rfl ?_); intro A4 c4 w4 ho4 hg4 _; have G4 := Lib.hid (grown_step HO.out hg4); have HO4 := Lib.hid ho4; clear ho4 hg4)
            have HB4 := Lib.hid (G4.out.below (HWr.out) (Nat.le_refl _) sB)
            have HrW4 := Lib.hid (Hr.out.below (HB.out.trans (HB4.out.mono HB.out.size)))
            have f3 := Lib.hid (f2.out tt w4 HrW4.out)
            unfold RetN at f3
            refine f3.out.mono ?_
            rintro e w5 ⟨rfl, hb⟩
            have HO5 := Lib.hid (own_belowK HO4.out hb)
            have HB5 := Lib.hid (HB4.out.trans (hb.mono HB4.out.size))
            have Hx1 : Hid ((xs ++ [tt]).length = n + 1) := Lib.hid (by rw [List.length_append, Hxs.out]; rfl)
            have Hx2 : Hid ((xs ++ [tt]).getD n 0 = tt) := Lib.hid (by
              rw [List.getD_eq_getElem?_getD, List.getElem?_append_right (by rw [Hxs.out]; omega), Hxs.out, Nat.sub_self]; rfl)
            have Hx3 : Hid ((xs ++ [tt]).map (Value.int .i64) = xs.map (.int .i64) ++ [.int .i64 tt]) := Lib.hid (by rw [List.map_append]; rfl)
            clear hb f3
            generalize roundWhy base l tt = Y at *
            generalize roundN base l tt = N at *
            by_cases hy0 : Y = 0
            · subst hy0
              rw [if_neg (by simp)] at HG
              by_cases hN : N = tt
              · subst hN
                rw [if_pos rfl] at HG
                obtain rfl := HG.out
                go_wp2
                go_ret2
                exact ⟨A4, c4, xs ++ [N], by rw [Hx1.out]; rfl, fun _ => ⟨by rw [Hx1.out]; omega, by rw [Hx1.out]; exact Hx2.out⟩, by rw [Hx1.out]; omega, by rw [Hx3.out]; exact own_rdK HO5.out, HB.out.trans (HB5.out.mono HB.out.size)⟩
              · rw [if_neg hN] at HG
                have hN2 : (N == tt) = false := by simpa using hN
                clear hN
                go_wp2
                go_roundw
                case rel => exact ⟨n + 1, A4, c4, xs ++ [tt], N, by omega, rfl, rfl, Hx1.out, HG.out, by rw [Hx3.out]; exact HO5.out, HB5.out⟩
                case measure => show 4096 - (n + 1) < 4096 - n; omega
            · have hy1 : (Y != 0) = true := by simpa using hy0
              rw [if_pos hy0] at HG
              obtain rfl := HG.out
              go_wp2
              go_ret2
              exact retSt_no rfl hy0 (HB.out.trans (HB5.out.mono HB.out.size))
        · obtain rfl : n = 4096 := by omega
          have hRr := hRR.out
          rw [Nat.sub_self] at hRr
          obtain rfl : R = (0, 11) := hRr
          clear hRR
          go_wp2
          go_ret2
          exact retSt_no rfl (by decide) (HB.out.trans (HWr.out.mono HB.out.size))
    · obtain rfl := Hg.out (by first | rfl | trivial) hin
      clear Hg Hk
      by_cases b1 : base < 1
      · go_wp2
        go_ret2
        exact retSt_no rfl (by decide) HB.out
      by_cases b2 : 4503599627370496 < base
      · go_wp2
        go_ret2
        exact retSt_no rfl (by decide) HB.out
      have e0 : tb = false := by rw [HT1.out]; exact decide_eq_false (fun h => hin ⟨by omega, h⟩)
      subst e0
      clear HT1 hin
      go_wp2_with (go_at_call 103; refine (fT.out _).mono ?_; rintro e w' ⟨rfl, rfl⟩)
      go_ret2
      exact retSt_no rfl (by decide) HB.out
  · obtain rfl := Hf.out (by first | decide | trivial)
    clear Hg Hk Hf
    go_wp2
    go_ret2
    exact retSt_no rfl (by decide) HB.out
theorem solve_any (base : Int) (l : List Ld) (limit : Int) (hl : l.length ≤ 1048576) (A : Option Addr) (c : Nat) (w : World) (hr : Rd w A (l.flatMap ldc)) :
    Calls Tryz.prog 92 #[.int .i64 base, .slice A l.length c, .int .i64 limit] w (RetN (if (stepsY base l limit).2 = 0 then (stepsY base l limit).1 else 0) (stepsY base l limit).2 w) := by
  have f1 := Lib.hid (steps_walk base l limit hl A c w hr)
  clear hr
  generalize stepsY base l limit = R at *
  obtain ⟨r, y⟩ := R
  dsimp only
  generalize hP : (if y = 0 then r else 0) = P
  have HP := Lib.hid hP
  clear hP
  go_enter Tryz.func92, Tryz.ntmps92
  go_wp2_with fail
  refine f1.out.mono ?_
  rintro e W ⟨A1, c1, xs, rfl, hx, hx2, hrd, hb⟩
  have HB := Lib.hid hb; have Hx := Lib.hid hx; have HR := Lib.hid hrd
  clear hb hx hrd f1
  dsimp only at Hx ⊢
  by_cases hy0 : y = 0
  · subst hy0
    rw [if_pos rfl] at HP
    obtain ⟨h1, h2⟩ := Hx.out (by first | rfl | trivial)
    obtain ⟨a, rfl, hc⟩ := HR.out.int (i := xs.length - 1) (by omega)
    rw [h2, HP.out] at hc
    clear h2
    go_wp2
    go_ret2
    exact ⟨rfl, HB.out⟩
  · rw [if_neg hy0] at HP
    obtain rfl := HP.out
    have hy1 : (y != 0) = true := by simpa using hy0
    clear Hx hy0
    go_wp2
    go_ret2
    exact ⟨rfl, HB.out⟩
theorem solve25_any (base : Int) (l : List Ld) (limit : Int) (hl : l.length ≤ 1048576) (A : Option Addr) (c : Nat) (w : World) (hr : Rd w A (l.flatMap ldc)) :
    Calls Tryz.prog 39 #[.int .i64 base, .slice A l.length c, .int .i64 limit] w (RetN (if (stepsY base l limit).2 = 0 then (stepsY base l limit).1 else 0) (stepsY base l limit).2 w) := by
  have f1 := Lib.hid (steps25_walk base l limit hl A c w hr)
  clear hr
  generalize stepsY base l limit = R at *
  obtain ⟨r, y⟩ := R
  dsimp only
  generalize hP : (if y = 0 then r else 0) = P
  have HP := Lib.hid hP
  clear hP
  go_enter Tryz.func39, Tryz.ntmps39
  go_wp2_with fail
  refine f1.out.mono ?_
  rintro e W ⟨A1, c1, xs, rfl, hx, hx2, hrd, hb⟩
  have HB := Lib.hid hb; have Hx := Lib.hid hx; have HR := Lib.hid hrd
  clear hb hx hrd f1
  dsimp only at Hx ⊢
  by_cases hy0 : y = 0
  · subst hy0
    rw [if_pos rfl] at HP
    obtain ⟨h1, h2⟩ := Hx.out (by first | rfl | trivial)
    obtain ⟨a, rfl, hc⟩ := HR.out.int (i := xs.length - 1) (by omega)
    rw [h2, HP.out] at hc
    clear h2
    go_wp2
    go_ret2
    exact ⟨rfl, HB.out⟩
  · rw [if_neg hy0] at HP
    obtain rfl := HP.out
    have hy1 : (y != 0) = true := by simpa using hy0
    clear Hx hy0
    go_wp2
    go_ret2
    exact ⟨rfl, HB.out⟩
end Go.Proofs.YtgampofpabllbaaGreat

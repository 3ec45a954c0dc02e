/- Package vergeref33: the walk of Marks. Conditions: lists that read. -/
import Derived.Test.YtpdanmdpaanafaaConP
namespace Go.Proofs.Ytpdanmdpaanafaa
open Go.RowKit Go.Shelf

theorem lastOf_yes {ts : List Tk} {ms : List Mk} {who : Int} {k : Nat} {x : Mk} (hx : ms.getD k mk0 = x) (h : comes ts x = true) (hw : x.who = who) : lastOf ts ms who (k + 1) = some x.time := by
  show (if _ then _ else _) = _
  rw [hx, if_pos ⟨h, hw.symm⟩]
theorem lastOf_no {ts : List Tk} {ms : List Mk} {who : Int} {k : Nat} {x : Mk} (hx : ms.getD k mk0 = x) (h : ¬ (comes ts x = true ∧ x.who = who)) : lastOf ts ms who (k + 1) = lastOf ts ms who k := by
  show (if _ then _ else _) = _
  rw [hx, if_neg (fun h' => h ⟨h'.1, h'.2.symm⟩)]
theorem mkOk_no {ts : List Tk} {ms : List Mk} {k : Nat} {x : Mk} (hx : ms.getD k mk0 = x) (h : comes ts x = false) : mkOk ts ms k = true := by
  unfold mkOk; rw [hx, h]; rfl
theorem mkOk_yes {ts : List Tk} {ms : List Mk} {k : Nat} {x : Mk} (hx : ms.getD k mk0 = x) (h : comes ts x = true) : mkOk ts ms k = farB ts (lastOf ts ms x.who k) x := by
  unfold mkOk; rw [hx, h]; rfl
theorem comes_who {ts : List Tk} {x : Mk} (h : comes ts x = true) : inR x.who ts.length = true := by
  unfold comes at h
  simp only [Bool.and_eq_true] at h
  exact h.2.1

set_option maxHeartbeats 4000000 in
set_option maxRecDepth 100000 in
theorem marks33_cfg (mn mx sw : Int) (ts : List Tk) (ls : List Ln) (hs : List Th) (A : Option Addr) (ca : Nat) (B : Option Addr) (cb : Nat) (D : Option Addr) (cd : Nat) (ms : List Mk) (T : Option Addr) (tc : Nat) (w : World)
    (hlt0 : ts.length ≤ 1048576) (hll : ls.length ≤ 1048576) (hlh : hs.length ≤ 1048576) (hlm : ms.length ≤ 1048576) (hcap : ms.length ≤ tc)
    (ht : Rd w A (ts.flatMap tkc)) (hl : Rd w B (ls.flatMap lnc)) (hh : Rd w D (hs.flatMap thc)) (hmx : I64 mx) (hr : Rd w T (ms.flatMap mkc)) :
    Calls Try.prog 19 #[cfv mn mx sw A ts.length ca B ls.length cb D hs.length cd, .slice T ms.length tc] w
      (RetC (Cf.why ⟨mn, mx, sw, ts, ls, hs⟩) (marksN ts ms) w) := by
  have Ht := Lib.hid ht; have Hl := Lib.hid hl; have Hh := Lib.hid hh; have Hr := Lib.hid hr; have Hcap := Lib.hid hcap
  have f1 := Lib.hid (fun w ht hl hh => check27_cfg mn mx sw ts ls hs A ca B cb D cd w hlt0 hll hlh ht hl hh hmx)
  have f2 := Lib.hid (fun x w ht => comes33_any mn mx sw ts A ca B ls.length cb D hs.length cd x w ht)
  clear ht hl hh hmx hr hcap
  unfold cfv at *
  generalize Cf.why ⟨mn, mx, sw, ts, ls, hs⟩ = y at *
  have HN : Hid (∀ k, k < ms.length → (∀ j, j < k → mkOk ts ms j = true) → mkOk ts ms k = false → marksN ts ms = k) := Lib.hid (fun k hk h hb => marksN_at hk h hb)
  have HA : Hid ((∀ j, j < ms.length → mkOk ts ms j = true) → marksN ts ms = ms.length) := Lib.hid (fun h => marksN_all h)
  generalize marksN ts ms = N at *
  go_enter Try.func19, Try.ntmps19
  go_wp2_with fail
  refine (f1.out _ (Ht.out.alloc _) (Hl.out.alloc _) (Hh.out.alloc _)).mono ?_
  rintro e W ⟨rfl, hb⟩
  have HX := Lib.hid (box_keep (heap_alloc_new w (.cells #[.int .i64 mn, .int .i64 mx, .int .i64 sw, .slice A ts.length ca, .slice B ls.length cb, .slice D hs.length cd] 28)) hb)
  have HBW := Lib.hid (((Below.refl w.heap.size w).alloc (Nat.le_refl _) _).trans (hb.mono (by simp)))
  clear hb f1
  obtain ⟨hx, hy⟩ := box_rules HX.out
  by_cases hy0 : y = 0
  · subst hy0
    go_wp2
    go_loopw [20] (fun i wr => ∃ k : Nat, k ≤ ms.length ∧ i = .int .i64 k ∧ Below W.heap.size W wr ∧ Hid (∀ j, j < k → mkOk ts ms j = true)) (fun i _ => ms.length - (intOf i).toNat)
    case atStart => exact ⟨0, by omega, rfl, Below.refl _ _, fun j hj => absurd hj (Nat.not_lt_zero _)⟩
    case round =>
      obtain ⟨k, hk, rfl, hB, hm⟩ := hrel
      by_cases hlt : k < ms.length
      · have HB2 := Lib.hid (HBW.out.trans (hB.mono HBW.out.size))
        obtain ⟨a, x, rfl, hx2, g0, g1, g2, g3⟩ := (Hr.out.below HB2.out).mkAt hlt
        have sB := hB.size
        have HWr := Lib.hid hB
        clear hB
        have HD2 := Lib.hid (box_keep HX.out HWr.out)
        obtain ⟨kx, ky⟩ := box_rules HD2.out
        have lx := box_lt HD2.out
        have HtR := Lib.hid (Ht.out.below HB2.out)
        have HX2 := Lib.hid hx2; clear hx2
        have f3 := Lib.hid (fun w ht => f2.out x w ht)
        generalize hcv : comes ts x = v at *
        have HCV := Lib.hid hcv; clear hcv
        have HNk := Lib.hid (HN.out k hlt hm.out)
        cases v with
        | false =>
          have HV2 := Lib.hid (mkOk_no HX2.out HCV.out)
          obtain ⟨x0, x1, x2, x3⟩ := x
          unfold mkv at f3
          dsimp only at f3 g0 g1 g2 g3
          clear HX2 HCV HNk
          go_wp2_with fail
          refine (f3.out _ (HtR.out.alloc _)).mono ?_
          rintro e w4 ⟨rfl, hb4⟩
          have HB4 := Lib.hid ((HWr.out.alloc sB _).trans (hb4.mono (by simp; omega)))
          clear hb4
          go_wp2
          go_roundw
          case rel =>
            refine ⟨k + 1, by omega, by go_num, HB4.out, fun i hi => ?_⟩
            by_cases e : i = k
            · subst e; exact HV2.out
            · exact hm.out i (by omega)
          case measure => simp [intOf]; omega
        | true =>
          have HV := Lib.hid (mkOk_yes HX2.out HCV.out)
          have HIn := Lib.hid (comes_who HCV.out)
          obtain ⟨x0, x1, x2, x3⟩ := x
          unfold mkv at f3
          dsimp only at f3 g0 g1 g2 g3 HV HIn
          clear HX2 HCV
          go_wp2_with fail
          refine (f3.out _ (HtR.out.alloc _)).mono ?_
          rintro e w4 ⟨rfl, hb4⟩
          have HB4 := Lib.hid ((HWr.out.alloc sB _).trans (hb4.mono (by simp; omega)))
          have HM4 := Lib.hid (box_keep (heap_alloc_new wr (.cells #[.int .i64 x0, .int .u8 x1, .int .i64 x2, .int .i64 x3] 121)) hb4)
          have HC4 := Lib.hid (box_keep (box_alloc HD2.out (.cells #[.int .i64 x0, .int .u8 x1, .int .i64 x2, .int .i64 x3] 121)) hb4)
          clear hb4 f3 HtR HD2 kx ky lx g0 g1 g2 g3
          have hcp : k ≤ tc := by have := Hcap.out; omega
          go_wp2
          go_loopw [9, 10, 33] (fun l s i wr' => ∃ q : Nat, q ≤ k ∧ i = .int .i64 q ∧ l = .int .i64 ((lastOf ts ms x2 q).getD 0) ∧ s = .bool (lastOf ts ms x2 q).isSome ∧ Below w4.heap.size w4 wr') (fun _ _ i _ => k - (intOf i).toNat)
          case atStart => exact ⟨0, by omega, rfl, rfl, rfl, Below.refl _ _⟩
          case round =>
            obtain ⟨q, hq, rfl, rfl, rfl, hB⟩ := hrel
            have sB5 := hB.size
            have HB5 := Lib.hid hB; clear hB
            have HM5 := Lib.hid (box_keep HM4.out HB5.out)
            have HC5 := Lib.hid (box_keep HC4.out HB5.out)
            obtain ⟨mx5, my5⟩ := box_rules HM5.out
            obtain ⟨cx5, cy5⟩ := box_rules HC5.out
            have lm5 := box_lt HM5.out
            have lc5 := box_lt HC5.out
            have HW5 := Lib.hid (HB4.out.trans (HB5.out.mono HB4.out.size))
            have HT5 := Lib.hid (Ht.out.below (HBW.out.trans (HW5.out.mono HBW.out.size)))
            by_cases hql : q < k
            · obtain ⟨_, z, e, hz2, q0, q1, q2, q3⟩ := (Hr.out.below (HBW.out.trans (HW5.out.mono HBW.out.size))).mkAt (Nat.lt_trans hql hlt)
              cases e
              have HZ2 := Lib.hid hz2; clear hz2
              have f6 := Lib.hid (fun w ht => f2.out z w ht)
              have HL1 : Hid (comes ts z = true → z.who = x2 → lastOf ts ms x2 (q + 1) = some z.time) := Lib.hid (fun h1 h2 => lastOf_yes HZ2.out h1 h2)
              have HL0 : Hid (¬ (comes ts z = true ∧ z.who = x2) → lastOf ts ms x2 (q + 1) = lastOf ts ms x2 q) := Lib.hid (fun h => lastOf_no HZ2.out h)
              clear HZ2
              obtain ⟨z0, z1, z2, z3⟩ := z
              unfold mkv at f6
              dsimp only at f6 q0 q1 q2 q3 HL1 HL0
              generalize comes ts ⟨z0, z1, z2, z3⟩ = v at *
              go_upto_region 12 with fail
              refine name_world fun W6 hW6 => ?_
              have HZ6 : Hid (W6.heap[wr.heap.size]? = some (.cells #[.int .i64 z0, .int .u8 z1, .int .i64 z2, .int .i64 z3] 121 (0, 0))) := Lib.hid (by rw [hW6]; exact heap_alloc_new _ _)
              have HB6 : Hid (Below wr.heap.size wr W6) := Lib.hid (by rw [hW6]; exact (Below.refl _ _).alloc (Nat.le_refl _) _)
              clear hW6
              have s6 := HB6.out.size
              have lz6 := box_lt HZ6.out
              obtain ⟨zx6, zy6⟩ := box_rules HZ6.out
              have HM6 := Lib.hid (box_keep HM5.out HB6.out)
              have HC6 := Lib.hid (box_keep HC5.out HB6.out)
              clear mx5 my5 cx5 cy5
              obtain ⟨mx6, my6⟩ := box_rules HM6.out
              obtain ⟨cx6, cy6⟩ := box_rules HC6.out
              have HT6 := Lib.hid (HT5.out.below HB6.out)
              clear q0 q1 q2 q3
              go_wp2_with fail
              refine (f6.out _ HT6.out).mono ?_
              rintro e W7 ⟨rfl, hb7⟩
              have HB7 := Lib.hid hb7; clear hb7
              have HM7 := Lib.hid (box_keep HM6.out HB7.out)
              have HC7 := Lib.hid (box_keep HC6.out HB7.out)
              have HZ7 := Lib.hid (box_keep HZ6.out HB7.out)
              clear mx6 my6 cx6 cy6 zx6 zy6
              obtain ⟨mx7, my7⟩ := box_rules HM7.out
              obtain ⟨zx7, zy7⟩ := box_rules HZ7.out
              have HB8 := Lib.hid (HB5.out.trans ((HB6.out.trans (HB7.out.mono HB6.out.size)).mono sB5))
              cases v with
              | false =>
                have HLL := Lib.hid (HL0.out (by rintro ⟨h, _⟩; cases h))
                clear HL0 HL1
                go_wp2
                go_roundw
                case rel => exact ⟨q + 1, by omega, by go_num, by rw [HLL.out], by rw [HLL.out], HB8.out⟩
                case measure => simp [intOf]; omega
              | true =>
                by_cases hw2 : z2 = x2
                · subst hw2
                  have HLL := Lib.hid (HL1.out rfl rfl)
                  clear HL0 HL1
                  go_wp2
                  go_roundw
                  case rel => exact ⟨q + 1, by omega, by go_num, by rw [HLL.out]; rfl, by rw [HLL.out]; rfl, HB8.out⟩
                  case measure => simp [intOf]; omega
                · have HLL := Lib.hid (HL0.out (by rintro ⟨_, h⟩; exact hw2 h))
                  have hw3 : (z2 == x2) = false := by simpa using hw2
                  clear HL0 HL1
                  go_wp2
                  go_roundw
                  case rel => exact ⟨q + 1, by omega, by go_num, by rw [HLL.out], by rw [HLL.out], HB8.out⟩
                  case measure => simp [intOf]; omega
            · obtain rfl : q = k := by omega
              obtain ⟨r, hr1, hr2⟩ := inR_get HIn.out
              have HVV := HV.out
              unfold farB perOf at HVV
              dsimp only at HVV
              generalize hlq : lastOf ts ms x2 q = o at *
              have HLO := Lib.hid hlq; clear hlq
              subst hr1
              obtain ⟨a5, t5, e5, ht5, ⟨k0, k1, k2, k3⟩, k4⟩ := HT5.out.tkAt hr2
              subst e5
              rw [show ((r : Int)).toNat = r from rfl, ht5] at HVV
              clear ht5 k4 k0 k1 k3
              obtain ⟨t50, t51, t52, t53, t54, t55, t56, t57, t58, t59⟩ := t5
              dsimp only at k2 HVV
              cases o with
              | none =>
                dsimp only at HVV
                have HV2 := Lib.hid HVV; clear HVV
                simp only [Option.getD_none, Option.isSome_none]
                go_wp2
                go_big_quiet (fail)
                go_wp2
                go_roundw
                case rel =>
                  refine ⟨q + 1, by omega, by go_num, bdrewN HW5.out _, fun i hi => ?_⟩
                  by_cases e : i = q
                  · subst e; exact HV2.out
                  · exact hm.out i (by omega)
                case measure => simp [intOf]; omega
              | some tl =>
                dsimp only at HVV
                have HV2 := Lib.hid HVV; clear HVV
                unfold apartB at HV2
                simp only [Option.getD_some, Option.isSome_some]
                by_cases hle : x0 < tl
                · have hv : decide (tl ≤ x0) = false := by simp; omega
                  rw [hv, Bool.false_and] at HV2
                  clear hv
                  go_wp2
                  go_big_quiet (fail)
                  go_wp2
                  go_ret2
                  exact ⟨by rw [HNk.out HV2.out, if_pos rfl]; rfl, HBW.out.trans ((bdrewN HW5.out _).mono HBW.out.size)⟩
                · have hv : decide (tl ≤ x0) = true := by simp; omega
                  rw [hv, Bool.true_and] at HV2
                  clear hv
                  by_cases hf : IntKind.u64.wrap t52 ≤ IntKind.u64.wrap (IntKind.u64.wrap x0 - IntKind.u64.wrap tl)
                  · rw [decide_eq_true hf] at HV2
                    have hf2 : decide (IntKind.u64.wrap (IntKind.u64.wrap x0 - IntKind.u64.wrap tl) < IntKind.u64.wrap t52) = false := by simp; omega
                    clear hf
                    go_wp2
                    go_quiet (fail)
                    go_wp2
                    go_roundw
                    case rel =>
                      refine ⟨q + 1, by omega, by go_num, bdrewN HW5.out _, fun i hi => ?_⟩
                      by_cases e : i = q
                      · subst e; exact HV2.out
                      · exact hm.out i (by omega)
                    case measure => simp [intOf]; omega
                  · rw [decide_eq_false hf] at HV2
                    have hf2 : decide (IntKind.u64.wrap (IntKind.u64.wrap x0 - IntKind.u64.wrap tl) < IntKind.u64.wrap t52) = true := by simp; omega
                    clear hf
                    go_wp2
                    go_quiet (fail)
                    go_wp2
                    go_ret2
                    exact ⟨by rw [HNk.out HV2.out, if_pos rfl]; rfl, HBW.out.trans ((bdrewN HW5.out _).mono HBW.out.size)⟩
      · obtain rfl : k = ms.length := by omega
        have HWr := Lib.hid hB
        clear hB
        go_wp2
        go_ret2
        exact ⟨by rw [HA.out hm.out, if_pos rfl]; rfl, HBW.out.trans (HWr.out.mono HBW.out.size)⟩
  · have hy1 : (y != 0) = true := by simpa using hy0
    have HZ := Lib.hid (retC_no hy0 N)
    clear hy0
    go_wp2
    go_ret2
    exact ⟨by rw [HZ.out]; rfl, HBW.out⟩
end Go.Proofs.Ytpdanmdpaanafaa

/- Package vergeref28: the walk of Blocking. Conditions: lists that read. -/
import Derived.Test.YtgampofpabllbaaGreatRtQSE
namespace Go.Proofs.YtgampofpabllbaaGreat
open Go.RowKit

set_option maxHeartbeats 4000000 in
set_option maxRecDepth 100000 in
theorem blocking28_any (mn mx sw : Int) (ts : List Tk) (ls : List Ln) (hs : List Th) (A : Option Addr) (ca : Nat) (B : Option Addr) (cb : Nat) (D : Option Addr) (cd : Nat) (n : Int) (w : World)
    (hlt0 : ts.length ≤ 1048576) (hll : ls.length ≤ 1048576) (hlh : hs.length ≤ 1048576)
    (ht : Rd w A (ts.flatMap tkc)) (hl : Rd w B (ls.flatMap lnc)) (hh : Rd w D (hs.flatMap thc)) (hmx : I64 mx) :
    Calls Tryz.prog 56 #[cfv mn mx sw A ts.length ca B ls.length cb D hs.length cd, .int .i64 n] w
      (RetN (if (askY (Cf.why ⟨mn, mx, sw, ts, ls, hs⟩) ts n) = 0 then blockN ts ((ts.getD n.toNat tk0)).prio ts.length else 0) (askY (Cf.why ⟨mn, mx, sw, ts, ls, hs⟩) ts n) w) := by
  have f3 := Lib.hid (fun m w ht => ceil14_any ts m hlt0 A ca w ht)
  have Ht := Lib.hid ht; have Hl := Lib.hid hl; have Hh := Lib.hid hh
  have f1 := Lib.hid (fun w ht hl hh => bad28_any mn mx sw ts ls hs A ca B cb D cd n w hlt0 hll hlh ht hl hh hmx)
  have HIn : Hid (askY (Cf.why ⟨mn, mx, sw, ts, ls, hs⟩) ts n = 0 → (n.toNat < ts.length ∧ n = (n.toNat : Int)) ∧ (1 ≤ mn ∧ mn ≤ 2147483648) ∧ (0 ≤ sw ∧ sw ≤ 1099511627776) ∧ (∀ t ∈ ts, TkIn t sw) ∧ (∀ x ∈ ls, LnIn x) ∧ (∀ x ∈ hs, ThIn x) ∧ TkIn (ts.getD n.toNat tk0) sw) := Lib.hid (fun h => by
    obtain ⟨h1, h2, h22⟩ := askY_zero h
    have c := cfIn_of h1
    have h3 := c.mn; have h4 := c.mx; have h5 := c.mm
    dsimp only at h3 h4 h5
    exact ⟨⟨h2, h22⟩, ⟨h3, by omega⟩, c.sw, c.ts, c.ls, c.hs, c.ts _ (getD_mem h2)⟩)
  clear ht hl hh hmx
  unfold cfv at *
  generalize askY (Cf.why ⟨mn, mx, sw, ts, ls, hs⟩) ts n = Y at *
  generalize hx0 : ts.getD n.toNat tk0 = x at *
  have HX0 := Lib.hid hx0
  clear hx0
  generalize hN : (if Y = 0 then blockN ts x.prio ts.length else 0) = N
  have HN := Lib.hid hN
  clear hN
  go_enter Tryz.func56, Tryz.ntmps56
  go_wp2_with fail
  refine (f1.out _ (Ht.out.alloc _) (Hl.out.alloc _) (Hh.out.alloc _)).mono ?_
  rintro e w2 ⟨rfl, hb⟩
  have HX := Lib.hid (box_keep (heap_alloc_new w (.cells #[.int .i64 mn, .int .i64 mx, .int .i64 sw, .slice A ts.length ca, .slice B ls.length cb, .slice D hs.length cd] 28)) hb)
  have HB := Lib.hid (((Below.refl w.heap.size w).alloc (Nat.le_refl _) _).trans (hb.mono (by simp)))
  clear hb f1
  obtain ⟨cx, cy⟩ := box_rules HX.out
  by_cases hY : Y = 0
  · obtain ⟨⟨hm, hnm⟩, -, -, hts, -, -, -⟩ := HIn.out hY
    have HNN : Hid (N = blockN ts x.prio ts.length) := Lib.hid (by rw [← HN.out, if_pos hY])
    clear HN HIn
    subst hY
    generalize n.toNat = m at *
    subst hnm
    have Hin := Lib.hid (fun k hk => blockN_in (p := x.prio) hts k hk)
    have HTs := Lib.hid hts
    obtain ⟨a, y, rfl, hy2, ⟨-, e1, -, -⟩, -⟩ := (Ht.out.below HB.out).tkAt hm
    rw [HX0.out] at hy2
    subst hy2
    clear hts HX0
    generalize x.prio = p at *
    have He := Lib.hid e1
    clear e1
    go_wp2
    go_loopw [7, 19] (fun s i wr => ∃ k : Nat, k ≤ ts.length ∧ i = .int .i64 k ∧ s = .int .i64 (blockN ts p k) ∧ Below w2.heap.size w2 wr) (fun _ i _ => ts.length - (intOf i).toNat)
    case atStart => exact ⟨0, by omega, rfl, rfl, Below.refl _ _⟩
    case round =>
      obtain ⟨k, hk, rfl, rfl, hB⟩ := hrel
      have sB := hB.size
      have HB0 := Lib.hid hB
      have HXw := Lib.hid (box_keep HX.out hB)
      clear cx cy
      by_cases hlt : k < ts.length
      · obtain ⟨a2, x, e2, hx2, ⟨g0, g1, g2, g3⟩, g4, g5, g6, g7, g8, g9⟩ := ((Ht.out.below HB.out).below hB).tkAt hlt
        injection e2 with e2
        subst e2
        have HS : Hid (blockN ts p (k + 1) = if decide (x.prio < p) && decide (0 ≤ x.lock) && decide (p ≤ ceilN ts x.lock ts.length) then max (blockN ts p k) (x.hi - x.lo) else blockN ts p k) := Lib.hid (blockN_of hx2)
        have HTI : Hid (TkIn x sw) := Lib.hid (by rw [← hx2]; exact HTs.out _ (getD_mem hlt))
        obtain ⟨i1, i2⟩ := Hin.out k hk
        clear hB hx2
        have f2 := Lib.hid (fun w ht => f3.out x.lock w ht)
        have HI1 := Lib.hid HTI.out.held
        have HI2 : Hid (x.cost ≤ 1099511627776) := Lib.hid (by have := HTI.out.cost; have := HTI.out.deadline; have := HTI.out.period; omega)
        clear HTI
        obtain ⟨x0, x1, x2, x3, x4, x5, x6, x7, x8, x9⟩ := x
        dsimp only at g0 g1 g2 g3 g4 g5 g6 g7 g8 g9 HS f2 HI1 HI2
        generalize ceilN ts x7 ts.length = c at *
        generalize blockN ts p k = mo at *
        go_upto_region 8 with fail
        refine name_world fun W1 hW1 => ?_
        have HM1 : Hid (W1.heap[wr.heap.size]? = some (.cells #[.int .u8 x0, .int .i64 x1, .int .i64 x2, .int .i64 x3, .int .i64 x4, .int .i64 x5, .int .i64 x6, .int .i64 x7, .int .i64 x8, .int .i64 x9] 43 (0, 0))) := Lib.hid (by rw [hW1]; exact heap_alloc_new wr _)
        have HB1 : Hid (Below w2.heap.size w2 W1) := Lib.hid (by rw [hW1]; exact HB0.out.alloc sB _)
        clear hW1 g0 g1 g2 g3 g4 g5 g6 g7 g8 g9
        have HC1 := Lib.hid (box_keep HX.out HB1.out)
        have HT1 := Lib.hid ((Ht.out.below HB.out).below HB1.out)
        have HE1 := Lib.hid (cell_of_below HB1.out He.out)
        have q0 := HE1.out
        obtain ⟨mx1, my1⟩ := box_rules HM1.out
        obtain ⟨cx1, cy1⟩ := box_rules HC1.out
        have sB1 := HB1.out.size
        by_cases hp : x1 < p
        · by_cases hlk : 0 ≤ x7
          · rw [decide_eq_true hp, decide_eq_true hlk, Bool.true_and, Bool.true_and] at HS
            have hp1 : decide (x1 < p) = true := by simp; omega
            have hlk1 : decide (0 ≤ x7) = true := by simp; omega
            obtain ⟨h1, h2, h3⟩ := HI1.out hlk
            have hq := HI2.out
            clear mx1 my1 cx1 cy1 q0
            have hR := fun w' (h : Hid (Below W1.heap.size W1 w')) => (box_rules (box_keep HM1.out h.out)).1
            have hR2 := fun w' (h : Hid (Below W1.heap.size W1 w')) => (box_rules (box_keep HC1.out h.out)).1
            have rE := fun w' (h : Hid (Below W1.heap.size W1 w')) => cell_of_below h.out HE1.out
            have mT := Lib.hid (fun w' (h : Hid (Below W1.heap.size W1 w')) => HT1.out.below h.out)
            have hS0 := S_refl' W1
            go_region_held3 (fun w' => Hid (Below W1.heap.size W1 w')) ((first | assumption | exact S_alloc' (by assumption) _ | exact S_drew' (by assumption) | exact S_drew' (S_alloc' (by assumption) _))) ((go_at_call 97; refine (f2.out _ (mT.out _ (by assumption))).mono ?_; rintro e w' ⟨rfl, hb⟩; have hk := S_call' (W := W1) (by assumption) hb; clear hb))
            have hk9 : Hid (Below W1.heap.size W1 w') := by assumption
            have q9 := hR _ hk9
            have HB9 := Lib.hid (HB1.out.trans (hk9.out.mono sB1))
            clear hR hR2 rE mT hS0
            by_cases hpc : p ≤ c
            · rw [decide_eq_true hpc, if_pos rfl] at HS
              go_wp2
              go_roundw
              case rel => exact ⟨k + 1, by omega, by go_num, by rw [HS.out]; first | (rw [show max mo (x9 - x8) = if mo < x9 - x8 then x9 - x8 else mo by split <;> omega]) | (rw [show max mo (x9 - x8) = mo by omega]) | (rw [show max mo (x9 - x8) = x9 - x8 by omega]), HB9.out⟩
              case measure => simp [intOf]; omega
            · rw [decide_eq_false hpc, if_neg (by simp)] at HS
              go_wp2
              go_roundw
              case rel => exact ⟨k + 1, by omega, by go_num, by rw [HS.out], HB9.out⟩
              case measure => simp [intOf]; omega
          · rw [decide_eq_true hp, decide_eq_false hlk, Bool.and_false, Bool.false_and, if_neg (by simp)] at HS
            have hp1 : decide (x1 < p) = true := by simp; omega
            have hlk1 : decide (0 ≤ x7) = false := by simp; omega
            go_wp2
            go_big_quiet (fail)
            go_wp2
            go_roundw
            case rel => exact ⟨k + 1, by omega, by go_num, by rw [HS.out], bdrewN HB1.out _⟩
            case measure => simp [intOf]; omega
        · rw [decide_eq_false hp, Bool.false_and, Bool.false_and, if_neg (by simp)] at HS
          have hp1 : decide (x1 < p) = false := by simp; omega
          go_wp2
          go_big_quiet (fail)
          go_wp2
          go_roundw
          case rel => exact ⟨k + 1, by omega, by go_num, by rw [HS.out], bdrewN HB1.out _⟩
          case measure => simp [intOf]; omega
      · obtain rfl : k = ts.length := by omega
        go_wp2
        refine bodyPost_ret (v := .tuple #[.int .i64 (blockN ts p ts.length), .int .i64 0]) (by simp [results, Tryz.f56, go_sem]) rfl ?_
        exact ⟨by rw [HNN.out], HB.out.trans (HB0.out.mono HB.out.size)⟩
  · have HNN : Hid (N = 0) := Lib.hid (by rw [← HN.out, if_neg hY])
    have hY1 : (Y != 0) = true := by simpa using hY
    clear HN HIn hY
    go_wp2
    refine bodyPost_ret (v := .tuple #[.int .i64 0, .int .i64 Y]) (by simp [results, Tryz.f56, go_sem]) rfl ?_
    exact ⟨by rw [HNN.out], HB.out⟩
end Go.Proofs.YtgampofpabllbaaGreat
/- Package vergeref28: the walks of Lag and Base. Conditions: lists that read. -/
namespace Go.Proofs.YtgampofpabllbaaGreat
open Go.RowKit

set_option maxHeartbeats 4000000 in
set_option maxRecDepth 100000 in
theorem base28_any (mn mx sw : Int) (ts : List Tk) (ls : List Ln) (hs : List Th) (A : Option Addr) (ca : Nat) (B : Option Addr) (cb : Nat) (D : Option Addr) (cd : Nat) (n : Int) (w : World)
    (hlt0 : ts.length ≤ 1048576) (hll : ls.length ≤ 1048576) (hlh : hs.length ≤ 1048576)
    (ht : Rd w A (ts.flatMap tkc)) (hl : Rd w B (ls.flatMap lnc)) (hh : Rd w D (hs.flatMap thc)) (hmx : I64 mx) :
    Calls Tryz.prog 36 #[cfv mn mx sw A ts.length ca B ls.length cb D hs.length cd, .int .i64 n] w
      (RetN (if (askY (Cf.why ⟨mn, mx, sw, ts, ls, hs⟩) ts n) = 0 then baseN sw ts (ts.getD n.toNat tk0) else 0) (askY (Cf.why ⟨mn, mx, sw, ts, ls, hs⟩) ts n) w) := by
  have f0 := Lib.hid (fun w ht hl hh => blocking28_any mn mx sw ts ls hs A ca B cb D cd n w hlt0 hll hlh ht hl hh hmx)
  have Ht := Lib.hid ht; have Hl := Lib.hid hl; have Hh := Lib.hid hh
  have f1 := Lib.hid (fun w ht hl hh => bad28_any mn mx sw ts ls hs A ca B cb D cd n w hlt0 hll hlh ht hl hh hmx)
  have HIn : Hid (askY (Cf.why ⟨mn, mx, sw, ts, ls, hs⟩) ts n = 0 → (n.toNat < ts.length ∧ n = (n.toNat : Int)) ∧ (1 ≤ mn ∧ mn ≤ 2147483648) ∧ (0 ≤ sw ∧ sw ≤ 1099511627776) ∧ (∀ t ∈ ts, TkIn t sw) ∧ (∀ x ∈ ls, LnIn x) ∧ (∀ x ∈ hs, ThIn x) ∧ TkIn (ts.getD n.toNat tk0) sw) := Lib.hid (fun h => by
    obtain ⟨h1, h2, h22⟩ := askY_zero h
    have c := cfIn_of h1
    have h3 := c.mn; have h4 := c.mx; have h5 := c.mm
    dsimp only at h3 h4 h5
    exact ⟨⟨h2, h22⟩, ⟨h3, by omega⟩, c.sw, c.ts, c.ls, c.hs, c.ts _ (getD_mem h2)⟩)
  clear ht hl hh hmx
  unfold cfv at *
  generalize askY (Cf.why ⟨mn, mx, sw, ts, ls, hs⟩) ts n = Y at *
  generalize hx0 : ts.getD n.toNat tk0 = x at *
  have HX0 := Lib.hid hx0
  clear hx0
  clear f1
  generalize hN : (if Y = 0 then baseN sw ts x else 0) = N
  have HN := Lib.hid hN
  clear hN
  generalize hP : (if Y = 0 then blockN ts x.prio ts.length else 0) = P at *
  have HP := Lib.hid hP
  clear hP
  go_enter Tryz.func36, Tryz.ntmps36
  go_wp2_with fail
  refine (f0.out _ (Ht.out.alloc _) (Hl.out.alloc _) (Hh.out.alloc _)).mono ?_
  rintro e w2 ⟨rfl, hb⟩
  have HX := Lib.hid (box_keep (heap_alloc_new w (.cells #[.int .i64 mn, .int .i64 mx, .int .i64 sw, .slice A ts.length ca, .slice B ls.length cb, .slice D hs.length cd] 28)) hb)
  have HB := Lib.hid (((Below.refl w.heap.size w).alloc (Nat.le_refl _) _).trans (hb.mono (by simp)))
  clear hb f0
  obtain ⟨cx, cy⟩ := box_rules HX.out
  by_cases hY : Y = 0
  · obtain ⟨⟨hm, hnm⟩, -, ⟨s1, s2⟩, hts, -, -, hx⟩ := HIn.out hY
    obtain ⟨i1, i2⟩ := blockN_in (p := x.prio) hts ts.length (Nat.le_refl _)
    have HNN : Hid (N = x.cost + sw + P) := Lib.hid (by rw [← HN.out, if_pos hY, ← HP.out, if_pos hY]; rfl)
    have HPP : P = blockN ts x.prio ts.length := by rw [← HP.out, if_pos hY]
    rw [← HPP] at i1 i2
    have c1 := hx.cost
    have c2 : x.cost ≤ 1099511627776 := by have := hx.deadline; have := hx.period; omega
    clear HN HIn HP HPP hts hx
    subst hY
    generalize n.toNat = m at *
    subst hnm
    obtain ⟨a, y, rfl, hy2, ⟨g0, g1, g2, g3⟩, g4, g5, g6, g7, g8, g9⟩ := (Ht.out.below HB.out).tkAt hm
    rw [HX0.out] at hy2
    subst hy2
    clear HX0
    obtain ⟨x0, x1, x2, x3, x4, x5, x6, x7, x8, x9⟩ := x
    dsimp only at g5 HNN c1 c2
    have e1 : IntKind.i64.wrap (x5 + sw) = x5 + sw := IntWalk.i64_in _ (by omega)
    have e2 : IntKind.i64.wrap (x5 + sw + P) = x5 + sw + P := IntWalk.i64_in _ (by omega)
    clear g0 g1 g2 g3 g4 g6 g7 g8 g9
    go_wp2
    go_big_quiet (fail)
    go_wp2
    refine bodyPost_ret (v := .tuple #[.int .i64 (x5 + sw + P), .int .i64 0]) (by simp [results, Tryz.f36, go_sem]) rfl ?_
    exact ⟨by rw [HNN.out], bdrewN HB.out _⟩
  · have HNN : Hid (N = 0) := Lib.hid (by rw [← HN.out, if_neg hY])
    have hY1 : (Y != 0) = true := by simpa using hY
    clear HN HIn hY
    go_wp2
    refine bodyPost_ret (v := .tuple #[.int .i64 0, .int .i64 Y]) (by simp [results, Tryz.f36, go_sem]) rfl ?_
    exact ⟨by rw [HNN.out], HB.out⟩
end Go.Proofs.YtgampofpabllbaaGreat
/- Package vergeref28: the walk of Loads. Conditions: lists that read. -/
namespace Go.Proofs.YtgampofpabllbaaGreat
open Go.RowKit

set_option maxHeartbeats 4000000 in
set_option maxRecDepth 100000 in
theorem loads28_any (mn mx sw : Int) (ts : List Tk) (ls : List Ln) (hs : List Th) (A : Option Addr) (ca : Nat) (B : Option Addr) (cb : Nat) (D : Option Addr) (cd : Nat) (n : Int) (w : World)
    (hlt0 : ts.length ≤ 1048576) (hll : ls.length ≤ 1048576) (hlh : hs.length ≤ 1048576)
    (ht : Rd w A (ts.flatMap tkc)) (hl : Rd w B (ls.flatMap lnc)) (hh : Rd w D (hs.flatMap thc)) (hmx : I64 mx) :
    Calls Tryz.prog 37 #[cfv mn mx sw A ts.length ca B ls.length cb D hs.length cd, .int .i64 n] w
      (RetLY (if (askY (Cf.why ⟨mn, mx, sw, ts, ls, hs⟩) ts n) = 0 then loadsL mn sw ts ls hs ((ts.getD n.toNat tk0)).prio else []) (askY (Cf.why ⟨mn, mx, sw, ts, ls, hs⟩) ts n) w) := by
  have Ht := Lib.hid ht; have Hl := Lib.hid hl; have Hh := Lib.hid hh
  have f1 := Lib.hid (fun w ht hl hh => bad28_any mn mx sw ts ls hs A ca B cb D cd n w hlt0 hll hlh ht hl hh hmx)
  have HIn : Hid (askY (Cf.why ⟨mn, mx, sw, ts, ls, hs⟩) ts n = 0 → (n.toNat < ts.length ∧ n = (n.toNat : Int)) ∧ (1 ≤ mn ∧ mn ≤ 2147483648) ∧ (0 ≤ sw ∧ sw ≤ 1099511627776) ∧ (∀ t ∈ ts, TkIn t sw) ∧ (∀ x ∈ ls, LnIn x) ∧ (∀ x ∈ hs, ThIn x) ∧ TkIn (ts.getD n.toNat tk0) sw) := Lib.hid (fun h => by
    obtain ⟨h1, h2, h22⟩ := askY_zero h
    have c := cfIn_of h1
    have h3 := c.mn; have h4 := c.mx; have h5 := c.mm
    dsimp only at h3 h4 h5
    exact ⟨⟨h2, h22⟩, ⟨h3, by omega⟩, c.sw, c.ts, c.ls, c.hs, c.ts _ (getD_mem h2)⟩)
  clear ht hl hh hmx
  unfold cfv at *
  generalize askY (Cf.why ⟨mn, mx, sw, ts, ls, hs⟩) ts n = Y at *
  generalize hx0 : ts.getD n.toNat tk0 = x at *
  have HX0 := Lib.hid hx0
  clear hx0
  have f4 := Lib.hid (fun (ad : Option Addr) (x : Tk) (w : World) => lag28_any mn mx sw ad ts.length ca B ls.length cb D hs.length cd x w)
  generalize hN : (if Y = 0 then loadsL mn sw ts ls hs x.prio else []) = N
  have HN := Lib.hid hN
  clear hN
  go_enter Tryz.func37, Tryz.ntmps37
  go_wp2_with fail
  refine (f1.out _ (Ht.out.alloc _) (Hl.out.alloc _) (Hh.out.alloc _)).mono ?_
  rintro e w2 ⟨rfl, hb⟩
  have HX := Lib.hid (box_keep (heap_alloc_new w (.cells #[.int .i64 mn, .int .i64 mx, .int .i64 sw, .slice A ts.length ca, .slice B ls.length cb, .slice D hs.length cd] 28)) hb)
  have HB := Lib.hid (((Below.refl w.heap.size w).alloc (Nat.le_refl _) _).trans (hb.mono (by simp)))
  clear hb f1
  obtain ⟨cx, cy⟩ := box_rules HX.out
  by_cases hY : Y = 0
  · obtain ⟨⟨hm, hnm⟩, ⟨mn1, mn2⟩, ⟨sw1, sw2⟩, hts, hls, hhs, -⟩ := HIn.out hY
    have HNN : Hid (N = urgL mn sw ts x.prio ts.length ++ supL hs ls x.prio) := Lib.hid (by rw [← HN.out, if_pos hY]; rfl)
    clear HN HIn
    subst hY
    generalize n.toNat = m at *
    subst hnm
    have HTs := Lib.hid hts
    have hsl := supL_len hs ls x.prio
    have f5 := Lib.hid (fun w hh hl => sloads24_any hs ls x.prio hlh hll hhs hls D B cd cb w hh hl)
    obtain ⟨a, y, rfl, hy2, ⟨-, e1, -, -⟩, -⟩ := (Ht.out.below HB.out).tkAt hm
    rw [HX0.out] at hy2
    subst hy2
    clear hts HX0 hls hhs
    generalize x.prio = p at *
    generalize supL hs ls p = SL at *
    have He := Lib.hid e1
    clear e1
    go_wp2
    go_loopw [7, 22] (fun s i wr => ∃ (k r : Nat) (A1 : Option Addr) (c1 : Nat), k ≤ ts.length ∧ i = .int .i64 k ∧ s = .slice A1 r c1 ∧ r ≤ k ∧ Hid ((urgL mn sw ts p k).length = r) ∧ wr.ownsRow (w2.heap.size) 109 4 (.slice A1 r c1) r ((urgL mn sw ts p k).flatMap ldc) ∧ Below w2.heap.size w2 wr ∧ w2.heap.size ≤ wr.heap.size) (fun _ i _ => ts.length - (intOf i).toNat)
    case atStart => exact ⟨0, 0, none, 0, by omega, rfl, rfl, by omega, rfl, own_nilK _ _ _ _, Below.refl _ _, Nat.le_refl _⟩
    case round =>
      obtain ⟨k, r, A1, c1, hk, rfl, rfl, hrk, Hn, ho, hB, sb⟩ := hrel
      have sB := hB.size
      have HB0 := Lib.hid hB; have HO := Lib.hid ho
      have HXw := Lib.hid (box_keep HX.out hB)
      clear cx cy ho
      by_cases hlt : k < ts.length
      · obtain ⟨a2, x, e2, hx2, ⟨g0, g1, g2, g3⟩, g4, g5, g6, g7, g8, g9⟩ := ((Ht.out.below HB.out).below hB).tkAt hlt
        injection e2 with e2
        subst e2
        have HYs : Hid (p < x.prio → urgL mn sw ts p (k + 1) = urgL mn sw ts p k ++ [urgT mn sw x]) := Lib.hid (fun h => urgL_yes hx2 h)
        have HNo : Hid (¬ p < x.prio → urgL mn sw ts p (k + 1) = urgL mn sw ts p k) := Lib.hid (fun h => urgL_no hx2 h)
        have HTI : TkIn x sw := by rw [← hx2]; exact HTs.out _ (getD_mem hlt)
        obtain ⟨per1, per2⟩ := HTI.period
        have hcost : 1 ≤ x.cost ∧ x.cost ≤ 1099511627776 := by have := HTI.cost; have := HTI.deadline; omega
        obtain ⟨co1, co2⟩ := hcost
        have hlag : 0 ≤ lagT mn x ∧ lagT mn x ≤ 2147483648 := by unfold lagT; split <;> omega
        obtain ⟨l1, l2⟩ := hlag
        have HUT : Hid (urgT mn sw x = ⟨x.period, lagT mn x, max 1 (x.period - lagT mn x), x.cost + sw⟩) := Lib.hid rfl
        clear hB hx2 HTI
        replace f4 := Lib.hid (fun w => f4.out (some a) x w)
        unfold tkv cfv at f4
        generalize urgT mn sw x = L at *
        generalize lagT mn x = G at *
        obtain ⟨x0, x1, x2, x3, x4, x5, x6, x7, x8, x9⟩ := x
        dsimp only at g0 g1 g2 g3 g4 g5 g6 g7 g8 g9 HYs HNo HUT f4 per1 per2 co1 co2
        go_upto_region 8 with fail
        refine name_world fun W1 hW1 => ?_
        have HM1 : Hid (W1.heap[wr.heap.size]? = some (.cells #[.int .u8 x0, .int .i64 x1, .int .i64 x2, .int .i64 x3, .int .i64 x4, .int .i64 x5, .int .i64 x6, .int .i64 x7, .int .i64 x8, .int .i64 x9] 43 (0, 0))) := Lib.hid (by rw [hW1]; exact heap_alloc_new wr _)
        have HB1 : Hid (Below w2.heap.size w2 W1) := Lib.hid (by rw [hW1]; exact HB0.out.alloc sB _)
        have HO1 : Hid (W1.ownsRow (w2.heap.size) 109 4 (.slice A1 r c1) r ((urgL mn sw ts p k).flatMap ldc)) := Lib.hid (by rw [hW1]; exact own_allocK HO.out _)
        have sb1 : w2.heap.size ≤ W1.heap.size := HB1.out.size
        clear hW1 g0 g1 g2 g3 g4 g5 g6 g7 g8 g9 HO
        have HC1 := Lib.hid (box_keep HX.out HB1.out)
        have HE1 := Lib.hid (cell_of_below HB1.out He.out)
        have q0 := HE1.out
        obtain ⟨mx1, my1⟩ := box_rules HM1.out
        obtain ⟨cx1, cy1⟩ := box_rules HC1.out
        have sB1 := HB1.out.size
        by_cases hp : p < x1
        · have HT := Lib.hid (HYs.out hp)
          rw [HUT.out] at HT
          have hT1 : Hid ((urgL mn sw ts p (k + 1)).length = r + 1) := Lib.hid (by rw [HT.out, List.length_append, Hn.out]; rfl)
          have hT0 : Hid ((urgL mn sw ts p (k + 1)).flatMap ldc = (urgL mn sw ts p k).flatMap ldc ++ [.int .i64 x2, .int .i64 G, .int .i64 (max 1 (x2 - G)), .int .i64 (x5 + sw)]) := Lib.hid (by rw [HT.out, List.flatMap_append]; rfl)
          have hp1 : decide (p < x1) = true := by simp; omega
          clear HYs HNo HUT HT
          go_wp2
          go_big_quiet (fail)
          by_cases hmm : x2 - G < 1
          · have hT2 : Hid ((urgL mn sw ts p (k + 1)).flatMap ldc = (urgL mn sw ts p k).flatMap ldc ++ [.int .i64 x2, .int .i64 G, .int .i64 1, .int .i64 (x5 + sw)]) := Lib.hid (by rw [hT0.out, show max 1 (x2 - G) = 1 by omega])
            clear hT0 q0
            go_wp2_with (first | (go_at_call 38; refine (f4.out (W1.drewN _)).mono ?_; rintro e W3 ⟨rfl, hb3⟩; have HB3 := Lib.hid (HB1.out.trans ((undrewN hb3).mono sB1)); have HM3 := Lib.hid (box_keep HM1.out (undrewN hb3)); have HC3 := Lib.hid (box_keep HC1.out (undrewN hb3)); have HO3 := Lib.hid (own_belowK HO1.out (undrewN hb3)); have s3 := (undrewN hb3).size; clear hb3 mx1 my1 cx1 cy1; obtain ⟨mx3, my3⟩ := box_rules HM3.out; obtain ⟨cx3, cy3⟩ := box_rules HC3.out) | (at_builtin; go_loud (refine wp_appK rfl _ _ sk_ld (by decide) rfl (own_allocK HO3.out _) rfl (by omega) (by simp; omega) W3.heap.size [.int .i64 x2, .int .i64 G, .int .i64 1, .int .i64 (x5 + sw)] rfl rfl (fun j u hu => new_cell (w := W3) hu) rfl ?_); intro A5 c5 w5 ho5 hg5 _; have G5 := Lib.hid (grown_step HO3.out hg5); have HO5 := Lib.hid ho5; clear ho5 hg5))
            go_roundw
            case rel => exact ⟨k + 1, r + 1, A5, c5, by omega, by go_num, rfl, by omega, hT1, by rw [hT2.out]; exact HO5.out, G5.out.below HB3.out (by omega) (by omega), by have := G5.out.size; omega⟩
            case measure => simp [intOf]; omega
          · have hmm2 : 1 ≤ x2 - G := by omega
            have hT2 : Hid ((urgL mn sw ts p (k + 1)).flatMap ldc = (urgL mn sw ts p k).flatMap ldc ++ [.int .i64 x2, .int .i64 G, .int .i64 (x2 - G), .int .i64 (x5 + sw)]) := Lib.hid (by rw [hT0.out, show max 1 (x2 - G) = x2 - G by omega])
            clear hT0 q0
            go_wp2_with (first | (go_at_call 38; refine (f4.out (W1.drewN _)).mono ?_; rintro e W3 ⟨rfl, hb3⟩; have HB3 := Lib.hid (HB1.out.trans ((undrewN hb3).mono sB1)); have HM3 := Lib.hid (box_keep HM1.out (undrewN hb3)); have HC3 := Lib.hid (box_keep HC1.out (undrewN hb3)); have HO3 := Lib.hid (own_belowK HO1.out (undrewN hb3)); have s3 := (undrewN hb3).size; clear hb3 mx1 my1 cx1 cy1; obtain ⟨mx3, my3⟩ := box_rules HM3.out; obtain ⟨cx3, cy3⟩ := box_rules HC3.out) | (at_builtin; go_loud (refine wp_appK rfl _ _ sk_ld (by decide) rfl (own_allocK HO3.out _) rfl (by omega) (by simp; omega) W3.heap.size [.int .i64 x2, .int .i64 G, .int .i64 (x2 - G), .int .i64 (x5 + sw)] rfl rfl (fun j u hu => new_cell (w := W3) hu) rfl ?_); intro A5 c5 w5 ho5 hg5 _; have G5 := Lib.hid (grown_step HO3.out hg5); have HO5 := Lib.hid ho5; clear ho5 hg5))
            go_roundw
            case rel => exact ⟨k + 1, r + 1, A5, c5, by omega, by go_num, rfl, by omega, hT1, by rw [hT2.out]; exact HO5.out, G5.out.below HB3.out (by omega) (by omega), by have := G5.out.size; omega⟩
            case measure => simp [intOf]; omega
        · have HT := Lib.hid (HNo.out hp)
          have hp1 : decide (p < x1) = false := by simp; omega
          clear HYs HNo HUT
          go_wp2
          go_big_quiet (fail)
          go_wp2
          go_roundw
          case rel => exact ⟨k + 1, r, A1, c1, by omega, by go_num, rfl, by omega, by rw [HT.out]; exact Hn, by rw [HT.out]; exact HO1.out, bdrewN HB1.out _, sb1⟩
          case measure => simp [intOf]; omega
      · obtain rfl : k = ts.length := by omega
        have HXS : Hid (N = urgL mn sw ts p ts.length ++ SL) := HNN
        generalize urgL mn sw ts p ts.length = U at *
        go_upto_region 12 with fail
        clear hB
        have hC0 := Lib.hid (box_keep HX.out HB0.out)
        have hE0 := Lib.hid (cell_of_below HB0.out He.out)
        have hR2 := fun w' (h : Hid (Below wr.heap.size wr w')) => (box_rules (box_keep hC0.out h.out)).1
        have rE := fun w' (h : Hid (Below wr.heap.size wr w')) => cell_of_below h.out hE0.out
        have mH := Lib.hid (fun w' (h : Hid (Below wr.heap.size wr w')) => ((Hh.out.below HB.out).below HB0.out).below h.out)
        have mL := Lib.hid (fun w' (h : Hid (Below wr.heap.size wr w')) => ((Hl.out.below HB.out).below HB0.out).below h.out)
        have hS0 := S_refl' wr
        go_region_held3 (fun w' => Hid (Below wr.heap.size wr w')) ((first | assumption | exact S_alloc' (by assumption) _ | exact S_drew' (by assumption) | exact S_drew' (S_alloc' (by assumption) _))) ((go_at_call 58; refine (f5.out _ (mH.out _ (by assumption)) (mL.out _ (by assumption))).mono ?_; rintro e w' ⟨A5, c5, rfl, hr5, hb⟩; have hk := S_call' (W := wr) (by assumption) hb; have HR5 := Lib.hid hr5; clear hb hr5))
        have hk9 : Hid (Below wr.heap.size wr w') := by assumption
        have hr9 : Hid (Rd w' A5 (SL.flatMap ldc)) := by assumption
        clear hR2 rE mH mL hS0
        have HO9 := Lib.hid (own_belowK HO.out hk9.out)
        have HB9 := Lib.hid (HB0.out.trans (hk9.out.mono sB))
        have hs9 : w2.heap.size ≤ w'.heap.size := HB9.out.size
        go_wp2_with (at_builtin; go_loud (refine wp_appNG rfl _ _ sk_ld (by decide) rfl HO9.out rfl hs9 A5 SL.length c5 _ rfl (ldc_len SL) hr9.out (ldc_one SL) (by omega) ?_); intro A6 c6 w6 ho6 hg6; have HO6 := Lib.hid ho6; have HG6 := Lib.hid hg6; clear ho6 hg6)
        refine bodyPost_ret (v := .tuple #[.slice A6 (r + SL.length) c6, .int .i64 0]) (by simp [results, Tryz.f37, go_sem]) rfl ?_
        have hB6 : Below w2.heap.size w2 w6 := HB9.out.grown HG6.out HB9.out.size (fun k hk => (HO9.out.lt k hk).1)
        refine ⟨A6, c6, by rw [HXS.out, List.length_append, Hn.out], ?_, HB.out.trans (hB6.mono HB.out.size)⟩
        rw [HXS.out, List.flatMap_append]
        exact own_rdK HO6.out
  · have HNN : Hid (N = []) := Lib.hid (by rw [← HN.out, if_neg hY])
    have hY1 : (Y != 0) = true := by simpa using hY
    clear HN HIn hY
    go_wp2
    refine bodyPost_ret (v := .tuple #[.slice none 0 0, .int .i64 Y]) (by simp [results, Tryz.f37, go_sem]) rfl ?_
    exact ⟨none, 0, by rw [HNN.out]; rfl, by rw [HNN.out]; exact Rd.nil _ _, HB.out⟩
end Go.Proofs.YtgampofpabllbaaGreat
/- Package vergeref28: the walk of Bound. Conditions: lists that read. -/
namespace Go.Proofs.YtgampofpabllbaaGreat
open Go.RowKit

set_option maxHeartbeats 4000000 in
set_option maxRecDepth 100000 in
theorem bound28_any (mn mx sw : Int) (ts : List Tk) (ls : List Ln) (hs : List Th) (A : Option Addr) (ca : Nat) (B : Option Addr) (cb : Nat) (D : Option Addr) (cd : Nat) (n : Int) (w : World)
    (hlt0 : ts.length ≤ 1048576) (hll : ls.length ≤ 1048576) (hlh : hs.length ≤ 1048576)
    (ht : Rd w A (ts.flatMap tkc)) (hl : Rd w B (ls.flatMap lnc)) (hh : Rd w D (hs.flatMap thc)) (hmx : I64 mx) :
    Calls Tryz.prog 24 #[cfv mn mx sw A ts.length ca B ls.length cb D hs.length cd, .int .i64 n] w
      (RetN (if (askY (Cf.why ⟨mn, mx, sw, ts, ls, hs⟩) ts n) = 0 then (boundR mn sw ts ls hs (ts.getD n.toNat tk0)).1 else 0) (if (askY (Cf.why ⟨mn, mx, sw, ts, ls, hs⟩) ts n) = 0 then (boundR mn sw ts ls hs (ts.getD n.toNat tk0)).2 else (askY (Cf.why ⟨mn, mx, sw, ts, ls, hs⟩) ts n)) w) := by
  have HLen : Hid ((askY (Cf.why ⟨mn, mx, sw, ts, ls, hs⟩) ts n) = 0 → (loadsL mn sw ts ls hs ((ts.getD n.toNat tk0)).prio).length ≤ 1048576) := Lib.hid (fun h => by
    obtain ⟨h1, h2, _⟩ := askY_zero h
    have c := cfIn_of h1
    have h3 := c.nt; have h4 := c.nl; have h5 := c.nh
    dsimp only at h3 h4 h5
    have := loadsL_len mn sw ts ls hs ((ts.getD n.toNat tk0)).prio
    omega)
  have f0 := Lib.hid (fun w ht hl hh => base28_any mn mx sw ts ls hs A ca B cb D cd n w hlt0 hll hlh ht hl hh hmx)
  have f2 := Lib.hid (fun w ht hl hh => loads28_any mn mx sw ts ls hs A ca B cb D cd n w hlt0 hll hlh ht hl hh hmx)
  have f3 := Lib.hid (fun (ad : Option Addr) (x : Tk) (w : World) => lag28_any mn mx sw ad ts.length ca B ls.length cb D hs.length cd x w)
  have Ht := Lib.hid ht; have Hl := Lib.hid hl; have Hh := Lib.hid hh
  have f1 := Lib.hid (fun w ht hl hh => bad28_any mn mx sw ts ls hs A ca B cb D cd n w hlt0 hll hlh ht hl hh hmx)
  have HIn : Hid (askY (Cf.why ⟨mn, mx, sw, ts, ls, hs⟩) ts n = 0 → (n.toNat < ts.length ∧ n = (n.toNat : Int)) ∧ (1 ≤ mn ∧ mn ≤ 2147483648) ∧ (0 ≤ sw ∧ sw ≤ 1099511627776) ∧ (∀ t ∈ ts, TkIn t sw) ∧ (∀ x ∈ ls, LnIn x) ∧ (∀ x ∈ hs, ThIn x) ∧ TkIn (ts.getD n.toNat tk0) sw) := Lib.hid (fun h => by
    obtain ⟨h1, h2, h22⟩ := askY_zero h
    have c := cfIn_of h1
    have h3 := c.mn; have h4 := c.mx; have h5 := c.mm
    dsimp only at h3 h4 h5
    exact ⟨⟨h2, h22⟩, ⟨h3, by omega⟩, c.sw, c.ts, c.ls, c.hs, c.ts _ (getD_mem h2)⟩)
  clear ht hl hh hmx
  unfold cfv at *
  generalize askY (Cf.why ⟨mn, mx, sw, ts, ls, hs⟩) ts n = Y at *
  generalize hx0 : ts.getD n.toNat tk0 = x at *
  have HX0 := Lib.hid hx0
  clear hx0
  clear f1
  generalize hN : (if Y = 0 then (boundR mn sw ts ls hs x).1 else 0) = N
  generalize hZ : (if Y = 0 then (boundR mn sw ts ls hs x).2 else Y) = Z
  generalize hP : (if Y = 0 then baseN sw ts x else 0) = P at *
  generalize hQ : (if Y = 0 then loadsL mn sw ts ls hs x.prio else []) = LL at *
  have HN := Lib.hid hN; have HZ := Lib.hid hZ; have HP := Lib.hid hP; have HQ := Lib.hid hQ
  clear hN hZ hP hQ
  unfold RetLY at f2
  go_enter Tryz.func24, Tryz.ntmps24
  go_wp2_with fail
  refine (f0.out _ (Ht.out.alloc _) (Hl.out.alloc _) (Hh.out.alloc _)).mono ?_
  rintro e w2 ⟨rfl, hb⟩
  have HX := Lib.hid (box_keep (heap_alloc_new w (.cells #[.int .i64 mn, .int .i64 mx, .int .i64 sw, .slice A ts.length ca, .slice B ls.length cb, .slice D hs.length cd] 28)) hb)
  have HB := Lib.hid (((Below.refl w.heap.size w).alloc (Nat.le_refl _) _).trans (hb.mono (by simp)))
  clear hb f0
  obtain ⟨cx, cy⟩ := box_rules HX.out
  by_cases hY : Y = 0
  · obtain ⟨⟨hm, hnm⟩, ⟨mn1, mn2⟩, -, -, -, -, hx⟩ := HIn.out hY
    have hlen := HLen.out hY
    have HNN : Hid (N = (boundR mn sw ts ls hs x).1) := Lib.hid (by rw [← HN.out, if_pos hY])
    have HZZ : Hid (Z = (boundR mn sw ts ls hs x).2) := Lib.hid (by rw [← HZ.out, if_pos hY])
    have HBd : Hid (boundR mn sw ts ls hs x = if x.deadline < lagT mn x then (0, 11) else if (stepsY P LL (x.deadline - lagT mn x)).2 = 0 then (wrap64 ((stepsY P LL (x.deadline - lagT mn x)).1 + lagT mn x), 0) else (0, (stepsY P LL (x.deadline - lagT mn x)).2)) := Lib.hid (by rw [← HP.out, if_pos hY, ← HQ.out, if_pos hY]; rfl)
    have hll2 : LL.length ≤ 1048576 := by rw [← HQ.out, if_pos hY]; exact hlen
    clear HN HZ HIn HLen hlen HP HQ
    subst hY
    generalize n.toNat = m at *
    subst hnm
    obtain ⟨a, y, rfl, hy2, -⟩ := (Ht.out.below HB.out).tkAt hm
    rw [HX0.out] at hy2
    subst hy2
    have hg : 0 ≤ lagT mn x ∧ lagT mn x ≤ 2147483648 := by unfold lagT; split <;> omega
    have hd : 1 ≤ x.deadline ∧ x.deadline ≤ 1099511627776 := by have := hx.deadline; have := hx.period; omega
    obtain ⟨gg1, gg2⟩ := hg
    obtain ⟨d1, d2⟩ := hd
    clear hx
    have f5 := Lib.hid (fun A c w hr => solve25_any P LL (x.deadline - lagT mn x) hll2 A c w hr)
    have f6 := Lib.hid (fun w => f3.out (some a) x w)
    unfold RetN at f5
    unfold tkv at f6
    clear f3
    generalize boundR mn sw ts ls hs x = R at *
    generalize hG : lagT mn x = G at *
    clear hG
    have HX0' := Lib.hid HX0.out
    go_wp2_with fail
    refine (f2.out w2 (Ht.out.below HB.out) (Hl.out.below HB.out) (Hh.out.below HB.out)).mono ?_
    rintro e w3 ⟨A5, c5, rfl, hr, hb⟩
    have HB3 := Lib.hid (HB.out.trans (hb.mono HB.out.size))
    have HX3 := Lib.hid (box_keep HX.out hb)
    have HR3 := Lib.hid hr
    clear hb hr f2 cx cy HX HB
    obtain ⟨cx, cy⟩ := box_rules HX3.out
    obtain ⟨a2, x2, e2, hx2, ⟨g0, g1, g2, g3⟩, g4, g5, g6, g7, g8, g9⟩ := (Ht.out.below HB3.out).tkAt hm
    injection e2 with e2
    subst e2
    rw [HX0'.out] at hx2
    subst hx2
    clear HX0 HX0'
    obtain ⟨x0, x1, x2, x3, dl, x5, x6, x7, x8, x9⟩ := x
    dsimp only at *
    have hR := fun w' (h : Hid (Below w3.heap.size w3 w')) => (box_rules (box_keep HX3.out h.out)).1
    have r0 := fun w' (h : Hid (Below w3.heap.size w3 w')) => cell_of_below h.out g0
    have r1 := fun w' (h : Hid (Below w3.heap.size w3 w')) => cell_of_below h.out g1
    have r2 := fun w' (h : Hid (Below w3.heap.size w3 w')) => cell_of_below h.out g2
    have r3 := fun w' (h : Hid (Below w3.heap.size w3 w')) => cell_of_below h.out g3
    have r4 := fun w' (h : Hid (Below w3.heap.size w3 w')) => cell_of_below h.out g4
    have r5 := fun w' (h : Hid (Below w3.heap.size w3 w')) => cell_of_below h.out g5
    have r6 := fun w' (h : Hid (Below w3.heap.size w3 w')) => cell_of_below h.out g6
    have r7 := fun w' (h : Hid (Below w3.heap.size w3 w')) => cell_of_below h.out g7
    have r8 := fun w' (h : Hid (Below w3.heap.size w3 w')) => cell_of_below h.out g8
    have r9 := fun w' (h : Hid (Below w3.heap.size w3 w')) => cell_of_below h.out g9
    have hS0 := S_refl' w3
    have e1 : IntKind.i64.wrap (dl - G) = dl - G := IntWalk.i64_in _ (by omega)
    generalize stepsY P LL (dl - G) = S at *
    obtain ⟨r, y⟩ := S
    dsimp only at *
    generalize hV : (if y = 0 then r else 0) = V at *
    have HV := Lib.hid hV
    clear hV
    go_wp2_with fail
    go_region_held3 (fun w' => Hid (Below w3.heap.size w3 w')) ((first | assumption | exact S_alloc' (by assumption) _ | exact S_drew' (by assumption) | exact S_drew' (S_alloc' (by assumption) _))) ((go_at_call 38; refine (f6.out _).mono ?_; rintro e w' ⟨rfl, hb⟩; have hk := S_call' (W := w3) (by assumption) hb; clear hb))
    have hk9 : Hid (Below w3.heap.size w3 w') := by assumption
    have HB9 := Lib.hid (HB3.out.trans (hk9.out.mono HB3.out.size))
    have q4 := r4 _ hk9
    have qX := hR _ hk9
    have HR9 := Lib.hid (HR3.out.below hk9.out)
    clear r0 r1 r2 r3 r4 r5 r6 r7 r8 r9 hR hS0 g0 g1 g2 g3 g4 g5 g6 g7 g8 g9 cx cy
    by_cases hlate : dl < G
    · rw [if_pos hlate] at HBd
      go_wp2
      refine bodyPost_ret (v := .tuple #[.int .i64 0, .int .i64 11]) (by simp [results, Tryz.f24, go_sem]) rfl ?_
      exact ⟨by rw [HNN.out, HZZ.out, HBd.out], HB9.out⟩
    · rw [if_neg hlate] at HBd
      go_wp2_with fail
      refine (f5.out _ _ _ HR9.out).mono ?_
      rintro e w5 ⟨rfl, hb⟩
      have HB5 := Lib.hid (HB9.out.trans (hb.mono HB9.out.size))
      clear hb q4 qX HR9
      by_cases hy0 : y = 0
      · rw [if_pos hy0] at HV HBd
        subst hy0
        go_wp2
        refine bodyPost_ret (v := .tuple #[.int .i64 (wrap64 (V + G)), .int .i64 0]) (by simp [results, Tryz.f24, go_sem]) rfl ?_
        exact ⟨by rw [HNN.out, HZZ.out, HBd.out, HV.out], HB5.out⟩
      · rw [if_neg hy0] at HV HBd
        have hy1 : (y != 0) = true := by simpa using hy0
        go_wp2
        refine bodyPost_ret (v := .tuple #[.int .i64 0, .int .i64 y]) (by simp [results, Tryz.f24, go_sem]) rfl ?_
        exact ⟨by rw [HNN.out, HZZ.out, HBd.out], HB5.out⟩
  · have HNN : Hid (N = 0) := Lib.hid (by rw [← HN.out, if_neg hY])
    have HZZ : Hid (Z = Y) := Lib.hid (by rw [← HZ.out, if_neg hY])
    have hY1 : (Y != 0) = true := by simpa using hY
    clear HN HZ HIn hY HLen HP HQ
    go_wp2
    refine bodyPost_ret (v := .tuple #[.int .i64 0, .int .i64 Y]) (by simp [results, Tryz.f24, go_sem]) rfl ?_
    exact ⟨by rw [HNN.out, HZZ.out], HB.out⟩
end Go.Proofs.YtgampofpabllbaaGreat

/- vergelaw27: the walk of VetEnough. Conditions: lists that read; a slice is no longer than its room. -/
import Derived.Test.YtgampofpabllbaaVeG
namespace Go.Proofs.Ytgampofpabllbaa
open Go.RowKit Go.Shelf
attribute [local go_sem] Oper.semAt_some

theorem run_pre (a : Option Addr) (n cap l : Nat) (h : l ≤ cap) (w : World) : (Instr.sliceAt 24 (.slice a n cap) none (some (.int .i64 (l : Int))) none).run Try.prog w = .ok (.slice a l cap) w := by
  have hz : ∀ w, (Go.sizeOf 44).run Try.prog w = .ok 10 w := fun w => by kernel_rfl
  simp [Instr.sliceAt, Instr.slice, Instr.sliceBounds, Instr.sliceBound, run_underlying Try.underlying24, go_sem, hz]
  omega
theorem irq_ok {ls : List Ln} (h : ∀ x ∈ ls, LnIn x) (hl : ls.length ≤ 64) : irqWhy ls = 0 := by
  unfold irqWhy
  rw [if_pos]
  simp only [Bool.and_eq_true, List.all_eq_true, decide_eq_true_eq]
  refine ⟨⟨fun x hx => ?_, fun x hx => ?_⟩, hl⟩
  · have := h x hx
    unfold lnMade stOk
    simp only [Bool.and_eq_true, decide_eq_true_eq]
    exact ⟨⟨this.many, this.window⟩, this.top⟩
  · have := (h x hx).prio
    unfold prOk
    simpa using this
theorem bot_ok {hs : List Th} (h : ∀ x ∈ hs, ThIn x) (hl : hs.length ≤ 64) : botWhy hs = 0 := by
  unfold botWhy
  rw [if_pos]
  simp only [Bool.and_eq_true, List.all_eq_true, decide_eq_true_eq]
  refine ⟨⟨fun x hx => ?_, fun x hx => ?_⟩, hl⟩
  · have := h x hx
    unfold thMade svOk
    simp only [Bool.and_eq_true, decide_eq_true_eq]
    exact ⟨⟨this.budget.1, this.budget.2, this.period⟩, this.prio⟩
  · have := (h x hx).depth
    unfold dpOk
    simpa using this
def th0 : Th := ⟨0, 0, 0, 0⟩
set_option maxHeartbeats 4000000 in
set_option maxRecDepth 100000 in
theorem enough27_cfg (mn mx sw : Int) (ts : List Tk) (ls : List Ln) (hs : List Th) (A : Option Addr) (ca : Nat) (B : Option Addr) (cb : Nat) (D : Option Addr) (cd : Nat) (w : World)
    (hlt0 : ts.length ≤ 1048576) (hll : ls.length ≤ 1048576) (hlh : hs.length ≤ 1048576) (hca : ts.length ≤ ca)
    (ht : Rd w A (ts.flatMap tkc)) (hl : Rd w B (ls.flatMap lnc)) (hh : Rd w D (hs.flatMap thc)) (hmx : I64 mx) (ht64 : ∀ p ∈ ts.map (·.prio) ++ hs.map (·.prio), I64 p) :
    Calls Try.prog 3 #[cfv mn mx sw A ts.length ca B ls.length cb D hs.length cd] w fun e w' => e = .returned (.bool true) ∧ Below w.heap.size w w' := by
  have c0 := Lib.hid (fun w => lives27 w)
  have c1 := Lib.hid (fun w ht hl hh => check_cfg mn mx sw ts ls hs A ca B cb D cd w hlt0 hll hlh ht hl hh hmx ht64)
  have c5 := Lib.hid (fun w => shot_any mn mx hmx w)
  have Ht := Lib.hid ht; have Hl := Lib.hid hl; have Hh := Lib.hid hh
  clear ht hl hh ht64 hmx
  by_cases hy : Cf.why ⟨mn, mx, sw, ts, ls, hs⟩ = 0
  · have hc := cfIn_of hy
    have hnd := hc.nodup
    unfold Cf.prios at hnd
    dsimp only at hnd
    have c2 := Lib.hid (fun w hr => knew_any ts sw hc.nt hc.ts (List.nodup_append.1 hnd).1 A ca w hr)
    have c3 := Lib.hid (fun w hr => irq_new ls hll B cb w hr)
    have c4 := Lib.hid (fun w hr => bottom_new hs hlh D cd w hr)
    unfold RetQ at c3
    rw [irq_ok hc.ls hc.nl] at c3
    rw [bot_ok hc.hs (by have := hc.nl; have := hc.nh; dsimp only at *; omega)] at c4
    have ht0 : tmWhy mn mx = 0 := by
      have h1 := hc.mn; have h2 := hc.mx; have h3 := hc.mm
      dsimp only at h1 h2 h3
      unfold tmWhy
      rw [if_neg (by omega)]
    rw [ht0] at c5
    have hlen : hs.length = ls.length := hc.nh
    have hlen2 : ((ls.length : Int) != (hs.length : Int)) = false := by simp [hlen]
    have HT : Hid (∀ k, k < ts.length → TkIn (ts.getD k tk0) sw) := Lib.hid (fun k hk => hc.ts _ (by simp [List.getD, hk]))
    have HN1 : Hid (∀ i j, j < i → i < ts.length → (ts.getD i tk0).prio ≠ (ts.getD j tk0).prio) := Lib.hid (fun i j hji hi e => by
      have hp := List.pairwise_iff_getElem.1 (List.nodup_append.1 hnd).1
      have hi2 : i < (ts.map (·.prio)).length := by rw [List.length_map]; exact hi
      have hj2 : j < (ts.map (·.prio)).length := by rw [List.length_map]; omega
      have ex : ∀ (k : Nat) (hk : k < (ts.map (·.prio)).length), (ts.map (·.prio))[k] = (ts.getD k tk0).prio := fun k hk => by
        have hk2 : k < ts.length := by simpa using hk
        simp [List.getD, hk2]
      exact hp j i hj2 hi2 hji (by rw [ex, ex, e]))
    have HN2 : Hid (∀ i j, i < ts.length → j < hs.length → (ts.getD i tk0).prio ≠ (hs.getD j ⟨0, 0, 0, 0⟩).prio) := Lib.hid (fun i j hi hj e => by
      refine (List.nodup_append.1 hnd).2.2 _ (List.mem_map_of_mem (f := fun t : Tk => t.prio) (show ts.getD i tk0 ∈ ts by simp [List.getD, hi])) _ (List.mem_map_of_mem (f := fun t : Th => t.prio) (show hs.getD j ⟨0, 0, 0, 0⟩ ∈ hs by simp [List.getD, hj])) e)
    have hsw := hc.sw
    dsimp only at hsw
    have HY := Lib.hid hy
    rw [hy] at c1
    clear hc hnd ht0 hlen hy HY
    unfold RetP cfv at *
    go_enter Try.func3, Try.ntmps3
    go_upto_region 1 with fail
    refine name_world fun W hW => ?_
    have HC : Hid (W.heap[w.heap.size]? = some (.cells #[.int .i64 mn, .int .i64 mx, .int .i64 sw, .slice A ts.length ca, .slice B ls.length cb, .slice D hs.length cd] 28 (0, 0))) := Lib.hid (by rw [hW]; exact heap_alloc_new w _)
    have HB : Hid (Below w.heap.size w W) := Lib.hid (by rw [hW]; exact (Below.refl _ _).alloc (Nat.le_refl _) _)
    clear hW
    go_wp2_with fail
    refine (c0.out _).mono ?_
    rintro e w0 ⟨rfl, hb⟩
    have HB0 := Lib.hid (HB.out.trans (hb.mono HB.out.size))
    have HC0 := Lib.hid (box_keep HC.out hb)
    clear hb HB HC
    have HB := HB0
    have HC := HC0
    clear HB0 HC0
    obtain ⟨cx, cy⟩ := box_rules HC.out
    go_wp2_with fail
    refine (c1.out _ (Ht.out.below HB.out) (Hl.out.below HB.out) (Hh.out.below HB.out)).mono ?_
    rintro e w1 ⟨rfl, hb⟩
    clear cx cy
    have HB1 := Lib.hid (HB.out.trans (hb.mono HB.out.size))
    have HC1 := Lib.hid (box_keep HC.out hb)
    clear hb HB HC
    have HB := HB1
    have HC := HC1
    clear HB1 HC1
    obtain ⟨cx, cy⟩ := box_rules HC.out
    go_wp2_with fail
    refine (c2.out _ (Ht.out.below HB.out)).mono ?_
    rintro e w2 ⟨p2, rfl, h2, hb⟩
    obtain ⟨p2, rfl⟩ : ∃ q, p2 = some q := by cases p2 with | none => exact absurd rfl (h2 (by first | rfl | trivial)) | some q => exact ⟨q, rfl⟩
    clear cx cy h2
    have HB2 := Lib.hid (HB.out.trans (hb.mono HB.out.size))
    have HC2 := Lib.hid (box_keep HC.out hb)
    clear hb HB HC
    have HB := HB2
    have HC := HC2
    clear HB2 HC2
    obtain ⟨cx, cy⟩ := box_rules HC.out
    go_wp2_with fail
    refine (c3.out _ (Hl.out.below HB.out)).mono ?_
    rintro e w3 ⟨p3, rfl, h3, hb⟩
    obtain ⟨p3, rfl⟩ : ∃ q, p3 = some q := by cases p3 with | none => exact absurd rfl (h3 (by first | rfl | trivial)) | some q => exact ⟨q, rfl⟩
    clear cx cy h3
    have HB3 := Lib.hid (HB.out.trans (hb.mono HB.out.size))
    have HC3 := Lib.hid (box_keep HC.out hb)
    clear hb HB HC
    have HB := HB3
    have HC := HC3
    clear HB3 HC3
    obtain ⟨cx, cy⟩ := box_rules HC.out
    go_wp2_with fail
    refine (c4.out _ (Hh.out.below HB.out)).mono ?_
    rintro e w4 ⟨p4, rfl, h4, hb⟩
    obtain ⟨p4, rfl⟩ : ∃ q, p4 = some q := by cases p4 with | none => exact absurd rfl (h4 (by first | rfl | trivial)) | some q => exact ⟨q, rfl⟩
    clear cx cy h4
    have HB4 := Lib.hid (HB.out.trans (hb.mono HB.out.size))
    have HC4 := Lib.hid (box_keep HC.out hb)
    clear hb HB HC
    have HB := HB4
    have HC := HC4
    clear HB4 HC4
    obtain ⟨cx, cy⟩ := box_rules HC.out
    go_wp2_with fail
    refine (c5.out _).mono ?_
    rintro e w5 ⟨rfl, hb⟩
    clear cx cy
    have HB5 := Lib.hid (HB.out.trans (hb.mono HB.out.size))
    have HC5 := Lib.hid (box_keep HC.out hb)
    clear hb HB HC
    have HB := HB5
    have HC := HC5
    clear HB5 HC5
    obtain ⟨cx, cy⟩ := box_rules HC.out
    clear c0 c1 c2 c3 c4 c5
    go_wp2
    go_loopw [78] (fun i wr => ∃ k : Nat, k ≤ ts.length ∧ i = .int .i64 k ∧ Hid (wr.heap[w.heap.size]? = some (.cells #[.int .i64 mn, .int .i64 mx, .int .i64 sw, .slice A ts.length ca, .slice B ls.length cb, .slice D hs.length cd] 28 (0, 0))) ∧ Hid (Below w.heap.size w wr)) (fun i _ => ts.length - (intOf i).toNat)
    case atStart => exact ⟨0, by omega, rfl, HC, HB⟩
    case round =>
      obtain ⟨k, hk, rfl, HCr, HBr⟩ := hrel
      clear cx cy HC HB
      obtain ⟨cx, cy⟩ := box_rules HCr.out
      by_cases hlt : k < ts.length
      · obtain ⟨a, x, rfl, hx, ⟨z0, z1, z2, z3⟩, z4, z5, z6, z7, z8, z9⟩ := (Ht.out.below HBr.out).tkAt hlt
        have hT := HT.out k hlt
        have N1 := Lib.hid (fun j hj => HN1.out k j hj hlt)
        have N2 := Lib.hid (fun j hj => HN2.out k j hlt hj)
        rw [hx] at hT N1 N2
        have hco := hT.cost; have hde := hT.deadline; have hla := hT.late; have hpe := hT.period
        have hrp := fun w => run_pre (some a) ts.length ca k (by omega) w
        clear hx hT
        obtain ⟨x0, x1, x2, x3, x4, x5, x6, x7, x8, x9⟩ := x
        dsimp only at *
        go_upto_region 13 with fail
        refine name_world fun U hU => ?_
        have hbu : Below wr.heap.size wr U := by rw [hU]; exact (Below.refl _ _).alloc (Nat.le_refl _) _
        have HX : Hid (U.heap[wr.heap.size]? = some (.cells #[.int .u8 x0, .int .i64 x1, .int .i64 x2, .int .i64 x3, .int .i64 x4, .int .i64 x5, .int .i64 x6, .int .i64 x7, .int .i64 x8, .int .i64 x9] 44 (0, 0))) := Lib.hid (by rw [hU]; exact heap_alloc_new _ _)
        have HCu := Lib.hid (box_keep HCr.out hbu)
        have HBu := Lib.hid (HBr.out.trans (hbu.mono HBr.out.size))
        clear hU hbu z0 z1 z2 z3 z4 z5 z6 z7 z8 z9 cx cy HCr HBr
        generalize wr.heap.size = bx at *
        obtain ⟨cx, cy⟩ := box_rules HCu.out
        go_wp2
        go_loopw [88] (fun i wv => ∃ j : Nat, j ≤ k ∧ i = .int .i64 j ∧ Hid (wv.heap[w.heap.size]? = some (.cells #[.int .i64 mn, .int .i64 mx, .int .i64 sw, .slice (some a) ts.length ca, .slice B ls.length cb, .slice D hs.length cd] 28 (0, 0))) ∧ Hid (Below w.heap.size w wv) ∧ Hid (wv.heap[bx]? = some (.cells #[.int .u8 x0, .int .i64 x1, .int .i64 x2, .int .i64 x3, .int .i64 x4, .int .i64 x5, .int .i64 x6, .int .i64 x7, .int .i64 x8, .int .i64 x9] 44 (0, 0)))) (fun i _ => k - (intOf i).toNat)
        case atStart => exact ⟨0, by omega, rfl, HCu, HBu, HX⟩
        case round =>
          obtain ⟨j, hj, rfl, HCv, HBv, HXv⟩ := hrel
          clear cx cy HCu HBu HX
          by_cases hlt2 : j < k
          · obtain ⟨a', y, ha, hyy, ⟨z0, z1, z2, z3⟩, z4, z5, z6, z7, z8, z9⟩ := (Ht.out.below HBv.out).tkAt (show j < ts.length by omega)
            cases ha
            have hne := N1.out j hlt2
            rw [hyy] at hne
            clear hyy
            obtain ⟨y0, y1, y2, y3, y4, y5, y6, y7, y8, y9⟩ := y
            dsimp only at *
            have hne2 : (x1 == y1) = false := by simpa using hne
            obtain ⟨xx, xy⟩ := box_rules HXv.out
            have lx := box_lt HXv.out
            clear hne
            go_wp2
            refine ⟨⟨j + 1, hlt2, by go_num, Lib.hid (box_alloc HCv.out _), Lib.hid (HBv.out.alloc HBv.out.size _), Lib.hid (box_alloc HXv.out _)⟩, ?_⟩
            simp [intOf]; omega
          · obtain rfl : j = k := by omega
            obtain ⟨cx, cy⟩ := box_rules HCv.out
            go_wp2
            go_loopw [101] (fun i wv => ∃ j : Nat, j ≤ hs.length ∧ i = .int .i64 j ∧ Hid (wv.heap[w.heap.size]? = some (.cells #[.int .i64 mn, .int .i64 mx, .int .i64 sw, .slice (some a) ts.length ca, .slice B ls.length cb, .slice D hs.length cd] 28 (0, 0))) ∧ Hid (Below w.heap.size w wv) ∧ Hid (wv.heap[bx]? = some (.cells #[.int .u8 x0, .int .i64 x1, .int .i64 x2, .int .i64 x3, .int .i64 x4, .int .i64 x5, .int .i64 x6, .int .i64 x7, .int .i64 x8, .int .i64 x9] 44 (0, 0)))) (fun i _ => hs.length - (intOf i).toNat)
            case atStart => exact ⟨0, by omega, rfl, HCv, HBv, HXv⟩
            case round =>
              obtain ⟨m, hm, rfl, HCz, HBz, HXz⟩ := hrel
              clear cx cy HCv HBv HXv
              by_cases hlt3 : m < hs.length
              · obtain ⟨ad, y, rfl, hyy, z0, z1, z2, z3⟩ := (Hh.out.below HBz.out).thAt hlt3
                have hne := N2.out m hlt3
                rw [hyy] at hne
                clear hyy
                obtain ⟨y0, y1, y2, y3⟩ := y
                dsimp only at *
                have hne2 : (x1 == y0) = false := by simpa using hne
                obtain ⟨xx, xy⟩ := box_rules HXz.out
                have lx := box_lt HXz.out
                clear hne
                go_wp2
                refine ⟨⟨m + 1, hlt3, by go_num, Lib.hid (box_alloc HCz.out _), Lib.hid (HBz.out.alloc HBz.out.size _), Lib.hid (box_alloc HXz.out _)⟩, ?_⟩
                simp [intOf]; omega
              · obtain rfl : m = hs.length := by omega
                obtain ⟨cx, cy⟩ := box_rules HCz.out
                obtain ⟨xx, xy⟩ := box_rules HXz.out
                go_wp2
                refine ⟨⟨j + 1, hlt, by go_num, HCz, HBz⟩, ?_⟩
                simp [intOf]; omega
      · obtain rfl : k = ts.length := by omega
        go_wp2
        go_ret
        exact ⟨rfl, HBr.out⟩
  · have hy2 : (Cf.why ⟨mn, mx, sw, ts, ls, hs⟩ != 0) = true := by simpa using hy
    clear hy
    generalize Cf.why ⟨mn, mx, sw, ts, ls, hs⟩ = y at *
    unfold cfv at *
    go_enter Try.func3, Try.ntmps3
    go_upto_region 1 with fail
    refine name_world fun W hW => ?_
    have HC : Hid (W.heap[w.heap.size]? = some (.cells #[.int .i64 mn, .int .i64 mx, .int .i64 sw, .slice A ts.length ca, .slice B ls.length cb, .slice D hs.length cd] 28 (0, 0))) := Lib.hid (by rw [hW]; exact heap_alloc_new w _)
    have HB : Hid (Below w.heap.size w W) := Lib.hid (by rw [hW]; exact (Below.refl _ _).alloc (Nat.le_refl _) _)
    clear hW
    go_wp2_with fail
    refine (c0.out _).mono ?_
    rintro e w0 ⟨rfl, hb⟩
    have HB0 := Lib.hid (HB.out.trans (hb.mono HB.out.size))
    have HC0 := Lib.hid (box_keep HC.out hb)
    clear hb HB HC
    have HB := HB0
    have HC := HC0
    clear HB0 HC0
    obtain ⟨cx, cy⟩ := box_rules HC.out
    go_wp2_with fail
    refine (c1.out _ (Ht.out.below HB.out) (Hl.out.below HB.out) (Hh.out.below HB.out)).mono ?_
    rintro e w1 ⟨rfl, hb⟩
    clear cx cy
    have HB1 := Lib.hid (HB.out.trans (hb.mono HB.out.size))
    have HC1 := Lib.hid (box_keep HC.out hb)
    clear hb HB HC
    have HB := HB1
    have HC := HC1
    clear HB1 HC1
    obtain ⟨cx, cy⟩ := box_rules HC.out
    go_wp2
    go_ret
    exact ⟨rfl, HB.out⟩
end Go.Proofs.Ytgampofpabllbaa

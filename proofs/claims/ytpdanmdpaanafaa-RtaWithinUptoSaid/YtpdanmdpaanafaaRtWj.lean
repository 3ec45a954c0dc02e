/- vergelaw28: the walk of RtaWithin. Conditions: lists that read. -/
import Derived.Test.YtpdanmdpaanafaaRtWiP
import Derived.Test.YtpdanmdpaanafaaRtYP
namespace Go.Proofs.Ytpdanmdpaanafaa
open Go.RowKit Go.Shelf

set_option maxHeartbeats 4000000 in
set_option maxRecDepth 100000 in
theorem within28_cfg (mn mx sw : Int) (ts : List Tk) (ls : List Ln) (hs : List Th) (A : Option Addr) (ca : Nat) (B : Option Addr) (cb : Nat) (D : Option Addr) (cd : Nat) (n : Int) (w : World)
    (hlt0 : ts.length ≤ 1048576) (hll : ls.length ≤ 1048576) (hlh : hs.length ≤ 1048576)
    (ht : Rd w A (ts.flatMap tkc)) (hl : Rd w B (ls.flatMap lnc)) (hh : Rd w D (hs.flatMap thc)) (hmx : I64 mx) (ht64 : ∀ p ∈ ts.map (·.prio) ++ hs.map (·.prio), I64 p) :
    Calls Try.prog 6 #[cfv mn mx sw A ts.length ca B ls.length cb D hs.length cd, .int .i64 n] w fun e w' => e = .returned (.bool true) ∧ Below w.heap.size w w' := by
  have c1 := Lib.hid (fun w ht hl hh => rbound_any mn mx sw ts ls hs A ca B cb D cd n w hlt0 hll hlh ht hl hh hmx ht64)
  have c2 := Lib.hid (fun w ht hl hh => rbase_any mn mx sw ts ls hs A ca B cb D cd n w hlt0 hll hlh ht hl hh hmx ht64)
  have c3 := Lib.hid (fun w ht hl hh => rlag_any mn mx sw ts ls hs A ca B cb D cd n w hlt0 hll hlh ht hl hh hmx ht64)
  have c4 := Lib.hid (fun w ht hl hh => rloads_any mn mx sw ts ls hs A ca B cb D cd n w hlt0 hll hlh ht hl hh hmx ht64)
  have f0 := Lib.hid (fun w => lives28 w)
  have HIn : Hid (askY (Cf.why ⟨mn, mx, sw, ts, ls, hs⟩) ts n = 0 → (n.toNat < ts.length ∧ n = (n.toNat : Int)) ∧ (1 ≤ mn ∧ mn ≤ 2147483648) ∧ TkIn (ts.getD n.toNat tk0) sw ∧ (loadsL mn sw ts ls hs (ts.getD n.toNat tk0).prio).length ≤ 1048576) := Lib.hid (fun h => by
    obtain ⟨h1, h2, h22⟩ := askY_zero h
    have c := cfIn_of h1
    have h3 := c.mn; have h4 := c.mx; have h5 := c.mm; have h6 := c.nt; have h7 := c.nl; have h8 := c.nh
    dsimp only at h3 h4 h5 h6 h7 h8
    have := loadsL_len mn sw ts ls hs (ts.getD n.toNat tk0).prio
    exact ⟨⟨h2, h22⟩, ⟨h3, by omega⟩, c.ts _ (getD_mem h2), by omega⟩)
  have Ht := Lib.hid ht; have Hl := Lib.hid hl; have Hh := Lib.hid hh
  clear ht hl hh hmx ht64
  unfold cfv RetN RetLY at *
  generalize askY (Cf.why ⟨mn, mx, sw, ts, ls, hs⟩) ts n = Y at *
  generalize hx0 : ts.getD n.toNat tk0 = x at *
  have HX0 := Lib.hid hx0
  clear hx0
  generalize hN : (if Y = 0 then (boundR mn sw ts ls hs x).1 else 0) = N at *
  generalize hZ : (if Y = 0 then (boundR mn sw ts ls hs x).2 else Y) = Z at *
  have HNo : Hid (Z ≠ 0 → N = 0) := Lib.hid (fun h => by
    rw [← hN]; rw [← hZ] at h
    by_cases hy : Y = 0
    · rw [if_pos hy] at h ⊢; exact bound_no h
    · rw [if_neg hy])
  have HYes : Hid (Z = 0 → Y = 0 ∧ N = (boundR mn sw ts ls hs x).1 ∧ (boundR mn sw ts ls hs x).2 = 0) := Lib.hid (fun h => by
    rw [← hN]; rw [← hZ] at h
    by_cases hy : Y = 0
    · rw [if_pos hy] at h ⊢; exact ⟨hy, rfl, h⟩
    · rw [if_neg hy] at h; exact absurd h hy)
  clear hN hZ
  go_enter Try.func6, Try.ntmps6
  go_upto_region 1 with fail
  refine name_world fun W hW => ?_
  have HC : Hid (W.heap[w.heap.size]? = some (.cells #[.int .i64 mn, .int .i64 mx, .int .i64 sw, .slice A ts.length ca, .slice B ls.length cb, .slice D hs.length cd] 28 (0, 0))) := Lib.hid (by rw [hW]; exact heap_alloc_new w _)
  have HB : Hid (Below w.heap.size w W) := Lib.hid (by rw [hW]; exact (Below.refl _ _).alloc (Nat.le_refl _) _)
  have hR := fun w' (h : Hid (Below W.heap.size W w')) => (box_rules (box_keep HC.out h.out)).1
  have m1 := Lib.hid (fun w' (h : Hid (Below W.heap.size W w')) => (Ht.out.below HB.out).below h.out)
  have m2 := Lib.hid (fun w' (h : Hid (Below W.heap.size W w')) => (Hl.out.below HB.out).below h.out)
  have m3 := Lib.hid (fun w' (h : Hid (Below W.heap.size W w')) => (Hh.out.below HB.out).below h.out)
  have hS0 := S_refl' W
  have q0 := hR _ hS0
  clear hW
  go_wp2_with fail
  refine (f0.out _).mono ?_
  rintro e w1 ⟨rfl, hb1⟩
  have hS1 := S_call' hS0 hb1
  have q1 := hR _ hS1
  clear hb1 q0
  go_wp2_with fail
  refine (c1.out _ (m1.out _ hS1) (m2.out _ hS1) (m3.out _ hS1)).mono ?_
  rintro e w2 ⟨rfl, hb1⟩
  have hS2 := S_call' hS1 hb1
  have q2 := hR _ hS2
  clear hb1 q1
  by_cases hz : Z = 0
  · obtain ⟨hY, hN, h2⟩ := HYes.out hz
    obtain ⟨⟨hm, hnm⟩, ⟨mn1, mn2⟩, hx, hlen⟩ := HIn.out hY
    have hg : 0 ≤ lagT mn x ∧ lagT mn x ≤ 2147483648 := by unfold lagT; split <;> omega
    have hd : 1 ≤ x.deadline ∧ x.deadline ≤ 1099511627776 := by have := hx.deadline; have := hx.period; omega
    obtain ⟨r, e1, r1, r2, r3, r4, r5⟩ := bound_fix hd.2 hg.1 h2
    rw [e1] at hN
    have e2 : (if Y = 0 then baseN sw ts x else 0) = baseN sw ts x := if_pos hY
    have e3 : (if Y = 0 then lagT mn x else 0) = lagT mn x := if_pos hY
    have e4 : (if Y = 0 then loadsL mn sw ts ls hs x.prio else []) = loadsL mn sw ts ls hs x.prio := if_pos hY
    rw [e2] at c2; rw [e3] at c3; rw [e4] at c4
    have c5 := Lib.hid (fun A c w hr => all_any (loadsL mn sw ts ls hs x.prio) r hlen A c w hr)
    unfold RetN at c5
    rw [r4] at c5
    generalize loadsL mn sw ts ls hs x.prio = L at *
    generalize baseN sw ts x = bs at *
    generalize lagT mn x = G at *
    generalize allN L r = al at *
    obtain ⟨g1, g2⟩ := hg
    obtain ⟨d1, d2⟩ := hd
    clear HNo HYes HIn h2 e1 e2 e3 e4 hx hlen r4
    subst hz hY hN
    generalize n.toNat = m at *
    subst hnm
    go_wp2_with fail
    refine (c2.out _ (m1.out _ hS2) (m2.out _ hS2) (m3.out _ hS2)).mono ?_
    rintro e w3 ⟨rfl, hb1⟩
    have hS3 := S_call' hS2 hb1
    have q3 := hR _ hS3
    clear hb1 q2
    go_wp2_with fail
    refine (c3.out _ (m1.out _ hS3) (m2.out _ hS3) (m3.out _ hS3)).mono ?_
    rintro e w4 ⟨rfl, hb1⟩
    have hS4 := S_call' hS3 hb1
    have q4 := hR _ hS4
    clear hb1 q3
    go_wp2_with fail
    refine (c4.out _ (m1.out _ hS4) (m2.out _ hS4) (m3.out _ hS4)).mono ?_
    rintro e w5 ⟨A1, k1, rfl, hr1, hb1⟩
    have hS5 := S_call' hS4 hb1
    have HR1 := Lib.hid hr1
    clear hb1 hr1 q4
    have z1 : r + G - G = r := by omega
    go_wp2_with (fail)
    refine (c5.out _ _ _ HR1.out).mono ?_
    rintro e w6 ⟨rfl, hb1⟩
    have hS6 := S_call' hS5 hb1
    have q6 := hR _ hS6
    clear hb1
    obtain ⟨a, y, rfl, hy2, ⟨-, -, -, -⟩, p4, -⟩ := (m1.out _ hS6).tkAt hm
    rw [HX0.out] at hy2
    subst hy2
    go_wp2
    go_ret
    exact ⟨rfl, HB.out.trans (hS6.out.mono HB.out.size)⟩
  · obtain rfl := HNo.out hz
    have hz1 : (Z != 0) = true := by simpa using hz
    go_wp2
    go_ret
    exact ⟨rfl, HB.out.trans (hS2.out.mono HB.out.size)⟩
end Go.Proofs.Ytpdanmdpaanafaa

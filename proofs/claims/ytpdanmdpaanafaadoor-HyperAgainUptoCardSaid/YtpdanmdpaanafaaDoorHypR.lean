/- vergelaw35: the walk of HyperAgain. Conditions: lists that read; the de Bruijn table as its initialiser lays it. -/
import Derived.Test.YtpdanmdpaanafaaDoorHypQ
namespace Go.Proofs.YtpdanmdpaanafaaDoor
open Go.RowKit Go.Shelf

set_option maxHeartbeats 8000000 in
set_option maxRecDepth 100000 in
theorem again_cfg (mn mx sw : Int) (ts : List Tk) (ls : List Ln) (hs : List Th) (A : Option Addr) (ca : Nat) (B : Option Addr) (cb : Nat) (D : Option Addr) (cd : Nat) (n k u : Int) (w : World)
    (hlt0 : ts.length ≤ 1048576) (hll : ls.length ≤ 1048576) (hlh : hs.length ≤ 1048576)
    (ht : Rd w A (ts.flatMap tkc)) (hl : Rd w B (ls.flatMap lnc)) (hh : Rd w D (hs.flatMap thc)) (hmx : I64 mx) (ht64 : ∀ p ∈ ts.map (·.prio) ++ hs.map (·.prio), I64 p) (hT : Tab w) :
    Calls Tryd.prog 6 #[cfv mn mx sw A ts.length ca B ls.length cb D hs.length cd, .int .i64 n, .int .i64 k, .int .i64 u] w fun e w' => e = .returned (.bool true) ∧ Below w.heap.size w w' := by
  have c1 := Lib.hid (fun w ht hl hh => nth_cfg mn mx sw ts ls hs A ca B cb D cd n k w hlt0 hll hlh ht hl hh hmx ht64)
  have c2 := Lib.hid (fun w ht hl hh hT => period_cfg mn mx sw ts ls hs A ca B cb D cd w hlt0 hll hlh ht hl hh hmx ht64 hT)
  have c3 := Lib.hid (fun a b w ht hl hh => jobs_cfg mn mx sw ts ls hs A ca B cb D cd n a b w hlt0 hll hlh ht hl hh hmx ht64)
  have c4 := Lib.hid (fun w ht hl hh => check_cfg mn mx sw ts ls hs A ca B cb D cd w hlt0 hll hlh ht hl hh hmx ht64)
  have f0 := Lib.hid (fun w hT => lives_any w hT)
  have HN := Lib.hid (nth_cases ⟨mn, mx, sw, ts, ls, hs⟩ n k)
  have HT := Lib.hid hT
  have Ht := Lib.hid ht; have Hl := Lib.hid hl; have Hh := Lib.hid hh
  clear ht hl hh hmx ht64 hT
  generalize hc : (⟨mn, mx, sw, ts, ls, hs⟩ : Cf) = c at *
  have Hts : Hid (c.ts = ts) := Lib.hid (by rw [← hc])
  clear hc
  generalize hP : periodOf c = P at *
  have HP := Lib.hid hP
  clear hP
  obtain ⟨p, pw⟩ := P
  unfold cfv RetB at *
  go_enter Tryd.func6, Tryd.ntmps6
  go_upto_region 1 with fail
  refine name_world fun W hW => ?_
  have HC : Hid (W.heap[w.heap.size]? = some (.cells #[.int .i64 mn, .int .i64 mx, .int .i64 sw, .slice A ts.length ca, .slice B ls.length cb, .slice D hs.length cd] 35 (0, 0))) := Lib.hid (by rw [hW]; exact heap_alloc_new w _)
  have HB : Hid (Below w.heap.size w W) := Lib.hid (by rw [hW]; exact (Below.refl _ _).alloc (Nat.le_refl _) _)
  have hR := fun w' (h : Hid (Below W.heap.size W w')) => (box_rules (box_keep HC.out h.out)).1
  have mT := Lib.hid (fun w' (h : Hid (Below W.heap.size W w')) => (HT.out.below HB.out HT.out.lt).below h.out (HT.out.below HB.out HT.out.lt).lt)
  have m1 := Lib.hid (fun w' (h : Hid (Below W.heap.size W w')) => (Ht.out.below HB.out).below h.out)
  have m2 := Lib.hid (fun w' (h : Hid (Below W.heap.size W w')) => (Hl.out.below HB.out).below h.out)
  have m3 := Lib.hid (fun w' (h : Hid (Below W.heap.size W w')) => (Hh.out.below HB.out).below h.out)
  have hS0 := S_refl' W
  have q0 := hR _ hS0
  clear hW
  go_wp2_with fail
  refine (f0.out _ (mT.out _ hS0)).mono ?_
  rintro e w1 ⟨rfl, hb1⟩
  have hS1 := S_call' hS0 hb1
  have q1 := hR _ hS1
  clear hb1 q0
  rcases HN.out with ⟨z, hz, hN⟩ | ⟨nn, HK⟩
  · rw [hN] at c1
    have hz1 : (z != 0) = true := by simpa using hz
    clear hN HN
    go_wp2_with fail
    refine (c1.out _ (m1.out _ hS1) (m2.out _ hS1) (m3.out _ hS1)).mono ?_
    rintro e w2 ⟨rfl, hb1⟩
    have hS2 := S_call' hS1 hb1
    have q2 := hR _ hS2
    clear hb1 q1
    go_wp2_with fail
    refine (c2.out _ (m1.out _ hS2) (m2.out _ hS2) (m3.out _ hS2) (mT.out _ hS2)).mono ?_
    rintro e w3 ⟨rfl, hb1⟩
    have hS3 := S_call' hS2 hb1
    have q3 := hR _ hS3
    clear hb1 q2
    go_wp2
    go_ret
    exact ⟨rfl, HB.out.trans (hS3.out.mono HB.out.size)⟩
  · have HK := Lib.hid HK
    rw [HK.out.val] at c1
    have d0 := Lib.hid (c3.out 0 nn)
    rw [HK.out.j0] at d0
    have d1 := Lib.hid (c3.out nn (min (nn + 1) 4503599627370496))
    rw [HK.out.j1] at d1
    rw [HK.out.why] at c4
    obtain ⟨b0, b1⟩ : 0 ≤ nn ∧ nn ≤ 4503599627370496 := ⟨HK.out.nn0, HK.out.nn1⟩
    have hn0 := HK.out.n0
    have hn1 : n < ts.length := by rw [← Hts.out]; exact HK.out.n1
    clear HN
    obtain ⟨m, rfl⟩ := Int.eq_ofNat_of_zero_le hn0
    have hm : m < ts.length := by omega
    obtain ⟨a, x, hA, hxx, g⟩ := Rd.tkAt Ht.out hm
    subst hA
    have Hx : Hid (c.ts.getD ((m : Int).toNat) tk0 = x) := Lib.hid (by rw [Hts.out]; exact hxx)
    have mx1 := Lib.hid (fun w' (h : Hid (Below W.heap.size W w')) => Rd.tkAt (m1.out w' h) hm)
    clear g
    go_wp2_with fail
    refine (c1.out _ (m1.out _ hS1) (m2.out _ hS1) (m3.out _ hS1)).mono ?_
    rintro e w2 ⟨rfl, hb1⟩
    have hS2 := S_call' hS1 hb1
    have q2 := hR _ hS2
    clear hb1 q1
    go_wp2_with fail
    refine (c2.out _ (m1.out _ hS2) (m2.out _ hS2) (m3.out _ hS2) (mT.out _ hS2)).mono ?_
    rintro e w3 ⟨rfl, hb1⟩
    have hS3 := S_call' hS2 hb1
    have q3 := hR _ hS3
    clear hb1 q2
    go_wp2_with fail
    refine (d0.out _ (m1.out _ hS3) (m2.out _ hS3) (m3.out _ hS3)).mono ?_
    rintro e w4 ⟨rfl, hb1⟩
    have hS4 := S_call' hS3 hb1
    have q4 := hR _ hS4
    clear hb1 q3
    by_cases hM : nn < 4503599627370496
    · rw [if_pos hM, show min (nn + 1) 4503599627370496 = nn + 1 by omega] at d1
      go_wp2_with fail
      refine (d1.out _ (m1.out _ hS4) (m2.out _ hS4) (m3.out _ hS4)).mono ?_
      rintro e w5 ⟨rfl, hb1⟩
      have hS5 := S_call' hS4 hb1
      have q5 := hR _ hS5
      clear hb1 q4
      go_wp2_with fail
      refine (c4.out _ (m1.out _ hS5) (m2.out _ hS5) (m3.out _ hS5)).mono ?_
      rintro e w6 ⟨rfl, hb1⟩
      have hS6 := S_call' hS5 hb1
      have q6 := hR _ hS6
      clear hb1 q5
      obtain ⟨a2, x2, ha2, hx2, ⟨g0, g1, g2, g3⟩, g4, g5, g6, g7, g8, g9⟩ := mx1.out _ hS6
      obtain rfl : a = a2 := by injection ha2
      obtain rfl : x = x2 := hxx.symm.trans hx2
      clear ha2 hx2
      have l1 := (HK.out.off)
      have l2 := (HK.out.per)
      rw [Hx.out] at l1 l2
      have jp := Lib.hid (HK.out.jp p u)
      rw [Hx.out] at jp
      clear hxx
      obtain ⟨x0, x1, per, off, x4, x5, x6, x7, x8, x9⟩ := x
      dsimp only at g0 g1 g2 g3 g4 g5 g6 g7 g8 g9 l1 l2 jp
      by_cases t1 : pw = 0
      · subst t1
        by_cases t2 : u < off
        · go_wp2
          go_ret
          exact ⟨rfl, (HB.out.trans (hS6.out.mono HB.out.size)).alloc (Nat.le_trans HB.out.size hS6.out.size) _⟩
        · by_cases t3 : 2251799813685248 < u
          · go_wp2
            go_ret
            exact ⟨rfl, (HB.out.trans (hS6.out.mono HB.out.size)).alloc (Nat.le_trans HB.out.size hS6.out.size) _⟩
          · by_cases t4 : 2251799813685248 < p
            · go_wp2
              go_ret
              exact ⟨rfl, (HB.out.trans (hS6.out.mono HB.out.size)).alloc (Nat.le_trans HB.out.size hS6.out.size) _⟩
            · obtain ⟨p1, hJ, hp0⟩ := jp.out HP.out (by omega) (by omega) (by omega)
              have d5 := Lib.hid (c3.out u (u + p))
              rw [hJ] at d5
              have hp0' := Lib.hid hp0
              clear hJ hp0 jp
              have hS7 := S_alloc' hS6 (.cells #[.int .u8 x0, .int .i64 x1, .int .i64 per, .int .i64 off, .int .i64 x4, .int .i64 x5, .int .i64 x6, .int .i64 x7, .int .i64 x8, .int .i64 x9] 44)
              go_wp2_with fail
              refine (d5.out _ (m1.out _ hS7) (m2.out _ hS7) (m3.out _ hS7)).mono ?_
              rintro e w8 ⟨rfl, hb8⟩
              have hS8 := S_call' hS7 hb8
              have HX8 := Lib.hid (box_keep (heap_alloc_new w6 (.cells #[.int .u8 x0, .int .i64 x1, .int .i64 per, .int .i64 off, .int .i64 x4, .int .i64 x5, .int .i64 x6, .int .i64 x7, .int .i64 x8, .int .i64 x9] 44)) hb8)
              obtain ⟨hx8, hy8⟩ := box_rules HX8.out
              clear hb8
              go_wp2
              go_ret
              refine ⟨ret_bool ?_, HB.out.trans (hS8.out.mono HB.out.size)⟩
              trace_state
              simp [hp0'.out]
      · have t1' : (pw != 0) = true := by simpa using t1
        go_wp2
        go_ret
        exact ⟨rfl, (HB.out.trans (hS6.out.mono HB.out.size)).alloc (Nat.le_trans HB.out.size hS6.out.size) _⟩
    · rw [if_neg hM, show min (nn + 1) 4503599627370496 = 4503599627370496 by omega] at d1
      go_wp2_with fail
      refine (d1.out _ (m1.out _ hS4) (m2.out _ hS4) (m3.out _ hS4)).mono ?_
      rintro e w5 ⟨rfl, hb1⟩
      have hS5 := S_call' hS4 hb1
      have q5 := hR _ hS5
      clear hb1 q4
      go_wp2_with fail
      refine (c4.out _ (m1.out _ hS5) (m2.out _ hS5) (m3.out _ hS5)).mono ?_
      rintro e w6 ⟨rfl, hb1⟩
      have hS6 := S_call' hS5 hb1
      have q6 := hR _ hS6
      clear hb1 q5
      obtain ⟨a2, x2, ha2, hx2, ⟨g0, g1, g2, g3⟩, g4, g5, g6, g7, g8, g9⟩ := mx1.out _ hS6
      obtain rfl : a = a2 := by injection ha2
      obtain rfl : x = x2 := hxx.symm.trans hx2
      clear ha2 hx2
      have l1 := (HK.out.off)
      have l2 := (HK.out.per)
      rw [Hx.out] at l1 l2
      have jp := Lib.hid (HK.out.jp p u)
      rw [Hx.out] at jp
      clear hxx
      obtain ⟨x0, x1, per, off, x4, x5, x6, x7, x8, x9⟩ := x
      dsimp only at g0 g1 g2 g3 g4 g5 g6 g7 g8 g9 l1 l2 jp
      by_cases t1 : pw = 0
      · subst t1
        by_cases t2 : u < off
        · go_wp2
          go_ret
          exact ⟨rfl, (HB.out.trans (hS6.out.mono HB.out.size)).alloc (Nat.le_trans HB.out.size hS6.out.size) _⟩
        · by_cases t3 : 2251799813685248 < u
          · go_wp2
            go_ret
            exact ⟨rfl, (HB.out.trans (hS6.out.mono HB.out.size)).alloc (Nat.le_trans HB.out.size hS6.out.size) _⟩
          · by_cases t4 : 2251799813685248 < p
            · go_wp2
              go_ret
              exact ⟨rfl, (HB.out.trans (hS6.out.mono HB.out.size)).alloc (Nat.le_trans HB.out.size hS6.out.size) _⟩
            · obtain ⟨p1, hJ, hp0⟩ := jp.out HP.out (by omega) (by omega) (by omega)
              have d5 := Lib.hid (c3.out u (u + p))
              rw [hJ] at d5
              have hp0' := Lib.hid hp0
              clear hJ hp0 jp
              have hS7 := S_alloc' hS6 (.cells #[.int .u8 x0, .int .i64 x1, .int .i64 per, .int .i64 off, .int .i64 x4, .int .i64 x5, .int .i64 x6, .int .i64 x7, .int .i64 x8, .int .i64 x9] 44)
              go_wp2_with fail
              refine (d5.out _ (m1.out _ hS7) (m2.out _ hS7) (m3.out _ hS7)).mono ?_
              rintro e w8 ⟨rfl, hb8⟩
              have hS8 := S_call' hS7 hb8
              have HX8 := Lib.hid (box_keep (heap_alloc_new w6 (.cells #[.int .u8 x0, .int .i64 x1, .int .i64 per, .int .i64 off, .int .i64 x4, .int .i64 x5, .int .i64 x6, .int .i64 x7, .int .i64 x8, .int .i64 x9] 44)) hb8)
              obtain ⟨hx8, hy8⟩ := box_rules HX8.out
              clear hb8
              go_wp2
              go_ret
              refine ⟨ret_bool ?_, HB.out.trans (hS8.out.mono HB.out.size)⟩
              trace_state
              simp [hp0'.out]
      · have t1' : (pw != 0) = true := by simpa using t1
        go_wp2
        go_ret
        exact ⟨rfl, (HB.out.trans (hS6.out.mono HB.out.size)).alloc (Nat.le_trans HB.out.size hS6.out.size) _⟩
end Go.Proofs.YtpdanmdpaanafaaDoor

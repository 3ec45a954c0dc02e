/- vergelaw35: the walk of HyperTimes. Conditions: lists that read; the de Bruijn table as its initialiser lays it. -/
import Derived.Test.YtpdanmdpaanafaaDoorHypI
namespace Go.Proofs.YtpdanmdpaanafaaDoor
open Go.RowKit Go.Shelf

set_option maxHeartbeats 4000000 in
set_option maxRecDepth 100000 in
theorem times_cfg (mn mx sw : Int) (ts : List Tk) (ls : List Ln) (hs : List Th) (A : Option Addr) (ca : Nat) (B : Option Addr) (cb : Nat) (D : Option Addr) (cd : Nat) (n k u v : Int) (w : World)
    (hlt0 : ts.length ≤ 1048576) (hll : ls.length ≤ 1048576) (hlh : hs.length ≤ 1048576)
    (ht : Rd w A (ts.flatMap tkc)) (hl : Rd w B (ls.flatMap lnc)) (hh : Rd w D (hs.flatMap thc)) (hmx : I64 mx) (ht64 : ∀ p ∈ ts.map (·.prio) ++ hs.map (·.prio), I64 p) (hT : Tab w) :
    Calls Tryd.prog 4 #[cfv mn mx sw A ts.length ca B ls.length cb D hs.length cd, .int .i64 n, .int .i64 k, .int .i64 u, .int .i64 v] w fun e w' => e = .returned (.bool true) ∧ Below w.heap.size w w' := by
  have c1 := Lib.hid (fun w ht hl hh hT => period_cfg mn mx sw ts ls hs A ca B cb D cd w hlt0 hll hlh ht hl hh hmx ht64 hT)
  have c2 := Lib.hid (fun w ht hl hh hT => period35_cfg mn mx sw ts ls hs A ca B cb D cd w hlt0 hll hlh ht hl hh hmx ht64 hT)
  have c3 := Lib.hid (fun w ht hl hh => nth_cfg mn mx sw ts ls hs A ca B cb D cd n k w hlt0 hll hlh ht hl hh hmx ht64)
  have c4 := Lib.hid (fun w ht hl hh => nth35_cfg mn mx sw ts ls hs A ca B cb D cd n k w hlt0 hll hlh ht hl hh hmx)
  have c5 := Lib.hid (fun w ht hl hh => jobs_cfg mn mx sw ts ls hs A ca B cb D cd n u v w hlt0 hll hlh ht hl hh hmx ht64)
  have c6 := Lib.hid (fun w ht hl hh => jobs35_cfg mn mx sw ts ls hs A ca B cb D cd n u v w hlt0 hll hlh ht hl hh hmx)
  have f0 := Lib.hid (fun w hT => lives_any w hT)
  have HT := Lib.hid hT
  have Ht := Lib.hid ht; have Hl := Lib.hid hl; have Hh := Lib.hid hh
  clear ht hl hh hmx ht64 hT
  generalize periodOf ⟨mn, mx, sw, ts, ls, hs⟩ = P at *
  generalize nthOf ⟨mn, mx, sw, ts, ls, hs⟩ n k = N at *
  generalize jobsOf ⟨mn, mx, sw, ts, ls, hs⟩ n u v = J at *
  obtain ⟨P1, P2⟩ := P
  obtain ⟨N1, N2⟩ := N
  obtain ⟨J1, J2⟩ := J
  unfold cfv RetB at *
  go_enter Tryd.func4, Tryd.ntmps4
  go_upto_region 1 with fail
  refine name_world fun W hW => ?_
  have HC : Hid (W.heap[w.heap.size]? = some (.cells #[.int .i64 mn, .int .i64 mx, .int .i64 sw, .slice A ts.length ca, .slice B ls.length cb, .slice D hs.length cd] 35 (0, 0))) := Lib.hid (by rw [hW]; exact heap_alloc_new w _)
  have HB : Hid (Below w.heap.size w W) := Lib.hid (by rw [hW]; exact (Below.refl _ _).alloc (Nat.le_refl _) _)
  have hR := fun w' (h : Hid (Below W.heap.size W w')) => (box_rules (box_keep HC.out h.out)).1
  have mT := Lib.hid (fun w' (h : Hid (Below W.heap.size W w')) => (HT.out.below HB.out HT.out.lt).below h.out (HT.out.below HB.out HT.out.lt).lt)
  have m1 := Lib.hid (fun w' (h : Hid (Below W.heap.size W w')) => (Ht.out.below HB.out).below h.out)
  have m2 := Lib.hid (fun w' (h : Hid (Below W.heap.size W w')) => (Hl.out.below HB.out).below h.out)
  have m3 := Lib.hid (fun w' (h : Hid (Below W.heap.size W w')) => (Hh.out.below HB.out).below h.out)
  have hS0 := S_refl' W
  have q0 := hR _ hS0
  clear hW
  by_cases hb : 200 < ts.length + ls.length + hs.length
  · have hb' : (200 : Int) < (ts.length : Int) + ls.length + hs.length := by omega
    go_wp2_with (go_at_call 7; refine (f0.out _ (mT.out _ hS0)).mono ?_; rintro e w' ⟨rfl, hb⟩)
    go_ret
    exact ⟨rfl, HB.out.trans (Below.mono (B := W.heap.size) (by assumption) HB.out.size)⟩
  · have hb' : ¬ (200 : Int) < (ts.length : Int) + ls.length + hs.length := by omega
    go_wp2_with fail
    refine (c1.out _ (m1.out _ hS0) (m2.out _ hS0) (m3.out _ hS0) (mT.out _ hS0)).mono ?_
    rintro e w1 ⟨rfl, hb1⟩
    have hS1 := S_call' hS0 hb1
    have q1 := hR _ hS1
    clear hb1
    go_wp2_with fail
    refine (c2.out _ (m1.out _ hS1) (m2.out _ hS1) (m3.out _ hS1) (mT.out _ hS1)).mono ?_
    rintro e w2 ⟨rfl, hb1⟩
    have hS2 := S_call' hS1 hb1
    have q2 := hR _ hS2
    clear hb1 hS1 q1
    go_wp2_with fail
    refine (c3.out _ (m1.out _ hS2) (m2.out _ hS2) (m3.out _ hS2)).mono ?_
    rintro e w3 ⟨rfl, hb1⟩
    have hS3 := S_call' hS2 hb1
    have q3 := hR _ hS3
    clear hb1 hS2 q2
    go_wp2_with fail
    refine (c4.out _ (m1.out _ hS3) (m2.out _ hS3) (m3.out _ hS3)).mono ?_
    rintro e w4 ⟨rfl, hb1⟩
    have hS4 := S_call' hS3 hb1
    have q4 := hR _ hS4
    clear hb1 hS3 q3
    go_wp2_with fail
    refine (c5.out _ (m1.out _ hS4) (m2.out _ hS4) (m3.out _ hS4)).mono ?_
    rintro e w5 ⟨rfl, hb1⟩
    have hS5 := S_call' hS4 hb1
    have q5 := hR _ hS5
    clear hb1 hS4 q4
    go_wp2_with fail
    refine (c6.out _ (m1.out _ hS5) (m2.out _ hS5) (m3.out _ hS5)).mono ?_
    rintro e w6 ⟨rfl, hb1⟩
    have hS6 := S_call' hS5 hb1
    clear hb1 hS5 q5
    go_wp2_with fail
    refine (f0.out _ (mT.out _ hS6)).mono ?_
    rintro e w7 ⟨rfl, hb1⟩
    have hS7 := S_call' hS6 hb1
    clear hb1 hS6
    go_wp2
    go_ret
    exact ⟨rfl, HB.out.trans (hS7.out.mono HB.out.size)⟩
end Go.Proofs.YtpdanmdpaanafaaDoor

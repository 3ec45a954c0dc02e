/- vergelaw28: the walk of lives. Conditions: lists that read. -/
import Derived.Test.YtpdanmdpaanafaaRtXP
namespace Go.Proofs.Ytpdanmdpaanafaa
open Go.RowKit Go.Shelf

theorem addr_add0 (a : Addr) : a.add 0 = a := by
  unfold Addr.add
  split <;> simp_all
set_option maxHeartbeats 4000000 in
set_option maxRecDepth 100000 in
theorem lives28 (w : World) : Calls Try.prog 25 #[] w fun e w' => e = .returned (.bool true) ∧ Below w.heap.size w w' := by
  have f0 := Lib.hid (fun w => small28 w)
  have c1 := Lib.hid (fun b w h => blk_S (b := b) (w := w) h)
  have c2 := Lib.hid (fun b w h => base_S (b := b) (w := w) h)
  have c3 := Lib.hid (fun b w h => lag_S (b := b) (w := w) h)
  have c4 := Lib.hid (fun b w h => loads_S (b := b) (w := w) h)
  have c5 := Lib.hid (fun b w h => bound_S0 (b := b) (w := w) h)
  have c6 := Lib.hid (fun b w h => bound_S1 (b := b) (w := w) h)
  have c7 := Lib.hid (fun b w h => bound_S2 (b := b) (w := w) h)
  have c8 := Lib.hid (fun w => bound_0 (w := w))
  unfold cSv RetN RetLY at *
  go_enter Try.func25, Try.ntmps25
  go_wp2_with fail
  refine (f0.out _).mono ?_
  rintro e w0 ⟨rfl, hCS, hb0⟩
  have H0 := Lib.hid hCS; have B0 := Lib.hid hb0
  clear hCS hb0
  go_upto_region 2 with fail
  refine name_world fun W hW => ?_
  have HC : Hid (W.heap[w0.heap.size]? = some (.cells #[.int .i64 4, .int .i64 100, .int .i64 2, .slice (some ⟨w.heap.size + 1, 0, none⟩) 2 2, .slice (some ⟨w.heap.size + 1 + 1, 0, none⟩) 1 1, .slice (some ⟨w.heap.size + 1 + 1 + 1, 0, none⟩) 1 1] 28 (0, 0))) := Lib.hid (by rw [hW]; exact heap_alloc_new w0 _)
  have HS : Hid (CS w.heap.size W) := Lib.hid (by rw [hW]; exact H0.out.alloc _)
  have HB : Hid (Below w.heap.size w W) := Lib.hid (by rw [hW]; exact B0.out.alloc B0.out.size _)
  have hR := fun w' (h : Hid (Below W.heap.size W w')) => (box_rules (box_keep HC.out h.out)).1
  have mS := Lib.hid (fun w' (h : Hid (Below W.heap.size W w')) => HS.out.below h.out)
  have hS0 := S_refl' W
  clear hW
  have q0 := hR _ hS0
  go_wp2_with fail
  refine (c1.out _ _ (mS.out _ hS0)).mono ?_
  rintro e w1 ⟨rfl, hb1⟩
  have hS1 := S_call' hS0 hb1
  have q1 := hR _ hS1
  clear hb1 q0
  go_wp2_with fail
  refine (c2.out _ _ (mS.out _ hS1)).mono ?_
  rintro e w2 ⟨rfl, hb1⟩
  have hS2 := S_call' hS1 hb1
  have q2 := hR _ hS2
  clear hb1 q1
  go_wp2_with fail
  refine (c3.out _ _ (mS.out _ hS2)).mono ?_
  rintro e w3 ⟨rfl, hb1⟩
  have hS3 := S_call' hS2 hb1
  have q3 := hR _ hS3
  clear hb1 q2
  go_wp2_with fail
  refine (c4.out _ _ (mS.out _ hS3)).mono ?_
  rintro e w4 ⟨AD, cD, rfl, hrd, hb⟩
  have hS4 := S_call' hS3 hb
  obtain ⟨ad, rfl, g0⟩ := hrd 0 _ rfl
  have HRD := Lib.hid hrd
  clear hb q3 hrd g0
  have q4 := hR _ hS4
  have mD := Lib.hid (fun w' (h : Hid (Below w4.heap.size w4 w')) => HRD.out.below h.out)
  have k4 := S_refl' w4
  go_wp2_with fail
  refine (c5.out _ _ (mS.out _ hS4)).mono ?_
  rintro e w5 ⟨rfl, hb⟩
  have hS5 := S_call' hS4 hb
  have k5 := S_call' k4 hb
  have q5 := hR _ hS5
  clear hb q4 k4
  go_wp2_with fail
  refine (c6.out _ _ (mS.out _ hS5)).mono ?_
  rintro e w6 ⟨rfl, hb⟩
  have hS6 := S_call' hS5 hb
  have k6 := S_call' k5 hb
  have q6 := hR _ hS6
  clear hb q5 k5
  go_wp2_with fail
  refine (c7.out _ _ (mS.out _ hS6)).mono ?_
  rintro e w7 ⟨rfl, hb⟩
  have hS7 := S_call' hS6 hb
  have k7 := S_call' k6 hb
  have q7 := hR _ hS7
  clear hb q6 k6
  go_wp2_with fail
  refine (c8.out _).mono ?_
  rintro e w8 ⟨rfl, hb⟩
  have hS8 := S_call' hS7 hb
  have k8 := S_call' k7 hb
  clear hb q7 k7
  obtain ⟨a1, x1, e1, y1, p0, p1, p2, p3⟩ := (mD.out _ k8).ldAt (k := 0) (by decide)
  obtain ⟨a2, x2, e2, y2, r0, r1, r2, r3⟩ := (mD.out _ k8).ldAt (k := 1) (by decide)
  obtain ⟨a3, x3, e3, y3, s0, s1, s2, s3⟩ := (mD.out _ k8).ldAt (k := 2) (by decide)
  injection e1 with e1
  injection e2 with e2
  injection e3 with e3
  subst e1 e2 e3
  have y1' : x1 = ⟨100, 4, 96, 11⟩ := y1.symm.trans rfl
  have y2' : x2 = ⟨40, 0, 40, 5⟩ := y2.symm.trans rfl
  have y3' : x3 = ⟨50, 0, 50, 8⟩ := y3.symm.trans rfl
  clear y1 y2 y3
  subst y1' y2' y3'
  simp only [Nat.zero_mul, Nat.one_mul] at p0 p1 p2 p3 r0 r1 r2 r3
  simp only [Nat.reduceMul] at s0 s1 s2 s3
  rw [addr_add0] at p0 p1 p2 p3
  clear hS0 hS1 hS2 hS3 hS4 hS5 hS6 hR mS mD k8 HRD r0 r1 r2 s0 s1 s2
  have r3' : w8.cell? ⟨ad.block, ad.off + 4 + 3, none⟩ = some (.int .i64 5) := r3
  have s3' : w8.cell? ⟨ad.block, ad.off + 8 + 3, none⟩ = some (.int .i64 8) := s3
  clear r3 s3
  go_wp2
  go_ret
  exact ⟨rfl, HB.out.trans (hS8.out.mono HB.out.size)⟩
end Go.Proofs.Ytpdanmdpaanafaa

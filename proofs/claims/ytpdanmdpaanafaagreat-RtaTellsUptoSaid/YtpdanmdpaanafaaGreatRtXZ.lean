/- vergelaw28: the walk of lives: the answers that the document gives are given; vergeref24.Same of equal lists. No premise of its own. -/
import Derived.Test.YtpdanmdpaanafaaGreatRtTW
namespace Go.Proofs.YtpdanmdpaanafaaGreat
open Go.RowKit Go.Shelf

theorem same24_one (l : List Ld) (hl : l.length ≤ 1048576) (A : Option Addr) (c : Nat) (B : Option Addr) (d : Nat) (w : World) (ha : Rd w A (l.flatMap ldc)) (hb : Rd w B (l.flatMap ldc)) :
    Calls Tryz.prog 16 #[.slice A l.length c, .slice B l.length d] w fun e w' => e = .returned (.bool true) ∧ Below w.heap.size w w' := by
  have Ha := Lib.hid ha; have Hb := Lib.hid hb
  clear ha hb
  go_enter Tryz.func16, Tryz.ntmps16
  go_wp2
  go_loopw [13] (fun i wr => ∃ k : Nat, k ≤ l.length ∧ i = .int .i64 k ∧ ∃ n, wr = w.drewN n) (fun i _ => l.length - (intOf i).toNat)
  case atStart => exact ⟨0, by omega, rfl, 0, rfl⟩
  case round =>
    obtain ⟨k, hk, rfl, n, rfl⟩ := hrel
    by_cases hlt : k < l.length
    · obtain ⟨a, x, rfl, hx, g0, g1, g2, g3⟩ := Ha.out.ldAt hlt
      obtain ⟨b, y, rfl, hy, q0, q1, q2, q3⟩ := Hb.out.ldAt hlt
      obtain rfl := hx.symm.trans hy
      clear hx hy
      obtain ⟨x0, x1, x2, x3⟩ := x
      dsimp only at g0 g1 g2 g3 q0 q1 q2 q3
      go_wp2
      go_quiet (fail)
      go_wp2
      go_roundw
      case rel => exact ⟨k + 1, by omega, by go_num, _, rfl⟩
      case measure => simp [intOf]; omega
    · obtain rfl : k = l.length := by omega
      go_wp2
      go_ret
      exact ⟨rfl, bdrewN (Below.refl _ _) _⟩
def tkS : Tk := ⟨1, 5, 100, 0, 50, 9, 1, 0, 1, 4⟩
def tkS2 : Tk := ⟨2, 3, 200, 0, 200, 20, 1, 0, 2, 8⟩
def lnS : Ln := ⟨3, 4, 2, 50⟩
def thS : Th := ⟨4, 5, 40, 4⟩
def cS : Cf := ⟨4, 100, 2, [tkS, tkS2], [lnS], [thS]⟩
def cSv (b : Nat) : Value := .agg #[.int .i64 4, .int .i64 100, .int .i64 2, .slice (some ⟨b + 1, 0, none⟩) 2 2, .slice (some ⟨b + 1 + 1, 0, none⟩) 1 1, .slice (some ⟨b + 1 + 1 + 1, 0, none⟩) 1 1]
/-- The configuration's memory. -/
structure CS (b : Nat) (w : World) : Prop where
  t : w.heap[b + 1]? = some (.cells (tkc tkS ++ tkc tkS2).toArray 58 (0, 0))
  l : w.heap[b + 1 + 1]? = some (.cells (lnc lnS).toArray 72 (0, 0))
  h : w.heap[b + 1 + 1 + 1]? = some (.cells (thc thS).toArray 74 (0, 0))
theorem CS.below {b : Nat} {w w' : World} (h : CS b w) (hb : Below w.heap.size w w') : CS b w' := ⟨box_keep h.t hb, box_keep h.l hb, box_keep h.h hb⟩
theorem CS.alloc {b : Nat} {w : World} (h : CS b w) (o : Obj) : CS b (w.alloc o) := h.below ((Below.refl _ _).alloc (Nat.le_refl _) _)
theorem CS.rt {b : Nat} {w : World} (h : CS b w) : Rd w (some ⟨b + 1, 0, none⟩) ([tkS, tkS2].flatMap tkc) := rd_box h.t
theorem CS.rl {b : Nat} {w : World} (h : CS b w) : Rd w (some ⟨b + 1 + 1, 0, none⟩) ([lnS].flatMap lnc) := rd_box h.l
theorem CS.rh {b : Nat} {w : World} (h : CS b w) : Rd w (some ⟨b + 1 + 1 + 1, 0, none⟩) ([thS].flatMap thc) := rd_box h.h
theorem small28 (w : World) : Calls Tryz.prog 25 #[] w fun e w' => e = .returned (cSv w.heap.size) ∧ CS w.heap.size w' ∧ Below w.heap.size w w' := by
  go_enter Tryz.func25, Tryz.ntmps25
  go_wp2
  refine bodyPost_ret (v := cSv w.heap.size) (by simp [results, cSv, Tryz.f25, go_sem]) rfl ⟨rfl, ⟨?_, ?_, ?_⟩, ?_⟩
  · show _ = some (Obj.cells #[.int .u8 1, .int .i64 5, .int .i64 100, .int .i64 0, .int .i64 50, .int .i64 9, .int .i64 1, .int .i64 0, .int .i64 1, .int .i64 4, .int .u8 2, .int .i64 3, .int .i64 200, .int .i64 0, .int .i64 200, .int .i64 20, .int .i64 1, .int .i64 0, .int .i64 2, .int .i64 8] 58 (0, 0))
    repeat (first | ((with_reducible refine heap_new_at _ ?_); focus (first | (with_reducible rfl) | (simp; done))) | (with_reducible refine box_alloc ?_ _) | ((with_reducible refine box_far ?_ ?_ _); rotate_left 1; focus (first | (simp; done) | (simp; omega) | omega)))
  · show _ = some (Obj.cells #[.int .i64 3, .int .i64 4, .int .i64 2, .int .i64 50] 72 (0, 0))
    repeat (first | ((with_reducible refine heap_new_at _ ?_); focus (first | (with_reducible rfl) | (simp; done))) | (with_reducible refine box_alloc ?_ _) | ((with_reducible refine box_far ?_ ?_ _); rotate_left 1; focus (first | (simp; done) | (simp; omega) | omega)))
  · show _ = some (Obj.cells #[.int .i64 4, .int .i64 5, .int .i64 40, .int .i64 4] 74 (0, 0))
    repeat (first | ((with_reducible refine heap_new_at _ ?_); focus (first | (with_reducible rfl) | (simp; done))) | (with_reducible refine box_alloc ?_ _) | ((with_reducible refine box_far ?_ ?_ _); rotate_left 1; focus (first | (simp; done) | (simp; omega) | omega)))
  · repeat (first | (with_reducible exact Below.refl _ _) | ((with_reducible refine Below.setCell ?_ ?_ _); rotate_left 1; focus (first | (with_reducible exact Nat.le_refl _) | (simp; done))) | ((with_reducible refine Below.alloc ?_ ?_ _); rotate_left 1; focus (first | (simp; done) | (simp; omega) | omega)))
theorem vS64 : ∀ p ∈ cS.ts.map (·.prio) ++ cS.hs.map (·.prio), I64 p := by
  intro p hp
  simp [cS, tkS, tkS2, thS] at hp
  unfold I64
  omega
theorem retN_calls {P : Program} {f : Nat} {args : Array Value} {w : World} {a y a' y' : Int} (k : Calls P f args w (RetN a y w)) (h1 : a = a') (h2 : y = y') : Calls P f args w (RetN a' y' w) := by
  subst h1; subst h2; exact k
theorem retL_calls {P : Program} {f : Nat} {args : Array Value} {w : World} {l l' : List Ld} {y y' : Int} (k : Calls P f args w (RetLY l y w)) (h1 : l = l') (h2 : y = y') : Calls P f args w (RetLY l' y' w) := by
  subst h1; subst h2; exact k
theorem blk_S {b : Nat} {w : World} (h : CS b w) : Calls Tryz.prog 6 #[cSv b, .int .i64 0] w (RetN 6 0 w) := by
  have k := rblocking_any 4 100 2 cS.ts cS.ls cS.hs (some ⟨b + 1, 0, none⟩) 2 (some ⟨b + 1 + 1, 0, none⟩) 1 (some ⟨b + 1 + 1 + 1, 0, none⟩) 1 0 w (by decide) (by decide) (by decide) h.rt h.rl h.rh (by unfold I64; omega) vS64
  exact retN_calls k (by kernel_rfl) (by kernel_rfl)
theorem base_S {b : Nat} {w : World} (h : CS b w) : Calls Tryz.prog 8 #[cSv b, .int .i64 0] w (RetN 17 0 w) := by
  have k := rbase_any 4 100 2 cS.ts cS.ls cS.hs (some ⟨b + 1, 0, none⟩) 2 (some ⟨b + 1 + 1, 0, none⟩) 1 (some ⟨b + 1 + 1 + 1, 0, none⟩) 1 0 w (by decide) (by decide) (by decide) h.rt h.rl h.rh (by unfold I64; omega) vS64
  exact retN_calls k (by kernel_rfl) (by kernel_rfl)
theorem lag_S {b : Nat} {w : World} (h : CS b w) : Calls Tryz.prog 10 #[cSv b, .int .i64 0] w (RetN 4 0 w) := by
  have k := rlag_any 4 100 2 cS.ts cS.ls cS.hs (some ⟨b + 1, 0, none⟩) 2 (some ⟨b + 1 + 1, 0, none⟩) 1 (some ⟨b + 1 + 1 + 1, 0, none⟩) 1 0 w (by decide) (by decide) (by decide) h.rt h.rl h.rh (by unfold I64; omega) vS64
  exact retN_calls k (by kernel_rfl) (by kernel_rfl)
theorem bound_S0 {b : Nat} {w : World} (h : CS b w) : Calls Tryz.prog 14 #[cSv b, .int .i64 0] w (RetN 29 0 w) := by
  have k := rbound_any 4 100 2 cS.ts cS.ls cS.hs (some ⟨b + 1, 0, none⟩) 2 (some ⟨b + 1 + 1, 0, none⟩) 1 (some ⟨b + 1 + 1 + 1, 0, none⟩) 1 0 w (by decide) (by decide) (by decide) h.rt h.rl h.rh (by unfold I64; omega) vS64
  exact retN_calls k (by kernel_rfl) (by kernel_rfl)
theorem bound_S1 {b : Nat} {w : World} (h : CS b w) : Calls Tryz.prog 14 #[cSv b, .int .i64 1] w (RetN 59 0 w) := by
  have k := rbound_any 4 100 2 cS.ts cS.ls cS.hs (some ⟨b + 1, 0, none⟩) 2 (some ⟨b + 1 + 1, 0, none⟩) 1 (some ⟨b + 1 + 1 + 1, 0, none⟩) 1 1 w (by decide) (by decide) (by decide) h.rt h.rl h.rh (by unfold I64; omega) vS64
  exact retN_calls k (by kernel_rfl) (by kernel_rfl)
theorem bound_S2 {b : Nat} {w : World} (h : CS b w) : Calls Tryz.prog 14 #[cSv b, .int .i64 2] w (RetN 0 1 w) := by
  have k := rbound_any 4 100 2 cS.ts cS.ls cS.hs (some ⟨b + 1, 0, none⟩) 2 (some ⟨b + 1 + 1, 0, none⟩) 1 (some ⟨b + 1 + 1 + 1, 0, none⟩) 1 2 w (by decide) (by decide) (by decide) h.rt h.rl h.rh (by unfold I64; omega) vS64
  exact retN_calls k (by kernel_rfl) (by kernel_rfl)
theorem loads_S {b : Nat} {w : World} (h : CS b w) : Calls Tryz.prog 12 #[cSv b, .int .i64 1] w (RetLY [⟨100, 4, 96, 11⟩, ⟨40, 0, 40, 5⟩, ⟨50, 0, 50, 8⟩] 0 w) := by
  have k := rloads_any 4 100 2 cS.ts cS.ls cS.hs (some ⟨b + 1, 0, none⟩) 2 (some ⟨b + 1 + 1, 0, none⟩) 1 (some ⟨b + 1 + 1 + 1, 0, none⟩) 1 1 w (by decide) (by decide) (by decide) h.rt h.rl h.rh (by unfold I64; omega) vS64
  exact retL_calls k (by kernel_rfl) (by kernel_rfl)
theorem bound_0 {w : World} : Calls Tryz.prog 14 #[.agg #[.int .i64 0, .int .i64 0, .int .i64 0, .slice none 0 0, .slice none 0 0, .slice none 0 0], .int .i64 0] w (RetN 0 2 w) := by
  have k := rbound_any 0 0 0 [] [] [] none 0 none 0 none 0 0 w (by decide) (by decide) (by decide) (Rd.nil _ _) (Rd.nil _ _) (Rd.nil _ _) (by unfold I64; omega) (by intro p hp; cases hp)
  exact retN_calls k (by kernel_rfl) (by kernel_rfl)
end Go.Proofs.YtpdanmdpaanafaaGreat
/- vergelaw28: the walks of lives and of RtaTells. Conditions: lists that read. -/
namespace Go.Proofs.YtpdanmdpaanafaaGreat
open Go.RowKit Go.Shelf

theorem addr_add0 (a : Addr) : a.add 0 = a := by
  unfold Addr.add
  split <;> simp_all
set_option maxHeartbeats 4000000 in
set_option maxRecDepth 100000 in
theorem lives28 (w : World) : Calls Tryz.prog 5 #[] w fun e w' => e = .returned (.bool true) ∧ Below w.heap.size w w' := by
  have f0 := Lib.hid (fun w => small28 w)
  have c1 := Lib.hid (fun b w h => blk_S (b := b) (w := w) h)
  have c2 := Lib.hid (fun b w h => base_S (b := b) (w := w) h)
  have c3 := Lib.hid (fun b w h => lag_S (b := b) (w := w) h)
  have c4 := Lib.hid (fun b w h => loads_S (b := b) (w := w) h)
  have c5 := Lib.hid (fun b w h => bound_S0 (b := b) (w := w) h)
  have c6 := Lib.hid (fun b w h => bound_S1 (b := b) (w := w) h)
  have c7 := Lib.hid (fun b w h => bound_S2 (b := b) (w := w) h)
  have c8 := Lib.hid (fun w => bound_0 (w := w))
  unfold cSv RetN RetLY at *
  go_enter Tryz.func5, Tryz.ntmps5
  go_wp2_with fail
  refine (f0.out _).mono ?_
  rintro e w0 ⟨rfl, hCS, hb0⟩
  have H0 := Lib.hid hCS; have B0 := Lib.hid hb0
  clear hCS hb0
  go_upto_region 2 with fail
  refine name_world fun W hW => ?_
  have HC : Hid (W.heap[w0.heap.size]? = some (.cells #[.int .i64 4, .int .i64 100, .int .i64 2, .slice (some ⟨w.heap.size + 1, 0, none⟩) 2 2, .slice (some ⟨w.heap.size + 1 + 1, 0, none⟩) 1 1, .slice (some ⟨w.heap.size + 1 + 1 + 1, 0, none⟩) 1 1] 28 (0, 0))) := Lib.hid (by rw [hW]; exact heap_alloc_new w0 _)
  have HS : Hid (CS w.heap.size W) := Lib.hid (by rw [hW]; exact H0.out.alloc _)
  have HB : Hid (Below w.heap.size w W) := Lib.hid (by rw [hW]; exact B0.out.alloc B0.out.size _)
  have hR := fun w' (h : Hid (Below W.heap.size W w')) => (box_rules (box_keep HC.out h.out)).1
  have mS := Lib.hid (fun w' (h : Hid (Below W.heap.size W w')) => HS.out.below h.out)
  have hS0 := S_refl' W
  clear hW
  have q0 := hR _ hS0
  go_wp2_with fail
  refine (c1.out _ _ (mS.out _ hS0)).mono ?_
  rintro e w1 ⟨rfl, hb1⟩
  have hS1 := S_call' hS0 hb1
  have q1 := hR _ hS1
  clear hb1 q0
  go_wp2_with fail
  refine (c2.out _ _ (mS.out _ hS1)).mono ?_
  rintro e w2 ⟨rfl, hb1⟩
  have hS2 := S_call' hS1 hb1
  have q2 := hR _ hS2
  clear hb1 q1
  go_wp2_with fail
  refine (c3.out _ _ (mS.out _ hS2)).mono ?_
  rintro e w3 ⟨rfl, hb1⟩
  have hS3 := S_call' hS2 hb1
  have q3 := hR _ hS3
  clear hb1 q2
  go_wp2_with fail
  refine (c4.out _ _ (mS.out _ hS3)).mono ?_
  rintro e w4 ⟨AD, cD, rfl, hrd, hb⟩
  have hS4 := S_call' hS3 hb
  obtain ⟨ad, rfl, g0⟩ := hrd 0 _ rfl
  have HRD := Lib.hid hrd
  clear hb q3 hrd g0
  have q4 := hR _ hS4
  have mD := Lib.hid (fun w' (h : Hid (Below w4.heap.size w4 w')) => HRD.out.below h.out)
  have k4 := S_refl' w4
  go_wp2_with fail
  refine (c5.out _ _ (mS.out _ hS4)).mono ?_
  rintro e w5 ⟨rfl, hb⟩
  have hS5 := S_call' hS4 hb
  have k5 := S_call' k4 hb
  have q5 := hR _ hS5
  clear hb q4 k4
  go_wp2_with fail
  refine (c6.out _ _ (mS.out _ hS5)).mono ?_
  rintro e w6 ⟨rfl, hb⟩
  have hS6 := S_call' hS5 hb
  have k6 := S_call' k5 hb
  have q6 := hR _ hS6
  clear hb q5 k5
  go_wp2_with fail
  refine (c7.out _ _ (mS.out _ hS6)).mono ?_
  rintro e w7 ⟨rfl, hb⟩
  have hS7 := S_call' hS6 hb
  have k7 := S_call' k6 hb
  have q7 := hR _ hS7
  clear hb q6 k6
  go_wp2_with fail
  refine (c8.out _).mono ?_
  rintro e w8 ⟨rfl, hb⟩
  have hS8 := S_call' hS7 hb
  have k8 := S_call' k7 hb
  clear hb q7 k7
  obtain ⟨a1, x1, e1, y1, p0, p1, p2, p3⟩ := (mD.out _ k8).ldAt (k := 0) (by decide)
  obtain ⟨a2, x2, e2, y2, r0, r1, r2, r3⟩ := (mD.out _ k8).ldAt (k := 1) (by decide)
  obtain ⟨a3, x3, e3, y3, s0, s1, s2, s3⟩ := (mD.out _ k8).ldAt (k := 2) (by decide)
  injection e1 with e1
  injection e2 with e2
  injection e3 with e3
  subst e1 e2 e3
  have y1' : x1 = ⟨100, 4, 96, 11⟩ := y1.symm.trans rfl
  have y2' : x2 = ⟨40, 0, 40, 5⟩ := y2.symm.trans rfl
  have y3' : x3 = ⟨50, 0, 50, 8⟩ := y3.symm.trans rfl
  clear y1 y2 y3
  subst y1' y2' y3'
  simp only [Nat.zero_mul, Nat.one_mul] at p0 p1 p2 p3 r0 r1 r2 r3
  simp only [Nat.reduceMul] at s0 s1 s2 s3
  rw [addr_add0] at p0 p1 p2 p3
  clear hS0 hS1 hS2 hS3 hS4 hS5 hS6 hR mS mD k8 HRD r0 r1 r2 s0 s1 s2
  have r3' : w8.cell? ⟨ad.block, ad.off + 4 + 3, none⟩ = some (.int .i64 5) := r3
  have s3' : w8.cell? ⟨ad.block, ad.off + 8 + 3, none⟩ = some (.int .i64 8) := s3
  clear r3 s3
  go_wp2
  go_ret
  exact ⟨rfl, HB.out.trans (hS8.out.mono HB.out.size)⟩
end Go.Proofs.YtpdanmdpaanafaaGreat
/- vergelaw28: the walk of RtaTells. Conditions: lists that read. -/
namespace Go.Proofs.YtpdanmdpaanafaaGreat
open Go.RowKit Go.Shelf

set_option maxHeartbeats 4000000 in
set_option maxRecDepth 100000 in
theorem tells28_cfg (mn mx sw : Int) (ts : List Tk) (ls : List Ln) (hs : List Th) (A : Option Addr) (ca : Nat) (B : Option Addr) (cb : Nat) (D : Option Addr) (cd : Nat) (n : Int) (w : World)
    (hlt0 : ts.length ≤ 1048576) (hll : ls.length ≤ 1048576) (hlh : hs.length ≤ 1048576)
    (ht : Rd w A (ts.flatMap tkc)) (hl : Rd w B (ls.flatMap lnc)) (hh : Rd w D (hs.flatMap thc)) (hmx : I64 mx) (ht64 : ∀ p ∈ ts.map (·.prio) ++ hs.map (·.prio), I64 p) :
    Calls Tryz.prog 3 #[cfv mn mx sw A ts.length ca B ls.length cb D hs.length cd, .int .i64 n] w fun e w' => e = .returned (.bool true) ∧ Below w.heap.size w w' := by
  have c1 := Lib.hid (fun w ht hl hh => rblocking_any mn mx sw ts ls hs A ca B cb D cd n w hlt0 hll hlh ht hl hh hmx ht64)
  have c2 := Lib.hid (fun w ht hl hh => blocking28_any mn mx sw ts ls hs A ca B cb D cd n w hlt0 hll hlh ht hl hh hmx)
  have c3 := Lib.hid (fun w ht hl hh => rbase_any mn mx sw ts ls hs A ca B cb D cd n w hlt0 hll hlh ht hl hh hmx ht64)
  have c4 := Lib.hid (fun w ht hl hh => base28_any mn mx sw ts ls hs A ca B cb D cd n w hlt0 hll hlh ht hl hh hmx)
  have c5 := Lib.hid (fun w ht hl hh => rlag_any mn mx sw ts ls hs A ca B cb D cd n w hlt0 hll hlh ht hl hh hmx ht64)
  have c6 := Lib.hid (fun w ht hl hh => lagn28_any mn mx sw ts ls hs A ca B cb D cd n w hlt0 hll hlh ht hl hh hmx)
  have c7 := Lib.hid (fun w ht hl hh => rloads_any mn mx sw ts ls hs A ca B cb D cd n w hlt0 hll hlh ht hl hh hmx ht64)
  have c8 := Lib.hid (fun w ht hl hh => loads28_any mn mx sw ts ls hs A ca B cb D cd n w hlt0 hll hlh ht hl hh hmx)
  have c9 := Lib.hid (fun w ht hl hh => rbound_any mn mx sw ts ls hs A ca B cb D cd n w hlt0 hll hlh ht hl hh hmx ht64)
  have c10 := Lib.hid (fun w ht hl hh => bound28_any mn mx sw ts ls hs A ca B cb D cd n w hlt0 hll hlh ht hl hh hmx)
  have f0 := Lib.hid (fun w => lives28 w)
  have HL : Hid ((if askY (Cf.why ⟨mn, mx, sw, ts, ls, hs⟩) ts n = 0 then loadsL mn sw ts ls hs (ts.getD n.toNat tk0).prio else []).length ≤ 1048576) := Lib.hid (by
    split
    · rename_i h
      obtain ⟨h1, h2, _⟩ := askY_zero h
      have c := cfIn_of h1
      have h3 := c.nt; have h4 := c.nl; have h5 := c.nh
      dsimp only at h3 h4 h5
      have := loadsL_len mn sw ts ls hs (ts.getD n.toNat tk0).prio
      omega
    · exact Nat.zero_le _)
  have Ht := Lib.hid ht; have Hl := Lib.hid hl; have Hh := Lib.hid hh
  clear ht hl hh hmx ht64
  unfold cfv RetN RetLY at *
  generalize askY (Cf.why ⟨mn, mx, sw, ts, ls, hs⟩) ts n = Y at *
  generalize ts.getD n.toNat tk0 = x at *
  generalize (if Y = 0 then blockN ts x.prio ts.length else 0) = n1 at *
  generalize (if Y = 0 then baseN sw ts x else 0) = n2 at *
  generalize (if Y = 0 then lagT mn x else 0) = n3 at *
  generalize (if Y = 0 then loadsL mn sw ts ls hs x.prio else []) = L at *
  generalize (if Y = 0 then (boundR mn sw ts ls hs x).1 else 0) = n4 at *
  generalize (if Y = 0 then (boundR mn sw ts ls hs x).2 else Y) = n5 at *
  have f9 := Lib.hid (fun A c B d w ha hb => same24_one L HL.out A c B d w ha hb)
  have HLn := HL.out
  go_enter Tryz.func3, Tryz.ntmps3
  go_upto_region 1 with fail
  refine name_world fun W hW => ?_
  have HC : Hid (W.heap[w.heap.size]? = some (.cells #[.int .i64 mn, .int .i64 mx, .int .i64 sw, .slice A ts.length ca, .slice B ls.length cb, .slice D hs.length cd] 28 (0, 0))) := Lib.hid (by rw [hW]; exact heap_alloc_new w _)
  have HB : Hid (Below w.heap.size w W) := Lib.hid (by rw [hW]; exact (Below.refl _ _).alloc (Nat.le_refl _) _)
  have hR := fun w' (h : Hid (Below W.heap.size W w')) => (box_rules (box_keep HC.out h.out)).1
  have m1 := Lib.hid (fun w' (h : Hid (Below W.heap.size W w')) => (Ht.out.below HB.out).below h.out)
  have m2 := Lib.hid (fun w' (h : Hid (Below W.heap.size W w')) => (Hl.out.below HB.out).below h.out)
  have m3 := Lib.hid (fun w' (h : Hid (Below W.heap.size W w')) => (Hh.out.below HB.out).below h.out)
  have hS0 := S_refl' W
  have q0 := hR _ hS0
  clear hW
  by_cases hb : (200 : Int) < (ts.length : Int) + ls.length + hs.length
  · go_wp2_with (go_at_call 5; refine (f0.out _).mono ?_; rintro e w' ⟨rfl, hb⟩)
    go_ret
    exact ⟨rfl, HB.out.trans (Below.mono (B := W.heap.size) (by assumption) HB.out.size)⟩
  · go_wp2_with fail
    refine (c1.out _ (m1.out _ hS0) (m2.out _ hS0) (m3.out _ hS0)).mono ?_
    rintro e w1 ⟨rfl, hb1⟩
    have hS1 := S_call' hS0 hb1
    have q1 := hR _ hS1
    clear hb1 q0
    go_wp2_with fail
    refine (c2.out _ (m1.out _ hS1) (m2.out _ hS1) (m3.out _ hS1)).mono ?_
    rintro e w2 ⟨rfl, hb1⟩
    have hS2 := S_call' hS1 hb1
    have q2 := hR _ hS2
    clear hb1 q1
    go_wp2_with fail
    refine (c3.out _ (m1.out _ hS2) (m2.out _ hS2) (m3.out _ hS2)).mono ?_
    rintro e w3 ⟨rfl, hb1⟩
    have hS3 := S_call' hS2 hb1
    have q3 := hR _ hS3
    clear hb1 q2
    go_wp2_with fail
    refine (c4.out _ (m1.out _ hS3) (m2.out _ hS3) (m3.out _ hS3)).mono ?_
    rintro e w4 ⟨rfl, hb1⟩
    have hS4 := S_call' hS3 hb1
    have q4 := hR _ hS4
    clear hb1 q3
    go_wp2_with fail
    refine (c5.out _ (m1.out _ hS4) (m2.out _ hS4) (m3.out _ hS4)).mono ?_
    rintro e w5 ⟨rfl, hb1⟩
    have hS5 := S_call' hS4 hb1
    have q5 := hR _ hS5
    clear hb1 q4
    go_wp2_with fail
    refine (c6.out _ (m1.out _ hS5) (m2.out _ hS5) (m3.out _ hS5)).mono ?_
    rintro e w6 ⟨rfl, hb1⟩
    have hS6 := S_call' hS5 hb1
    have q6 := hR _ hS6
    clear hb1 q5
    go_wp2_with fail
    refine (c7.out _ (m1.out _ hS6) (m2.out _ hS6) (m3.out _ hS6)).mono ?_
    rintro e w7 ⟨A1, k1, rfl, hr1, hb1⟩
    have hS7 := S_call' hS6 hb1
    have q7 := hR _ hS7
    have HR1 := Lib.hid hr1
    clear hb1 hr1 q6
    go_wp2_with fail
    refine (c8.out _ (m1.out _ hS7) (m2.out _ hS7) (m3.out _ hS7)).mono ?_
    rintro e w8 ⟨A2, k2, rfl, hr2, hb2⟩
    have hS8 := S_call' hS7 hb2
    have q8 := hR _ hS8
    have HR18 := Lib.hid (HR1.out.below hb2)
    have HR28 := Lib.hid hr2
    clear hb2 hr2 q7
    go_wp2_with fail
    refine (c9.out _ (m1.out _ hS8) (m2.out _ hS8) (m3.out _ hS8)).mono ?_
    rintro e w9 ⟨rfl, hb3⟩
    have hS9 := S_call' hS8 hb3
    have q9 := hR _ hS9
    have HR19 := Lib.hid (HR18.out.below hb3)
    have HR29 := Lib.hid (HR28.out.below hb3)
    clear hb3 q8
    go_wp2_with fail
    refine (c10.out _ (m1.out _ hS9) (m2.out _ hS9) (m3.out _ hS9)).mono ?_
    rintro e w10 ⟨rfl, hb3⟩
    have hS10 := S_call' hS9 hb3
    have HR110 := Lib.hid (HR19.out.below hb3)
    have HR210 := Lib.hid (HR29.out.below hb3)
    clear hb3 q9
    go_wp2_with fail
    refine (f0.out _).mono ?_
    rintro e w11 ⟨rfl, hb3⟩
    have hS11 := S_call' hS10 hb3
    have HR111 := Lib.hid (HR110.out.below hb3)
    have HR211 := Lib.hid (HR210.out.below hb3)
    clear hb3
    go_wp2_with fail
    refine (f9.out _ _ _ _ _ HR111.out HR211.out).mono ?_
    rintro e w12 ⟨rfl, hb4⟩
    have hS12 := S_call' hS11 hb4
    clear hb4
    go_wp2
    go_ret
    exact ⟨rfl, HB.out.trans (hS12.out.mono HB.out.size)⟩
end Go.Proofs.YtpdanmdpaanafaaGreat

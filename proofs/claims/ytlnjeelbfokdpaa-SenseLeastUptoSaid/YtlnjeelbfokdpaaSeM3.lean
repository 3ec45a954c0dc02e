/- vergelaw37: the answers that lives asks for; the walk of SenseEdge. Conditions: lists that read. -/
import Derived.Test.YtlnjeelbfokdpaaSeM2
namespace Go.Proofs.Ytlnjeelbfokdpaa
open Go.RowKit Go.Shelf

def tk37 (k : Int) : Tk := ⟨2, 5, 100, 0, 50, k, 1, -1, 0, 0⟩
def ln37 : Ln := ⟨3, 4, 2, 50⟩
def th37 : Th := ⟨7, 5, 100, 4⟩
def c37 (k : Int) : Cf := ⟨4, 100, 2, [tk37 k], [ln37], [th37]⟩
structure CS37 (k : Int) (s : Nat) (w : World) : Prop where
  t : w.heap[s + 1]? = some (.cells #[.int .u8 2, .int .i64 5, .int .i64 100, .int .i64 0, .int .i64 50, .int .i64 k, .int .i64 1, .int .i64 (-1), .int .i64 0, .int .i64 0] 43 (0, 0))
  l : w.heap[s + 1 + 1]? = some (.cells #[.int .i64 3, .int .i64 4, .int .i64 2, .int .i64 50] 49 (0, 0))
  h : w.heap[s + 1 + 1 + 1]? = some (.cells #[.int .i64 7, .int .i64 5, .int .i64 100, .int .i64 4] 51 (0, 0))
theorem CS37.below {k : Int} {s : Nat} {w w' : World} (c : CS37 k s w) (hb : Below w.heap.size w w') : CS37 k s w' := ⟨box_keep c.t hb, box_keep c.l hb, box_keep c.h hb⟩
theorem CS37.alloc {k : Int} {s : Nat} {w : World} (c : CS37 k s w) (o : Obj) : CS37 k s (w.alloc o) := ⟨box_alloc c.t _, box_alloc c.l _, box_alloc c.h _⟩
theorem CS37.rt {k : Int} {s : Nat} {w : World} (c : CS37 k s w) : Rd w (some ⟨s + 1, 0, none⟩) ([tk37 k].flatMap tkc) := rd_box (z := (0, 0)) c.t
theorem CS37.rl {k : Int} {s : Nat} {w : World} (c : CS37 k s w) : Rd w (some ⟨s + 1 + 1, 0, none⟩) ([ln37].flatMap lnc) := rd_box (z := (0, 0)) c.l
theorem CS37.rh {k : Int} {s : Nat} {w : World} (c : CS37 k s w) : Rd w (some ⟨s + 1 + 1 + 1, 0, none⟩) ([th37].flatMap thc) := rd_box (z := (0, 0)) c.h
def cv37 (s : Nat) : Value := cfv 4 100 2 (some ⟨s + 1, 0, none⟩) 1 1 (some ⟨s + 1 + 1, 0, none⟩) 1 1 (some ⟨s + 1 + 1 + 1, 0, none⟩) 1 1
theorem small37 (w : World) : Calls Try.prog 29 #[] w fun e w' => e = .returned (cv37 w.heap.size) ∧ CS37 9 w.heap.size w' ∧ Below w.heap.size w w' := by
  unfold cv37 cfv
  go_enter Try.func29, Try.ntmps29
  go_wp2
  refine bodyPost_ret (v := .agg #[.int .i64 4, .int .i64 100, .int .i64 2, .slice (some ⟨w.heap.size + 1, 0, none⟩) 1 1, .slice (some ⟨w.heap.size + 1 + 1, 0, none⟩) 1 1, .slice (some ⟨w.heap.size + 1 + 1 + 1, 0, none⟩) 1 1]) (by simp [results, Try.f29, go_sem]) rfl ?_
  refine ⟨rfl, ⟨?_, ?_, ?_⟩, ?_⟩
  · exact box_alloc (box_alloc (heap_new_at _ (by simp)) _) _
  · exact box_alloc (heap_new_at _ (by simp)) _
  · exact heap_new_at _ (by simp)
  · exact (((Below.refl _ _).alloc (Nat.le_refl _) _).alloc (by simp) _).alloc (by simp; omega) _ |>.alloc (by simp; omega) _
section
theorem i64_100 : I64 100 := by unfold I64; omega
theorem p37 (k : Int) : ∀ p ∈ [tk37 k].map (·.prio) ++ [th37].map (·.prio), I64 p := by
  intro p hp
  simp [tk37, th37] at hp
  unfold I64
  omega
variable {k : Int} {s : Nat} {w : World} (c : CS37 k s w)
include c
theorem cost_37 (n : Int) : Calls Try.prog 15 #[cv37 s, .int .i64 n] w (RetN (if costY (c37 k) n = 0 then costS (c37 k) n.toNat else 0) (costY (c37 k) n) w) :=
  scost_any 4 100 2 [tk37 k] [ln37] [th37] _ 1 _ 1 _ 1 n w (by simp) (by decide) (by decide) c.rt c.rl c.rh i64_100 (p37 k)
theorem budget_37 (n : Int) : Calls Try.prog 17 #[cv37 s, .int .i64 n] w (RetN (if budgetY (c37 k) n = 0 then budgetS (c37 k) n.toNat else 0) (budgetY (c37 k) n) w) :=
  sbudget_any 4 100 2 [tk37 k] [ln37] [th37] _ 1 _ 1 _ 1 n w (by simp) (by decide) (by decide) c.rt c.rl c.rh i64_100 (p37 k)
theorem dead_37 (n : Int) : Calls Try.prog 19 #[cv37 s, .int .i64 n] w (RetN (if costY (c37 k) n = 0 then deadS (c37 k) n.toNat else 0) (costY (c37 k) n) w) :=
  sdead_any 4 100 2 [tk37 k] [ln37] [th37] _ 1 _ 1 _ 1 n w (by simp) (by decide) (by decide) c.rt c.rl c.rh i64_100 (p37 k)
theorem switch_37 : Calls Try.prog 16 #[cv37 s] w (RetN (if oyY (c37 k) = 0 then switchS (c37 k) else 0) (oyY (c37 k)) w) :=
  sswitch_any 4 100 2 [tk37 k] [ln37] [th37] _ 1 _ 1 _ 1 w (by simp) (by decide) (by decide) c.rt c.rl c.rh i64_100 (p37 k)
end
theorem switch_0 (w : World) : Calls Try.prog 16 #[cfv 0 0 0 none 0 0 none 0 0 none 0 0] w (RetN (if oyY ⟨0, 0, 0, [], [], []⟩ = 0 then switchS ⟨0, 0, 0, [], [], []⟩ else 0) (oyY ⟨0, 0, 0, [], [], []⟩) w) :=
  sswitch_any 0 0 0 [] [] [] none 0 none 0 none 0 w (by decide) (by decide) (by decide) (Rd.nil _ _) (Rd.nil _ _) (Rd.nil _ _) i64_0 (by simp)
theorem v37_1 : (if costY (c37 9) 0 = 0 then costS (c37 9) (0 : Int).toNat else 0) = 35 := by kernel_rfl
theorem v37_2 : (if oyY (c37 9) = 0 then switchS (c37 9) else 0) = 28 := by kernel_rfl
theorem v37_3 : (if budgetY (c37 9) 0 = 0 then budgetS (c37 9) (0 : Int).toNat else 0) = 31 := by kernel_rfl
theorem v37_4 : (if costY (c37 9) 0 = 0 then deadS (c37 9) (0 : Int).toNat else 0) = 24 := by kernel_rfl
theorem y37_1 : costY (c37 9) 0 = 0 := by kernel_rfl
theorem y37_2 : oyY (c37 9) = 0 := by kernel_rfl
theorem y37_3 : budgetY (c37 9) 0 = 0 := by kernel_rfl
theorem y37_5 : costY (c37 9) 1 = 1 := by kernel_rfl
theorem y37_6 : oyY ⟨0, 0, 0, [], [], []⟩ = 2 := by kernel_rfl
theorem y37_7 : budgetY (c37 48) 0 = 11 := by kernel_rfl
set_option maxHeartbeats 4000000 in
set_option maxRecDepth 100000 in
theorem lives37 (w : World) : Calls Try.prog 14 #[] w fun e w' => e = .returned (.bool true) ∧ Below w.heap.size w w' := by
  have f0 := Lib.hid (fun w => small37 w)
  have c1 := Lib.hid (fun s w (h : CS37 9 s w) => cost_37 h 0)
  have c2 := Lib.hid (fun s w (h : CS37 9 s w) => switch_37 h)
  have c3 := Lib.hid (fun s w (h : CS37 9 s w) => budget_37 h 0)
  have c4 := Lib.hid (fun s w (h : CS37 9 s w) => dead_37 h 0)
  have c5 := Lib.hid (fun s w (h : CS37 9 s w) => cost_37 h 1)
  have c6 := Lib.hid (fun w => switch_0 w)
  have c7 := Lib.hid (fun s w (h : CS37 48 s w) => budget_37 h 0)
  rw [v37_1, y37_1] at c1
  rw [v37_2, y37_2] at c2
  rw [v37_3, y37_3] at c3
  rw [v37_4, y37_1] at c4
  rw [y37_5] at c5
  rw [y37_6] at c6
  rw [y37_7] at c7
  rw [if_neg (by decide)] at c5 c6 c7
  unfold cv37 cfv RetN at *
  go_enter Try.func14, Try.ntmps14
  go_wp2_with fail
  refine (f0.out _).mono ?_
  rintro e w0 ⟨rfl, hCS, hb0⟩
  have H0 := Lib.hid hCS; have B0 := Lib.hid hb0
  clear hCS hb0
  go_upto_region 2 with fail
  refine name_world fun W hW => ?_
  have HC : Hid (W.heap[w0.heap.size]? = some (.cells #[.int .i64 4, .int .i64 100, .int .i64 2, .slice (some ⟨w.heap.size + 1, 0, none⟩) 1 1, .slice (some ⟨w.heap.size + 1 + 1, 0, none⟩) 1 1, .slice (some ⟨w.heap.size + 1 + 1 + 1, 0, none⟩) 1 1] 29 (0, 0))) := Lib.hid (by rw [hW]; exact heap_alloc_new _ _)
  have HS : Hid (CS37 9 w.heap.size W) := Lib.hid (by rw [hW]; exact H0.out.alloc _)
  have HB : Hid (Below w.heap.size w W) := Lib.hid (by rw [hW]; exact B0.out.alloc B0.out.size _)
  have hR := fun w' (h : Hid (Below W.heap.size W w')) => (box_rules (box_keep HC.out h.out)).1
  have mS := Lib.hid (fun w' (h : Hid (Below W.heap.size W w')) => HS.out.below h.out)
  have hS0 := S_refl' W
  have lS := box_lt H0.out.t
  have q0 := hR _ hS0
  clear hW B0 H0
  generalize hbc : w0.heap.size = bc at *
  go_wp2_with fail
  refine (c1.out _ _ (mS.out _ hS0)).mono ?_
  rintro e w1 ⟨rfl, hb1⟩
  have hS1 := S_call' hS0 hb1
  have q1 := hR _ hS1
  clear hb1 q0
  go_wp2_with fail
  refine (c2.out _ _ (mS.out _ hS1)).mono ?_
  rintro e w2 ⟨rfl, hb1⟩
  have hS2 := S_call' hS1 hb1
  have q2 := hR _ hS2
  clear hb1 q1
  go_wp2_with fail
  refine (c3.out _ _ (mS.out _ hS2)).mono ?_
  rintro e w3 ⟨rfl, hb1⟩
  have hS3 := S_call' hS2 hb1
  have q3 := hR _ hS3
  clear hb1 q2
  go_wp2_with fail
  refine (c4.out _ _ (mS.out _ hS3)).mono ?_
  rintro e w4 ⟨rfl, hb1⟩
  have hS4 := S_call' hS3 hb1
  have q4 := hR _ hS4
  clear hb1 q3
  go_wp2_with fail
  refine (c5.out _ _ (mS.out _ hS4)).mono ?_
  rintro e w5 ⟨rfl, hb1⟩
  have hS5 := S_call' hS4 hb1
  have q5 := hR _ hS5
  clear hb1 q4
  go_wp2_with fail
  refine (c6.out _).mono ?_
  rintro e w6 ⟨rfl, hb1⟩
  have hS6 := S_call' hS5 hb1
  have q6 := hR _ hS6
  clear hb1 q5
  have HT6 := Lib.hid (mS.out _ hS6)
  obtain ⟨tx, ty⟩ := box_rules HT6.out.t
  have tx5 : w6.cell? ⟨w.heap.size + 1, 5, none⟩ = some (.int .i64 9) := tx 5
  have ty5 : w6.frozen? ⟨w.heap.size + 1, 5, none⟩ = false := ty 5
  go_upto_region 9 with fail
  refine name_world fun U hU => ?_
  have HU : Hid (CS37 48 w.heap.size U) := Lib.hid (by
    rw [hU]
    exact ⟨box_set (i := 5) HT6.out.t _, box_far HT6.out.l (p := ⟨w.heap.size + 1, 5, none⟩) (by show _ ≠ w.heap.size + 1; omega) _, box_far HT6.out.h (p := ⟨w.heap.size + 1, 5, none⟩) (by show _ ≠ w.heap.size + 1; omega) _⟩)
  have HCU : Hid (U.heap[bc]? = some (.cells #[.int .i64 4, .int .i64 100, .int .i64 2, .slice (some ⟨w.heap.size + 1, 0, none⟩) 1 1, .slice (some ⟨w.heap.size + 1 + 1, 0, none⟩) 1 1, .slice (some ⟨w.heap.size + 1 + 1 + 1, 0, none⟩) 1 1] 29 (0, 0))) := Lib.hid (by rw [hU]; exact box_far (box_keep HC.out hS6.out) (p := ⟨w.heap.size + 1, 5, none⟩) (by show bc ≠ w.heap.size + 1; omega) _)
  have HBU : Hid (Below w.heap.size w U) := Lib.hid (by rw [hU]; exact (HB.out.trans (hS6.out.mono HB.out.size)).setCell (p := ⟨w.heap.size + 1, 5, none⟩) (by show _ ≤ w.heap.size + 1; omega) _)
  clear hU tx ty tx5 ty5 q6 HT6
  obtain ⟨ux, uy⟩ := box_rules HCU.out
  go_wp2_with fail
  refine (c7.out _ U HU.out).mono ?_
  rintro e w7 ⟨rfl, hb1⟩
  have HB7 := Lib.hid (HBU.out.trans (hb1.mono HBU.out.size))
  clear hb1 ux uy
  go_wp2
  go_ret
  exact ⟨rfl, HB7.out⟩
end Go.Proofs.Ytlnjeelbfokdpaa
/- vergelaw37: the walk of SenseEdge. Conditions: lists that read. -/
namespace Go.Proofs.Ytlnjeelbfokdpaa
open Go.RowKit Go.Shelf

theorem sY_zero {Y : Int} {len : Nat} {i : Int} (h : sY Y len i = 0) : Y = 0 ∧ 0 ≤ i ∧ i.toNat < len := by
  unfold sY at h
  split at h
  · exact absurd h (by assumption)
  · split at h
    · cases h
    · rename_i h1 h2
      exact ⟨by simpa using h1, by omega, by omega⟩
section
variable (mn mx sw : Int) (ts : List Tk) (ls : List Ln) (hs : List Th) (A : Option Addr) (ca : Nat) (B : Option Addr) (cb : Nat) (D : Option Addr) (cd : Nat) (i : Int) (w : World)
    (hlt0 : ts.length ≤ 1048576) (hll : ls.length ≤ 1048576) (hlh : hs.length ≤ 1048576)
    (ht : Rd w A (ts.flatMap tkc)) (hl : Rd w B (ls.flatMap lnc)) (hh : Rd w D (hs.flatMap thc)) (hmx : I64 mx) (ht64 : ∀ p ∈ ts.map (·.prio) ++ hs.map (·.prio), I64 p)
include hlt0 hll hlh ht hl hh hmx ht64
theorem edgeC : Calls Try.prog 18 #[cfv mn mx sw A ts.length ca B ls.length cb D hs.length cd, .int .i64 1, .int .i64 i, .int .i64 (if costY ⟨mn, mx, sw, ts, ls, hs⟩ i = 0 then costS ⟨mn, mx, sw, ts, ls, hs⟩ i.toNat else 0), .int .i64 (costY ⟨mn, mx, sw, ts, ls, hs⟩ i)] w fun e w' => e = .returned (.bool true) ∧ Below w.heap.size w w' := by
  by_cases h : costY ⟨mn, mx, sw, ts, ls, hs⟩ i = 0
  · obtain ⟨h1, h2, h3⟩ := sY_zero h
    obtain ⟨k, rfl⟩ := Int.eq_ofNat_of_zero_le h2
    rw [Int.toNat_natCast] at h3
    obtain ⟨g1, g2, g3⟩ := cost_edge h1 h3
    rw [if_pos h, h, Int.toNat_natCast]
    exact edge1 mn mx sw ts ls hs A ca B cb D cd k h3 _ g1 g2 g3 w hlt0 hll hlh ht hl hh hmx ht64
  · rw [if_neg h]
    exact edge_no _ mn mx sw A ts.length ca B ls.length cb D hs.length cd rfl 1 i _ h w
theorem edgeS : Calls Try.prog 18 #[cfv mn mx sw A ts.length ca B ls.length cb D hs.length cd, .int .i64 2, .int .i64 0, .int .i64 (if oyY ⟨mn, mx, sw, ts, ls, hs⟩ = 0 then switchS ⟨mn, mx, sw, ts, ls, hs⟩ else 0), .int .i64 (oyY ⟨mn, mx, sw, ts, ls, hs⟩)] w fun e w' => e = .returned (.bool true) ∧ Below w.heap.size w w' := by
  by_cases h : oyY ⟨mn, mx, sw, ts, ls, hs⟩ = 0
  · obtain ⟨g1, g2, g3⟩ := switch_edge h
    rw [if_pos h, h]
    exact edge2 mn mx sw ts ls hs A ca B cb D cd 0 rfl _ g1 g2 g3 w hlt0 hll hlh ht hl hh hmx ht64
  · rw [if_neg h]
    exact edge_no _ mn mx sw A ts.length ca B ls.length cb D hs.length cd rfl 2 0 _ h w
theorem edgeB : Calls Try.prog 18 #[cfv mn mx sw A ts.length ca B ls.length cb D hs.length cd, .int .i64 3, .int .i64 i, .int .i64 (if budgetY ⟨mn, mx, sw, ts, ls, hs⟩ i = 0 then budgetS ⟨mn, mx, sw, ts, ls, hs⟩ i.toNat else 0), .int .i64 (budgetY ⟨mn, mx, sw, ts, ls, hs⟩ i)] w fun e w' => e = .returned (.bool true) ∧ Below w.heap.size w w' := by
  by_cases h : budgetY ⟨mn, mx, sw, ts, ls, hs⟩ i = 0
  · obtain ⟨h1, h2, h3⟩ := sY_zero h
    obtain ⟨k, rfl⟩ := Int.eq_ofNat_of_zero_le h2
    rw [Int.toNat_natCast] at h3
    obtain ⟨g1, g2, g3⟩ := budget_edge h1 h3
    rw [if_pos h, h, Int.toNat_natCast]
    exact edge3 mn mx sw ts ls hs A ca B cb D cd k h3 _ g1 g2 g3 w hlt0 hll hlh ht hl hh hmx ht64
  · rw [if_neg h]
    exact edge_no _ mn mx sw A ts.length ca B ls.length cb D hs.length cd rfl 3 i _ h w
end
set_option maxHeartbeats 4000000 in
set_option maxRecDepth 100000 in
theorem edge37_cfg (mn mx sw : Int) (ts : List Tk) (ls : List Ln) (hs : List Th) (A : Option Addr) (ca : Nat) (B : Option Addr) (cb : Nat) (D : Option Addr) (cd : Nat) (n : Int) (w : World)
    (hlt0 : ts.length ≤ 1048576) (hll : ls.length ≤ 1048576) (hlh : hs.length ≤ 1048576)
    (ht : Rd w A (ts.flatMap tkc)) (hl : Rd w B (ls.flatMap lnc)) (hh : Rd w D (hs.flatMap thc)) (hmx : I64 mx) (ht64 : ∀ p ∈ ts.map (·.prio) ++ hs.map (·.prio), I64 p) :
    Calls Try.prog 5 #[cfv mn mx sw A ts.length ca B ls.length cb D hs.length cd, .int .i64 n] w fun e w' => e = .returned (.bool true) ∧ Below w.heap.size w w' := by
  have f0 := Lib.hid (fun w => lives37 w)
  have c1 := Lib.hid (fun w ht hl hh => scost_any mn mx sw ts ls hs A ca B cb D cd n w hlt0 hll hlh ht hl hh hmx ht64)
  have c2 := Lib.hid (fun w ht hl hh => sswitch_any mn mx sw ts ls hs A ca B cb D cd w hlt0 hll hlh ht hl hh hmx ht64)
  have c3 := Lib.hid (fun w ht hl hh => sbudget_any mn mx sw ts ls hs A ca B cb D cd n w hlt0 hll hlh ht hl hh hmx ht64)
  have e1 := Lib.hid (fun w ht hl hh => edgeC mn mx sw ts ls hs A ca B cb D cd n w hlt0 hll hlh ht hl hh hmx ht64)
  have e2 := Lib.hid (fun w ht hl hh => edgeS mn mx sw ts ls hs A ca B cb D cd w hlt0 hll hlh ht hl hh hmx ht64)
  have e3 := Lib.hid (fun w ht hl hh => edgeB mn mx sw ts ls hs A ca B cb D cd n w hlt0 hll hlh ht hl hh hmx ht64)
  have Ht := Lib.hid ht; have Hl := Lib.hid hl; have Hh := Lib.hid hh
  clear ht hl hh hmx ht64
  unfold RetN cfv at *
  generalize (if costY ⟨mn, mx, sw, ts, ls, hs⟩ n = 0 then costS ⟨mn, mx, sw, ts, ls, hs⟩ n.toNat else 0) = x1 at *
  generalize (if oyY ⟨mn, mx, sw, ts, ls, hs⟩ = 0 then switchS ⟨mn, mx, sw, ts, ls, hs⟩ else 0) = x2 at *
  generalize (if budgetY ⟨mn, mx, sw, ts, ls, hs⟩ n = 0 then budgetS ⟨mn, mx, sw, ts, ls, hs⟩ n.toNat else 0) = x3 at *
  generalize costY ⟨mn, mx, sw, ts, ls, hs⟩ n = y1 at *
  generalize oyY ⟨mn, mx, sw, ts, ls, hs⟩ = y2 at *
  generalize budgetY ⟨mn, mx, sw, ts, ls, hs⟩ n = y3 at *
  go_enter Try.func5, Try.ntmps5
  go_upto_region 1 with fail
  refine name_world fun W hW => ?_
  have HC : Hid (W.heap[w.heap.size]? = some (.cells #[.int .i64 mn, .int .i64 mx, .int .i64 sw, .slice A ts.length ca, .slice B ls.length cb, .slice D hs.length cd] 29 (0, 0))) := Lib.hid (by rw [hW]; exact heap_alloc_new w _)
  have HB : Hid (Below w.heap.size w W) := Lib.hid (by rw [hW]; exact (Below.refl _ _).alloc (Nat.le_refl _) _)
  have hR := fun w' (h : Hid (Below W.heap.size W w')) => (box_rules (box_keep HC.out h.out)).1
  have m1 := Lib.hid (fun w' (h : Hid (Below W.heap.size W w')) => (Ht.out.below HB.out).below h.out)
  have m2 := Lib.hid (fun w' (h : Hid (Below W.heap.size W w')) => (Hl.out.below HB.out).below h.out)
  have m3 := Lib.hid (fun w' (h : Hid (Below W.heap.size W w')) => (Hh.out.below HB.out).below h.out)
  have hS0 := S_refl' W
  have q0 := hR _ hS0
  clear hW Ht Hl Hh
  go_wp2_with fail
  refine (f0.out _).mono ?_
  rintro e w1 ⟨rfl, hb1⟩
  have hS1 := S_call' hS0 hb1
  have q1 := hR _ hS1
  clear hb1 q0
  go_wp2_with fail
  refine (c1.out _ (m1.out _ hS1) (m2.out _ hS1) (m3.out _ hS1)).mono ?_
  rintro e w2 ⟨rfl, hb1⟩
  have hS2 := S_call' hS1 hb1
  have q2 := hR _ hS2
  clear hb1 q1
  go_wp2_with fail
  refine (c2.out _ (m1.out _ hS2) (m2.out _ hS2) (m3.out _ hS2)).mono ?_
  rintro e w3 ⟨rfl, hb1⟩
  have hS3 := S_call' hS2 hb1
  have q3 := hR _ hS3
  clear hb1 q2
  go_wp2_with fail
  refine (c3.out _ (m1.out _ hS3) (m2.out _ hS3) (m3.out _ hS3)).mono ?_
  rintro e w4 ⟨rfl, hb1⟩
  have hS4 := S_call' hS3 hb1
  have q4 := hR _ hS4
  clear hb1 q3
  go_wp2_with fail
  refine (e1.out _ (m1.out _ hS4) (m2.out _ hS4) (m3.out _ hS4)).mono ?_
  rintro e w5 ⟨rfl, hb1⟩
  have hS5 := S_call' hS4 hb1
  have q5 := hR _ hS5
  clear hb1 q4
  go_wp2_with fail
  refine (e2.out _ (m1.out _ hS5) (m2.out _ hS5) (m3.out _ hS5)).mono ?_
  rintro e w6 ⟨rfl, hb1⟩
  have hS6 := S_call' hS5 hb1
  have q6 := hR _ hS6
  clear hb1 q5
  go_wp2_with fail
  refine (e3.out _ (m1.out _ hS6) (m2.out _ hS6) (m3.out _ hS6)).mono ?_
  rintro e w7 ⟨rfl, hb1⟩
  have hS7 := S_call' hS6 hb1
  have q7 := hR _ hS7
  clear hb1 q6
  go_wp2
  go_ret
  exact ⟨rfl, HB.out.trans (hS7.out.mono HB.out.size)⟩
end Go.Proofs.Ytlnjeelbfokdpaa

/- Packages hyper and vergeref35: the walks of Period. Conditions: lists that read; the de Bruijn table as its initialiser lays it. -/
import Derived.Test.YtpdanmdpaanafaaDoorHypC
import Derived.Test.YtpdanmdpaanafaaDoorVetH
import Derived.Test.YtpdanmdpaanafaaDoorRefVF
namespace Go.Proofs.YtpdanmdpaanafaaDoor
open Go.RowKit Go.Shelf

/-- A configuration that was handed in: its data, and where its lists lie. -/
structure Cg where
  c : Cf
  A : Option Addr
  ca : Nat
  B : Option Addr
  cb : Nat
  D : Option Addr
  cd : Nat
def Cg.v (g : Cg) : Value := cfv g.c.mn g.c.mx g.c.sw g.A g.c.ts.length g.ca g.B g.c.ls.length g.cb g.D g.c.hs.length g.cd
/-- What is known of it: its lists read; its numbers are of 64 bits. -/
structure CfIn (w : World) (g : Cg) : Prop where
  nt : g.c.ts.length ≤ 1048576
  nl : g.c.ls.length ≤ 1048576
  nh : g.c.hs.length ≤ 1048576
  ht : Rd w g.A (g.c.ts.flatMap tkc)
  hl : Rd w g.B (g.c.ls.flatMap lnc)
  hh : Rd w g.D (g.c.hs.flatMap thc)
  mx : I64 g.c.mx
  pr : ∀ p ∈ g.c.ts.map (·.prio) ++ g.c.hs.map (·.prio), I64 p
theorem CfIn.below {w w' : World} {g : Cg} (h : CfIn w g) (hb : Below w.heap.size w w') : CfIn w' g := ⟨h.nt, h.nl, h.nh, h.ht.below hb, h.hl.below hb, h.hh.below hb, h.mx, h.pr⟩
theorem CfIn.alloc {w : World} {g : Cg} (h : CfIn w g) (o : Obj) : CfIn (w.alloc o) g := h.below ((Below.refl _ _).alloc (Nat.le_refl _) _)
theorem check_g {g : Cg} (w : World) (h : CfIn w g) : Calls Tryd.prog 18 #[g.v] w fun e w' => e = .returned (.int .i64 g.c.why) ∧ Below w.heap.size w w' :=
  check_cfg g.c.mn g.c.mx g.c.sw g.c.ts g.c.ls g.c.hs g.A g.ca g.B g.cb g.D g.cd w h.nt h.nl h.nh h.ht h.hl h.hh h.mx h.pr
theorem check27_g {g : Cg} (w : World) (h : CfIn w g) : Calls Tryd.prog 23 #[g.v] w fun e w' => e = .returned (.int .i64 g.c.why) ∧ Below w.heap.size w w' :=
  check27_cfg g.c.mn g.c.mx g.c.sw g.c.ts g.c.ls g.c.hs g.A g.ca g.B g.cb g.D g.cd w h.nt h.nl h.nh h.ht h.hl h.hh h.mx

/-- The periods of the periodic tasks. -/
def pers (ts : List Tk) : List Int := (ts.filter fun t => decide (t.kind = 1)).map (·.period)
theorem pers_snoc (l : List Tk) (t : Tk) : pers (l ++ [t]) = pers l ++ (if t.kind = 1 then [t.period] else []) := by
  unfold pers
  rw [List.filter_append, List.map_append]
  by_cases h : t.kind = 1 <;> simp [h]
theorem pers_len (l : List Tk) : (pers l).length ≤ l.length := by
  unfold pers
  rw [List.length_map]
  exact List.length_filter_le _ _
/-- The period of all, or none. -/
def periodOf (c : Cf) : Int × Int := if c.why ≠ 0 then (0, c.why) else if pers c.ts = [] then (0, 3) else lcmOf (pers c.ts)
def RetB (x : Int × Int) (w : World) (e : Ending) (w' : World) : Prop := e = .returned (.tuple #[.int .i64 x.1, .int .i64 x.2]) ∧ Below w.heap.size w w'
theorem RetB.of {x : Int × Int} {a b : Int} {w w' : World} (h : x = (a, b)) (hb : Below w.heap.size w w') : RetB x w (.returned (.tuple #[.int .i64 a, .int .i64 b])) w' := ⟨by rw [h], hb⟩
theorem sl_i64 : SlT Tryd.prog 22 2 (.int .i64 0) 8 := SlT.mk' Tryd.underlying22 (by kernel_rfl) rfl

set_option maxHeartbeats 2000000 in
theorem period_cfg (mn mx sw : Int) (ts : List Tk) (ls : List Ln) (hs : List Th) (A : Option Addr) (ca : Nat) (B : Option Addr) (cb : Nat) (D : Option Addr) (cd : Nat) (w : World)
    (hlt0 : ts.length ≤ 1048576) (hll : ls.length ≤ 1048576) (hlh : hs.length ≤ 1048576)
    (ht : Rd w A (ts.flatMap tkc)) (hl : Rd w B (ls.flatMap lnc)) (hh : Rd w D (hs.flatMap thc)) (hmx : I64 mx) (ht64 : ∀ p ∈ ts.map (·.prio) ++ hs.map (·.prio), I64 p) (hT : Tab w) :
    Calls Tryd.prog 12 #[cfv mn mx sw A ts.length ca B ls.length cb D hs.length cd] w (RetB (periodOf ⟨mn, mx, sw, ts, ls, hs⟩) w) := by
  have HT := Lib.hid hT
  have Ht := Lib.hid ht; have Hl := Lib.hid hl; have Hh := Lib.hid hh
  have f1 := Lib.hid (fun w ht hl hh => check_cfg mn mx sw ts ls hs A ca B cb D cd w hlt0 hll hlh ht hl hh hmx ht64)
  have HP : Hid (periodOf ⟨mn, mx, sw, ts, ls, hs⟩ = if Cf.why ⟨mn, mx, sw, ts, ls, hs⟩ ≠ 0 then (0, Cf.why ⟨mn, mx, sw, ts, ls, hs⟩) else if pers ts = [] then (0, 3) else lcmOf (pers ts)) := Lib.hid rfl
  clear ht hl hh hmx ht64 hT
  unfold cfv at *
  generalize hwy : Cf.why ⟨mn, mx, sw, ts, ls, hs⟩ = y at *
  generalize periodOf ⟨mn, mx, sw, ts, ls, hs⟩ = R at *
  go_enter Tryd.func12, Tryd.ntmps12
  go_wp2_with fail
  refine (f1.out _ (Ht.out.alloc _) (Hl.out.alloc _) (Hh.out.alloc _)).mono ?_
  rintro e w2 ⟨rfl, hb⟩
  have HX := Lib.hid (box_keep (heap_alloc_new w _) hb)
  have HB := Lib.hid (((Below.refl w.heap.size w).alloc (Nat.le_refl _) _).trans (hb.mono (by simp)))
  clear hb
  obtain ⟨hx, hy⟩ := box_rules HX.out
  by_cases hy0 : y = 0
  · subst hy0
    have HP2 : Hid (R = if pers ts = [] then (0, 3) else lcmOf (pers ts)) := Lib.hid (by rw [HP.out, if_neg (by simp)])
    clear HP hwy
    go_wp2
    go_loopw [5, 16] (fun s i wr => ∃ (k : Nat) (A1 : Option Addr) (c1 n1 : Nat), k ≤ ts.length ∧ i = .int .i64 k ∧ s = .slice A1 n1 c1 ∧ Hid (n1 = (pers (ts.take k)).length) ∧
      wr.ownsRow w.heap.size 2 1 (.slice A1 n1 c1) n1 ((pers (ts.take k)).map (.int .i64)) ∧ Below w.heap.size w wr) (fun _ i _ => ts.length - (intOf i).toNat)
    case atStart => exact ⟨0, none, 0, 0, by omega, rfl, rfl, rfl, own_nilK _ _ _ _, HB.out⟩
    case round =>
      obtain ⟨k, A1, c1, n1, hk, rfl, rfl, hn, ho, hB⟩ := hrel
      have HO := Lib.hid ho
      have HBw := Lib.hid hB
      have hn64 : n1 ≤ 1048576 := by
        rw [hn.out]
        have h1 := pers_len (ts.take k)
        rw [List.length_take] at h1
        omega
      have s0 := hB.size
      clear ho hB
      by_cases hlt : k < ts.length
      · obtain ⟨a, x, rfl, hx, ⟨g0, g1, g2, g3⟩, g4, g5, g6, g7, g8, g9⟩ := (Ht.out.below HBw.out).tkAt hlt
        have HS : Hid (pers (ts.take (k + 1)) = pers (ts.take k) ++ (if x.kind = 1 then [x.period] else [])) := Lib.hid (by
          rw [List.take_succ_eq_append_getElem hlt, pers_snoc]
          have e : ts[k] = x := by rw [← hx]; simp [List.getD, hlt]
          rw [e])
        clear hx
        obtain ⟨x0, x1, x2, x3, x4, x5, x6, x7, x8, x9⟩ := x
        dsimp only at g0 g1 g2 g3 g4 g5 g6 g7 g8 g9 HS
        by_cases hk1 : x0 = 1
        · subst hk1
          have HS' : Hid (pers (ts.take (k + 1)) = pers (ts.take k) ++ [x2]) := Lib.hid (by rw [HS.out]; rfl)
          go_wp2_with (at_builtin; go_loud (refine wp_app1g rfl _ _ sl_i64 (by decide) rfl (own_allocK (own_allocK HO.out _) _) rfl (by omega) (by simp; omega) _ (.int .i64 x2) rfl (by go_simp) rfl ?_); intro A4 c4 w4 ho4 hg4 _; have HG4 := Lib.hid (grown_step (own_allocK HO.out _) hg4); have HO4 := Lib.hid ho4; clear ho4 hg4)
          refine ⟨⟨k + 1, A4, c4, n1 + 1, by omega, by go_num, rfl, ?_, ?_, HG4.out.below (HBw.out.alloc s0 _) (Nat.le_refl _) (by simp; omega)⟩, by simp [intOf]; omega⟩
          · show n1 + 1 = _
            rw [HS'.out, List.length_append, hn.out]; rfl
          · rw [HS'.out, List.map_append]; exact HO4.out
        · have hk2 : (x0 == 1) = false := by simpa using hk1
          have HS' : Hid (pers (ts.take (k + 1)) = pers (ts.take k)) := Lib.hid (by rw [HS.out, if_neg hk1, List.append_nil])
          go_wp2
          refine ⟨⟨k + 1, A1, c1, n1, by omega, by go_num, rfl, ?_, ?_, HBw.out.alloc s0 _⟩, by simp [intOf]; omega⟩
          · show n1 = _
            rw [HS'.out]; exact hn.out
          · rw [HS'.out]; exact own_allocK HO.out _
      · obtain rfl : k = ts.length := by omega
        rw [List.take_length] at hn HO
        by_cases hz : n1 = 0
        · have hR : R = (0, 3) := by rw [HP2.out, if_pos (List.eq_nil_of_length_eq_zero (by rw [← hn.out, hz]))]
          subst hz
          have HR := Lib.hid hR
          clear hR
          go_wp2
          go_ret2
          exact RetB.of HR.out HBw.out
        · have hR : R = lcmOf (pers ts) := by rw [HP2.out, if_neg (fun h => hz (by rw [hn.out, h]; rfl))]
          have hz' : ((n1 : Int) == 0) = false := by rw [beq_eq_false_iff_ne]; omega
          have HR := Lib.hid hR
          clear hR hz
          have f2 : Hid (∀ w, Rd w A1 ((pers ts).map (.int .i64)) → Tab w → Calls Tryd.prog 10 #[.slice A1 n1 c1] w (RetT (lcmOf (pers ts)) w)) := Lib.hid (fun w hr hT => by rw [hn.out]; exact lcm_any _ (by have := pers_len ts; omega) A1 c1 w hr hT)
          generalize lcmOf (pers ts) = L at *
          obtain ⟨L1, L2⟩ := L
          unfold RetT at f2
          go_wp2_with fail
          refine (f2.out _ (own_rdK HO.out) (HT.out.below HBw.out HT.out.lt)).mono ?_
          rintro e w' ⟨rfl, rfl⟩
          go_wp2
          go_ret2
          exact RetB.of HR.out HBw.out
  · have hy1 : (y != 0) = true := by simpa using hy0
    have HR := Lib.hid (show R = (0, y) by rw [HP.out, if_pos hy0])
    go_wp2
    go_ret2
    exact RetB.of HR.out HB.out
set_option maxHeartbeats 2000000 in
theorem period35_cfg (mn mx sw : Int) (ts : List Tk) (ls : List Ln) (hs : List Th) (A : Option Addr) (ca : Nat) (B : Option Addr) (cb : Nat) (D : Option Addr) (cd : Nat) (w : World)
    (hlt0 : ts.length ≤ 1048576) (hll : ls.length ≤ 1048576) (hlh : hs.length ≤ 1048576)
    (ht : Rd w A (ts.flatMap tkc)) (hl : Rd w B (ls.flatMap lnc)) (hh : Rd w D (hs.flatMap thc)) (hmx : I64 mx) (ht64 : ∀ p ∈ ts.map (·.prio) ++ hs.map (·.prio), I64 p) (hT : Tab w) :
    Calls Tryd.prog 13 #[cfv mn mx sw A ts.length ca B ls.length cb D hs.length cd] w (RetB (periodOf ⟨mn, mx, sw, ts, ls, hs⟩) w) := by
  have HT := Lib.hid hT
  have Ht := Lib.hid ht; have Hl := Lib.hid hl; have Hh := Lib.hid hh
  have f1 := Lib.hid (fun w ht hl hh => check27_cfg mn mx sw ts ls hs A ca B cb D cd w hlt0 hll hlh ht hl hh hmx)
  have HP : Hid (periodOf ⟨mn, mx, sw, ts, ls, hs⟩ = if Cf.why ⟨mn, mx, sw, ts, ls, hs⟩ ≠ 0 then (0, Cf.why ⟨mn, mx, sw, ts, ls, hs⟩) else if pers ts = [] then (0, 3) else lcmOf (pers ts)) := Lib.hid rfl
  clear ht hl hh hmx ht64 hT
  unfold cfv at *
  generalize hwy : Cf.why ⟨mn, mx, sw, ts, ls, hs⟩ = y at *
  generalize periodOf ⟨mn, mx, sw, ts, ls, hs⟩ = R at *
  go_enter Tryd.func13, Tryd.ntmps13
  go_wp2_with fail
  refine (f1.out _ (Ht.out.alloc _) (Hl.out.alloc _) (Hh.out.alloc _)).mono ?_
  rintro e w2 ⟨rfl, hb⟩
  have HX := Lib.hid (box_keep (heap_alloc_new w _) hb)
  have HB := Lib.hid (((Below.refl w.heap.size w).alloc (Nat.le_refl _) _).trans (hb.mono (by simp)))
  clear hb
  obtain ⟨hx, hy⟩ := box_rules HX.out
  by_cases hy0 : y = 0
  · subst hy0
    have HP2 : Hid (R = if pers ts = [] then (0, 3) else lcmOf (pers ts)) := Lib.hid (by rw [HP.out, if_neg (by simp)])
    clear HP hwy
    go_wp2
    go_loopw [5, 16] (fun s i wr => ∃ (k : Nat) (A1 : Option Addr) (c1 n1 : Nat), k ≤ ts.length ∧ i = .int .i64 k ∧ s = .slice A1 n1 c1 ∧ Hid (n1 = (pers (ts.take k)).length) ∧
      wr.ownsRow w.heap.size 2 1 (.slice A1 n1 c1) n1 ((pers (ts.take k)).map (.int .i64)) ∧ Below w.heap.size w wr) (fun _ i _ => ts.length - (intOf i).toNat)
    case atStart => exact ⟨0, none, 0, 0, by omega, rfl, rfl, rfl, own_nilK _ _ _ _, HB.out⟩
    case round =>
      obtain ⟨k, A1, c1, n1, hk, rfl, rfl, hn, ho, hB⟩ := hrel
      have HO := Lib.hid ho
      have HBw := Lib.hid hB
      have hn64 : n1 ≤ 1048576 := by
        rw [hn.out]
        have h1 := pers_len (ts.take k)
        rw [List.length_take] at h1
        omega
      have s0 := hB.size
      clear ho hB
      by_cases hlt : k < ts.length
      · obtain ⟨a, x, rfl, hx, ⟨g0, g1, g2, g3⟩, g4, g5, g6, g7, g8, g9⟩ := (Ht.out.below HBw.out).tkAt hlt
        have HS : Hid (pers (ts.take (k + 1)) = pers (ts.take k) ++ (if x.kind = 1 then [x.period] else [])) := Lib.hid (by
          rw [List.take_succ_eq_append_getElem hlt, pers_snoc]
          have e : ts[k] = x := by rw [← hx]; simp [List.getD, hlt]
          rw [e])
        clear hx
        obtain ⟨x0, x1, x2, x3, x4, x5, x6, x7, x8, x9⟩ := x
        dsimp only at g0 g1 g2 g3 g4 g5 g6 g7 g8 g9 HS
        by_cases hk1 : x0 = 1
        · subst hk1
          have HS' : Hid (pers (ts.take (k + 1)) = pers (ts.take k) ++ [x2]) := Lib.hid (by rw [HS.out]; rfl)
          go_wp2_with (at_builtin; go_loud (refine wp_app1g rfl _ _ sl_i64 (by decide) rfl (own_allocK (own_allocK HO.out _) _) rfl (by omega) (by simp; omega) _ (.int .i64 x2) rfl (by go_simp) rfl ?_); intro A4 c4 w4 ho4 hg4 _; have HG4 := Lib.hid (grown_step (own_allocK HO.out _) hg4); have HO4 := Lib.hid ho4; clear ho4 hg4)
          refine ⟨⟨k + 1, A4, c4, n1 + 1, by omega, by go_num, rfl, ?_, ?_, HG4.out.below (HBw.out.alloc s0 _) (Nat.le_refl _) (by simp; omega)⟩, by simp [intOf]; omega⟩
          · show n1 + 1 = _
            rw [HS'.out, List.length_append, hn.out]; rfl
          · rw [HS'.out, List.map_append]; exact HO4.out
        · have hk2 : (x0 == 1) = false := by simpa using hk1
          have HS' : Hid (pers (ts.take (k + 1)) = pers (ts.take k)) := Lib.hid (by rw [HS.out, if_neg hk1, List.append_nil])
          go_wp2
          refine ⟨⟨k + 1, A1, c1, n1, by omega, by go_num, rfl, ?_, ?_, HBw.out.alloc s0 _⟩, by simp [intOf]; omega⟩
          · show n1 = _
            rw [HS'.out]; exact hn.out
          · rw [HS'.out]; exact own_allocK HO.out _
      · obtain rfl : k = ts.length := by omega
        rw [List.take_length] at hn HO
        by_cases hz : n1 = 0
        · have hR : R = (0, 3) := by rw [HP2.out, if_pos (List.eq_nil_of_length_eq_zero (by rw [← hn.out, hz]))]
          subst hz
          have HR := Lib.hid hR
          clear hR
          go_wp2
          go_ret2
          exact RetB.of HR.out HBw.out
        · have hR : R = lcmOf (pers ts) := by rw [HP2.out, if_neg (fun h => hz (by rw [hn.out, h]; rfl))]
          have hz' : ((n1 : Int) == 0) = false := by rw [beq_eq_false_iff_ne]; omega
          have HR := Lib.hid hR
          clear hR hz
          have f2 : Hid (∀ w, Rd w A1 ((pers ts).map (.int .i64)) → Tab w → Calls Tryd.prog 11 #[.slice A1 n1 c1] w (RetT (lcmOf (pers ts)) w)) := Lib.hid (fun w hr hT => by rw [hn.out]; exact lcm35_any _ (by have := pers_len ts; omega) A1 c1 w hr)
          generalize lcmOf (pers ts) = L at *
          obtain ⟨L1, L2⟩ := L
          unfold RetT at f2
          go_wp2_with fail
          refine (f2.out _ (own_rdK HO.out) (HT.out.below HBw.out HT.out.lt)).mono ?_
          rintro e w' ⟨rfl, rfl⟩
          go_wp2
          go_ret2
          exact RetB.of HR.out HBw.out
  · have hy1 : (y != 0) = true := by simpa using hy0
    have HR := Lib.hid (show R = (0, y) by rw [HP.out, if_pos hy0])
    go_wp2
    go_ret2
    exact RetB.of HR.out HB.out
end Go.Proofs.YtpdanmdpaanafaaDoor

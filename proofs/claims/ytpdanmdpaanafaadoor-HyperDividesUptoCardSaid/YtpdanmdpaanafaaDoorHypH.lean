/- Packages hyper and vergeref35: the walks of Jobs. Conditions: lists that read. -/
import Derived.Test.YtpdanmdpaanafaaDoorHypG
namespace Go.Proofs.YtpdanmdpaanafaaDoor
open Go.RowKit Go.Shelf

set_option maxHeartbeats 2000000 in
theorem jobs_cfg (mn mx sw : Int) (ts : List Tk) (ls : List Ln) (hs : List Th) (A : Option Addr) (ca : Nat) (B : Option Addr) (cb : Nat) (D : Option Addr) (cd : Nat) (n k0 k : Int) (w : World)
    (hlt0 : ts.length ≤ 1048576) (hll : ls.length ≤ 1048576) (hlh : hs.length ≤ 1048576)
    (ht : Rd w A (ts.flatMap tkc)) (hl : Rd w B (ls.flatMap lnc)) (hh : Rd w D (hs.flatMap thc)) (hmx : I64 mx) (ht64 : ∀ p ∈ ts.map (·.prio) ++ hs.map (·.prio), I64 p) :
    Calls Tryd.prog 16 #[cfv mn mx sw A ts.length ca B ls.length cb D hs.length cd, .int .i64 n, .int .i64 k0, .int .i64 k] w (RetB (jobsOf ⟨mn, mx, sw, ts, ls, hs⟩ n k0 k) w) := by
  have Ht := Lib.hid ht; have Hl := Lib.hid hl; have Hh := Lib.hid hh
  have f1 : Hid (∀ w T tc, Rd w A (ts.flatMap tkc) → Rd w B (ls.flatMap lnc) → Rd w D (hs.flatMap thc) → Rd w T [.int .i64 k0, .int .i64 k] → Calls Tryd.prog 24 #[cfv mn mx sw A ts.length ca B ls.length cb D hs.length cd, .int .i64 n, .slice T 2 tc] w
      (RetO (openY (Cf.why ⟨mn, mx, sw, ts, ls, hs⟩) ts n [k0, k]) (ts.getD n.toNat tk0) w)) := Lib.hid (fun w T tc ht hl hh hr => open_cfg mn mx sw ts ls hs A ca B cb D cd n [k0, k] T tc w hlt0 hll hlh (by simp) ht hl hh hmx ht64 hr)
  have HI := Lib.hid (open_in (c := ⟨mn, mx, sw, ts, ls, hs⟩) (n := n) (times := [k0, k]))
  have HK := Lib.hid (open_zero (y := Cf.why ⟨mn, mx, sw, ts, ls, hs⟩) (ts := ts) (n := n) (times := [k0, k]))
  have HN : Hid (jobsOf ⟨mn, mx, sw, ts, ls, hs⟩ n k0 k = if openY (Cf.why ⟨mn, mx, sw, ts, ls, hs⟩) ts n [k0, k] ≠ 0 then (0, openY (Cf.why ⟨mn, mx, sw, ts, ls, hs⟩) ts n [k0, k])
    else (max (aheadOf (ts.getD n.toNat tk0).offset (ts.getD n.toNat tk0).period k - aheadOf (ts.getD n.toNat tk0).offset (ts.getD n.toNat tk0).period k0) 0, 0)) := Lib.hid rfl
  clear ht hl hh hmx ht64
  dsimp only at HI
  generalize jobsOf ⟨mn, mx, sw, ts, ls, hs⟩ n k0 k = R at *
  generalize openY (Cf.why ⟨mn, mx, sw, ts, ls, hs⟩) ts n [k0, k] = Y at *
  generalize ts.getD n.toNat tk0 = x at *
  unfold cfv RetO at *
  go_enter Tryd.func16, Tryd.ntmps16
  go_wp2_with fail
  refine (f1.out _ _ _ ((Ht.out.alloc _).alloc _) ((Hl.out.alloc _).alloc _) ((Hh.out.alloc _).alloc _) ?_).mono ?_
  · intro j u hu
    exact ⟨_, rfl, by rw [add_zero_lit, Nat.zero_add]; exact new_cell2 hu⟩
  rintro e w2 ⟨he, hb⟩
  have HB := Lib.hid ((((Below.refl w.heap.size w).alloc (Nat.le_refl _) _).alloc (by simp) _).trans (hb.mono (by simp; omega)))
  have s2 := HB.out.size
  clear hb f1
  by_cases hY : Y = 0
  · subst hY
    obtain ⟨⟨o1, o2⟩, p1, p2⟩ := HI.out rfl
    have hkk : (0 ≤ k0 ∧ k0 ≤ 4503599627370496) ∧ (0 ≤ k ∧ k ≤ 4503599627370496) := by
      have h := (HK.out rfl).2.2
      simp only [List.all_cons, List.all_nil, Bool.and_true, Bool.and_eq_true] at h
      exact ⟨tmOk_true.1 h.1, tmOk_true.1 h.2⟩
    have HN2 : Hid (R = (max (aheadOf x.offset x.period k - aheadOf x.offset x.period k0) 0, 0)) := Lib.hid (by rw [HN.out, if_neg (by simp)])
    rw [if_pos rfl] at he
    clear HN HI HK
    have c1 := Lib.hid (fun w => ahead_any x k w ⟨o1, o2⟩ ⟨p1, p2⟩ hkk.2)
    have c2 := Lib.hid (fun w => ahead_any x k0 w ⟨o1, o2⟩ ⟨p1, p2⟩ hkk.1)
    have I1 := ahead_in (off := x.offset) (per := x.period) (e := k) o1 p1 hkk.2.2
    have I2 := ahead_in (off := x.offset) (per := x.period) (e := k0) o1 p1 hkk.1.2
    unfold tkv at c1 c2
    generalize aheadOf x.offset x.period k = r1 at *
    generalize aheadOf x.offset x.period k0 = r2 at *
    obtain ⟨x0, x1, per, off, x4, x5, x6, x7, x8, x9⟩ := x
    unfold tkv at he
    dsimp only at he o1 o2 p1 p2 c1 c2
    subst he
    have HR := HN2
    clear HN2
    have WW := Lib.hid (show IntKind.i64.wrap (r1 - r2) = r1 - r2 by rw [IntKind.wrap_i64]; omega)
    go_wp2_with fail
    refine name_world fun V hV => ?_
    have HV : Hid (V.heap[w2.heap.size]? = some (.cells #[.int .u8 x0, .int .i64 x1, .int .i64 per, .int .i64 off, .int .i64 x4, .int .i64 x5, .int .i64 x6, .int .i64 x7, .int .i64 x8, .int .i64 x9] 44 (0, 0))) := Lib.hid (by rw [hV]; exact heap_alloc_new _ _)
    have HBV := Lib.hid (show Below w.heap.size w V by rw [hV]; exact HB.out.alloc s2 _)
    clear hV
    have hR := fun w' (h : Hid (Below V.heap.size V w')) => (box_rules (box_keep HV.out h.out)).1
    have hS0 := S_refl' V
    go_region_held3 (fun w' => Hid (Below V.heap.size V w')) ((first | assumption | exact S_drew' (by assumption))) ((go_at_call 26; (first | ((with_reducible refine (c1.out _).mono ?_)) | ((with_reducible refine (c2.out _).mono ?_))); rintro e w' ⟨rfl, hb⟩; have hk := S_call' (W := V) (by assumption) hb; clear hb))
    all_goals
      go_wp2
      all_goals
        go_ret2
        refine RetB.of (HR.out.trans ?_) (HBV.out.trans (Below.mono (B := V.heap.size) (Hid.out (by assumption)) HBV.out.size))
        have ww := WW.out
        first
        | (rw [ww]; congr 1; omega)
        | (congr 1; omega)
  · rw [if_neg hY] at he
    unfold zeroT at he
    subst he
    have hY1 : (Y != 0) = true := by simpa using hY
    have HR := Lib.hid (show R = (0, Y) by rw [HN.out, if_pos hY])
    clear HN HI HK
    go_wp2
    go_ret2
    exact RetB.of HR.out (HB.out.alloc s2 _)
set_option maxHeartbeats 2000000 in
theorem jobs35_cfg (mn mx sw : Int) (ts : List Tk) (ls : List Ln) (hs : List Th) (A : Option Addr) (ca : Nat) (B : Option Addr) (cb : Nat) (D : Option Addr) (cd : Nat) (n k0 k : Int) (w : World)
    (hlt0 : ts.length ≤ 1048576) (hll : ls.length ≤ 1048576) (hlh : hs.length ≤ 1048576)
    (ht : Rd w A (ts.flatMap tkc)) (hl : Rd w B (ls.flatMap lnc)) (hh : Rd w D (hs.flatMap thc)) (hmx : I64 mx) :
    Calls Tryd.prog 17 #[cfv mn mx sw A ts.length ca B ls.length cb D hs.length cd, .int .i64 n, .int .i64 k0, .int .i64 k] w (RetB (jobsOf ⟨mn, mx, sw, ts, ls, hs⟩ n k0 k) w) := by
  have Ht := Lib.hid ht; have Hl := Lib.hid hl; have Hh := Lib.hid hh
  have f1 := Lib.hid (fun w ht hl hh => bad_cfg mn mx sw ts ls hs A ca B cb D cd n k0 k w hlt0 hll hlh ht hl hh hmx)
  have HI := Lib.hid (open_in (c := ⟨mn, mx, sw, ts, ls, hs⟩) (n := n) (times := [k0, k]))
  have HK := Lib.hid (open_zero (y := Cf.why ⟨mn, mx, sw, ts, ls, hs⟩) (ts := ts) (n := n) (times := [k0, k]))
  have HN : Hid (jobsOf ⟨mn, mx, sw, ts, ls, hs⟩ n k0 k = if openY (Cf.why ⟨mn, mx, sw, ts, ls, hs⟩) ts n [k0, k] ≠ 0 then (0, openY (Cf.why ⟨mn, mx, sw, ts, ls, hs⟩) ts n [k0, k])
    else (max (aheadOf (ts.getD n.toNat tk0).offset (ts.getD n.toNat tk0).period k - aheadOf (ts.getD n.toNat tk0).offset (ts.getD n.toNat tk0).period k0) 0, 0)) := Lib.hid rfl
  have hx0 := Lib.hid (show ∀ (h : openY (Cf.why ⟨mn, mx, sw, ts, ls, hs⟩) ts n [k0, k] = 0), n.toNat < ts.length ∧ 0 ≤ n ∧ n < ts.length from fun h => by have := (open_zero h).2.1; omega)
  clear ht hl hh hmx
  dsimp only at HI
  generalize jobsOf ⟨mn, mx, sw, ts, ls, hs⟩ n k0 k = R at *
  generalize openY (Cf.why ⟨mn, mx, sw, ts, ls, hs⟩) ts n [k0, k] = Y at *
  unfold cfv at *
  go_enter Tryd.func17, Tryd.ntmps17
  go_wp2_with fail
  refine (f1.out _ (Ht.out.alloc _) (Hl.out.alloc _) (Hh.out.alloc _)).mono ?_
  rintro e w2 ⟨rfl, hb⟩
  have HX := Lib.hid (box_keep (heap_alloc_new w (.cells #[.int .i64 mn, .int .i64 mx, .int .i64 sw, .slice A ts.length ca, .slice B ls.length cb, .slice D hs.length cd] 35)) hb)
  have HB := Lib.hid (((Below.refl w.heap.size w).alloc (Nat.le_refl _) _).trans (hb.mono (by simp)))
  have s2 := HB.out.size
  obtain ⟨hx, hy⟩ := box_rules HX.out
  clear hb f1
  by_cases hY : Y = 0
  · subst hY
    obtain ⟨⟨o1, o2⟩, p1, p2⟩ := HI.out rfl
    have hkk : (0 ≤ k0 ∧ k0 ≤ 4503599627370496) ∧ (0 ≤ k ∧ k ≤ 4503599627370496) := by
      have h := (HK.out rfl).2.2
      simp only [List.all_cons, List.all_nil, Bool.and_true, Bool.and_eq_true] at h
      exact ⟨tmOk_true.1 h.1, tmOk_true.1 h.2⟩
    obtain ⟨hm0, hn0, hn1⟩ := hx0.out rfl
    obtain ⟨m, rfl⟩ := Int.eq_ofNat_of_zero_le hn0
    have HN2 : Hid (R = (max (aheadOf (ts.getD m tk0).offset (ts.getD m tk0).period k - aheadOf (ts.getD m tk0).offset (ts.getD m tk0).period k0) 0, 0)) := Lib.hid (by rw [HN.out, if_neg (by simp)]; rfl)
    have o1' : 0 ≤ (ts.getD m tk0).offset := o1
    have o2' : (ts.getD m tk0).offset ≤ 1099511627776 := o2
    have p1' : 1 ≤ (ts.getD m tk0).period := p1
    have p2' : (ts.getD m tk0).period ≤ 1099511627776 := p2
    clear HN HI HK hx0 o1 o2 p1 p2
    obtain ⟨a, x, rfl, hxx, ⟨g0, g1, g2, g3⟩, g4, g5, g6, g7, g8, g9⟩ := (Ht.out.below HB.out).tkAt (k := m) hm0
    rw [hxx] at HN2 o1' o2' p1' p2'
    clear hxx
    have c1 := Lib.hid (fun w => ahead35_any x k w ⟨o1', o2'⟩ ⟨p1', p2'⟩ hkk.2)
    have c2 := Lib.hid (fun w => ahead35_any x k0 w ⟨o1', o2'⟩ ⟨p1', p2'⟩ hkk.1)
    have I1 := ahead_in (off := x.offset) (per := x.period) (e := k) o1' p1' hkk.2.2
    have I2 := ahead_in (off := x.offset) (per := x.period) (e := k0) o1' p1' hkk.1.2
    unfold tkv at c1 c2
    generalize aheadOf x.offset x.period k = r1 at *
    generalize aheadOf x.offset x.period k0 = r2 at *
    obtain ⟨x0, x1, per, off, x4, x5, x6, x7, x8, x9⟩ := x
    dsimp only at g0 g1 g2 g3 g4 g5 g6 g7 g8 g9 o1' o2' p1' p2' c1 c2
    have hm1 : (m : Int) < ts.length := by omega
    have HR := HN2
    clear HN2
    have WW := Lib.hid (show IntKind.i64.wrap (r1 - r2) = r1 - r2 by rw [IntKind.wrap_i64]; omega)
    go_wp2_with fail
    refine name_world fun V hV => ?_
    have HV : Hid (V.heap[w2.heap.size]? = some (.cells #[.int .u8 x0, .int .i64 x1, .int .i64 per, .int .i64 off, .int .i64 x4, .int .i64 x5, .int .i64 x6, .int .i64 x7, .int .i64 x8, .int .i64 x9] 44 (0, 0))) := Lib.hid (by rw [hV]; exact heap_alloc_new _ _)
    have HBV := Lib.hid (show Below w.heap.size w V by rw [hV]; exact HB.out.alloc s2 _)
    clear hV
    have hR := fun w' (h : Hid (Below V.heap.size V w')) => (box_rules (box_keep HV.out h.out)).1
    have hS0 := S_refl' V
    go_region_held3 (fun w' => Hid (Below V.heap.size V w')) ((first | assumption | exact S_drew' (by assumption))) ((go_at_call 27; (first | ((with_reducible refine (c1.out _).mono ?_)) | ((with_reducible refine (c2.out _).mono ?_))); rintro e w' ⟨rfl, hb⟩; have hk := S_call' (W := V) (by assumption) hb; clear hb))
    all_goals
      go_wp2
      all_goals
        go_ret2
        refine RetB.of (HR.out.trans ?_) (HBV.out.trans (Below.mono (B := V.heap.size) (Hid.out (by assumption)) HBV.out.size))
        have ww := WW.out
        first
        | (rw [ww]; congr 1; omega)
        | (congr 1; omega)
  · have hY1 : (Y != 0) = true := by simpa using hY
    have HR := Lib.hid (show R = (0, Y) by rw [HN.out, if_pos hY])
    clear HN HI HK
    go_wp2
    go_ret2
    exact RetB.of HR.out HB.out
end Go.Proofs.YtpdanmdpaanafaaDoor

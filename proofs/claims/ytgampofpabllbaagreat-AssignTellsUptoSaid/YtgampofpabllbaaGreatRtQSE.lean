/- Packages rta and vergeref28: the walks of open and bad. Conditions: lists that read. -/
import Derived.Test.YtgampofpabllbaaGreatRtP
import Derived.Test.YtgampofpabllbaaGreatRefVF
import Derived.Test.YtgampofpabllbaaGreatRtJ
namespace Go.Proofs.YtgampofpabllbaaGreat
open Go.RowKit

/-- Why a task may not be asked for. -/
def askY (why : Int) (ts : List Tk) (n : Int) : Int := if why ≠ 0 then why else if n < 0 ∨ (ts.length : Int) ≤ n then 1 else 0
/-- A sheet, or why not. -/
def RetS (y : Int) (cs : Array Value) (w : World) (e : Ending) (w' : World) : Prop :=
  ∃ v, e = .returned (.tuple #[v, .int .i64 y]) ∧ (y ≠ 0 → v = .pointer none) ∧ (y = 0 → ∃ b, v = .pointer (some ⟨b, 0, none⟩) ∧ w'.heap[b]? = some (.cells cs 140 (0, 0))) ∧ Below w.heap.size w w'
theorem cell_of_below {w w' : World} (h : Below w.heap.size w w') {a : Addr} {v : Value} (hc : w.cell? a = some v) : w'.cell? a = some v := by
  refine (h.cell ?_).trans hc
  rcases Nat.lt_or_ge a.block w.heap.size with h | h
  · exact h
  · unfold World.cell? at hc
    rw [Array.getElem?_eq_none h] at hc
    cases hc
set_option maxHeartbeats 4000000 in
theorem open_any (mn mx sw : Int) (ts : List Tk) (ls : List Ln) (hs : List Th) (A : Option Addr) (ca : Nat) (B : Option Addr) (cb : Nat) (D : Option Addr) (cd : Nat) (n : Int) (w : World)
    (hlt0 : ts.length ≤ 1048576) (hll : ls.length ≤ 1048576) (hlh : hs.length ≤ 1048576)
    (ht : Rd w A (ts.flatMap tkc)) (hl : Rd w B (ls.flatMap lnc)) (hh : Rd w D (hs.flatMap thc)) (hmx : I64 mx) (ht64 : ∀ p ∈ ts.map (·.prio) ++ hs.map (·.prio), I64 p) :
    Calls Tryz.prog 89 #[cfv mn mx sw A ts.length ca B ls.length cb D hs.length cd, .int .i64 n] w
      (RetS (askY (Cf.why ⟨mn, mx, sw, ts, ls, hs⟩) ts n) (shc mn mx sw A ts.length ca B ls.length cb D hs.length cd (ts.getD n.toNat tk0)) w) := by
  have Ht := Lib.hid ht; have Hl := Lib.hid hl; have Hh := Lib.hid hh
  have f1 := Lib.hid (fun w ht hl hh => check_cfg mn mx sw ts ls hs A ca B cb D cd w hlt0 hll hlh ht hl hh hmx ht64)
  clear ht hl hh hmx ht64
  unfold cfv at *
  generalize Cf.why ⟨mn, mx, sw, ts, ls, hs⟩ = y at *
  have HO : Hid (askY y ts n = if y ≠ 0 then y else if n < 0 ∨ (ts.length : Int) ≤ n then 1 else 0) := Lib.hid rfl
  generalize askY y ts n = Y at *
  have HXt : Hid (ts.getD n.toNat tk0 = ts.getD n.toNat tk0) := Lib.hid rfl
  generalize hx0 : ts.getD n.toNat tk0 = x at *
  clear HXt
  have HXt := Lib.hid hx0
  clear hx0
  have HCS : Hid (shc mn mx sw A ts.length ca B ls.length cb D hs.length cd x = shc mn mx sw A ts.length ca B ls.length cb D hs.length cd x) := Lib.hid rfl
  generalize hcs : shc mn mx sw A ts.length ca B ls.length cb D hs.length cd x = CS at *
  clear HCS
  have HCS := Lib.hid hcs
  clear hcs
  go_enter Tryz.func89, Tryz.ntmps89
  go_wp2_with fail
  refine (f1.out _ (Ht.out.alloc _) (Hl.out.alloc _) (Hh.out.alloc _)).mono ?_
  rintro e w2 ⟨rfl, hb⟩
  have HX := Lib.hid (box_keep (heap_alloc_new w (.cells #[.int .i64 mn, .int .i64 mx, .int .i64 sw, .slice A ts.length ca, .slice B ls.length cb, .slice D hs.length cd] 28)) hb)
  have HB := Lib.hid (((Below.refl w.heap.size w).alloc (Nat.le_refl _) _).trans (hb.mono (by simp)))
  have hsz : w.heap.size + 1 ≤ w2.heap.size := by have := hb.size; simp at this; omega
  clear hb f1
  obtain ⟨hx, hy⟩ := box_rules HX.out
  by_cases hy0 : y = 0
  · subst hy0
    by_cases hn0 : n < 0
    · have HY := Lib.hid (show Y = 1 by rw [HO.out, if_neg (by simp), if_pos (.inl hn0)])
      clear HO
      go_wp2
      refine bodyPost_ret (v := .tuple #[.pointer none, .int .i64 1]) (by simp [results, Tryz.f89, go_sem]) rfl ?_
      exact ⟨_, by rw [HY.out], fun _ => rfl, fun h => (by rw [HY.out] at h; cases h), HB.out⟩
    · by_cases hn1 : (ts.length : Int) ≤ n
      · have HY := Lib.hid (show Y = 1 by rw [HO.out, if_neg (by simp), if_pos (.inr hn1)])
        clear HO
        go_wp2
        refine bodyPost_ret (v := .tuple #[.pointer none, .int .i64 1]) (by simp [results, Tryz.f89, go_sem]) rfl ?_
        exact ⟨_, by rw [HY.out], fun _ => rfl, fun h => (by rw [HY.out] at h; cases h), HB.out⟩
      · obtain ⟨m, rfl⟩ := Int.eq_ofNat_of_zero_le (show 0 ≤ n by omega)
        have hm : m < ts.length := by omega
        have HY := Lib.hid (show Y = 0 by rw [HO.out, if_neg (by simp), if_neg (by omega)])
        clear HO
        obtain ⟨a, x2, rfl, hx2, ⟨g0, g1, g2, g3⟩, g4, g5, g6, g7, g8, g9⟩ := (Ht.out.below HB.out).tkAt hm
        have he := HXt.out
        rw [Int.toNat_natCast, hx2] at he
        subst he
        clear hx2 HXt
        go_wp2_with fail
        have hR := fun w' (h : Hid (Below w2.heap.size w2 w')) => (box_rules (box_keep HX.out h.out)).1
        have r0 := fun w' (h : Hid (Below w2.heap.size w2 w')) => cell_of_below h.out g0
        have r1 := fun w' (h : Hid (Below w2.heap.size w2 w')) => cell_of_below h.out g1
        have r2 := fun w' (h : Hid (Below w2.heap.size w2 w')) => cell_of_below h.out g2
        have r3 := fun w' (h : Hid (Below w2.heap.size w2 w')) => cell_of_below h.out g3
        have r4 := fun w' (h : Hid (Below w2.heap.size w2 w')) => cell_of_below h.out g4
        have r5 := fun w' (h : Hid (Below w2.heap.size w2 w')) => cell_of_below h.out g5
        have r6 := fun w' (h : Hid (Below w2.heap.size w2 w')) => cell_of_below h.out g6
        have r7 := fun w' (h : Hid (Below w2.heap.size w2 w')) => cell_of_below h.out g7
        have r8 := fun w' (h : Hid (Below w2.heap.size w2 w')) => cell_of_below h.out g8
        have r9 := fun w' (h : Hid (Below w2.heap.size w2 w')) => cell_of_below h.out g9
        have hS0 := S_refl' w2
        go_region_held3 (fun w' => Hid (Below w2.heap.size w2 w')) ((first | assumption | exact S_alloc' (by assumption) _ | exact S_drew' (by assumption) | exact S_drew' (S_alloc' (by assumption) _))) (fail)
        clear r0 r1 r2 r3 r4 r5 r6 r7 r8 r9 hR hS0 g0 g1 g2 g3 g4 g5 g6 g7 g8 g9
        go_wp2
        refine bodyPost_ret (v := .tuple #[.pointer (some ⟨w2.heap.size, 0, none⟩), .int .i64 0]) (by simp [results, Tryz.f89, go_sem]) rfl ?_
        exact ⟨_, by rw [HY.out], fun h => absurd HY.out h, fun _ => ⟨_, rfl, by rw [← HCS.out]; exact heap_alloc_new w2 _⟩, (HB.out.alloc HB.out.size _).drew⟩
  · have HY := Lib.hid (show Y = y by rw [HO.out, if_pos hy0])
    clear HO
    go_wp2
    refine bodyPost_ret (v := .tuple #[.pointer none, .int .i64 y]) (by simp [results, Tryz.f89, go_sem]) rfl ?_
    exact ⟨_, by rw [HY.out], fun _ => rfl, fun h => absurd (HY.out.symm.trans h) hy0, HB.out⟩
/-- vergeref28.bad: whether a task may be asked for. -/
theorem bad28_any (mn mx sw : Int) (ts : List Tk) (ls : List Ln) (hs : List Th) (A : Option Addr) (ca : Nat) (B : Option Addr) (cb : Nat) (D : Option Addr) (cd : Nat) (n : Int) (w : World)
    (hlt0 : ts.length ≤ 1048576) (hll : ls.length ≤ 1048576) (hlh : hs.length ≤ 1048576)
    (ht : Rd w A (ts.flatMap tkc)) (hl : Rd w B (ls.flatMap lnc)) (hh : Rd w D (hs.flatMap thc)) (hmx : I64 mx) :
    Calls Tryz.prog 57 #[cfv mn mx sw A ts.length ca B ls.length cb D hs.length cd, .int .i64 n] w
      fun e w' => e = .returned (.int .i64 (askY (Cf.why ⟨mn, mx, sw, ts, ls, hs⟩) ts n)) ∧ Below w.heap.size w w' := by
  have Ht := Lib.hid ht; have Hl := Lib.hid hl; have Hh := Lib.hid hh
  have f1 := Lib.hid (fun w ht hl hh => check27_cfg mn mx sw ts ls hs A ca B cb D cd w hlt0 hll hlh ht hl hh hmx)
  clear ht hl hh hmx
  unfold cfv at *
  generalize Cf.why ⟨mn, mx, sw, ts, ls, hs⟩ = y at *
  have HO : Hid (askY y ts n = if y ≠ 0 then y else if n < 0 ∨ (ts.length : Int) ≤ n then 1 else 0) := Lib.hid rfl
  generalize askY y ts n = Y at *
  go_enter Tryz.func57, Tryz.ntmps57
  go_wp2_with fail
  refine (f1.out _ (Ht.out.alloc _) (Hl.out.alloc _) (Hh.out.alloc _)).mono ?_
  rintro e w2 ⟨rfl, hb⟩
  have HX := Lib.hid (box_keep (heap_alloc_new w (.cells #[.int .i64 mn, .int .i64 mx, .int .i64 sw, .slice A ts.length ca, .slice B ls.length cb, .slice D hs.length cd] 28)) hb)
  have HB := Lib.hid (((Below.refl w.heap.size w).alloc (Nat.le_refl _) _).trans (hb.mono (by simp)))
  clear hb f1
  obtain ⟨hx, hy⟩ := box_rules HX.out
  by_cases hy0 : y = 0
  · subst hy0
    by_cases hn0 : n < 0
    · have HY := Lib.hid (show Y = 1 by rw [HO.out, if_neg (by simp), if_pos (.inl hn0)])
      clear HO
      go_wp2
      go_ret
      exact ⟨ret_int HY.out.symm, HB.out⟩
    · by_cases hn1 : (ts.length : Int) ≤ n
      · have HY := Lib.hid (show Y = 1 by rw [HO.out, if_neg (by simp), if_pos (.inr hn1)])
        clear HO
        go_wp2
        go_ret
        exact ⟨ret_int HY.out.symm, HB.out⟩
      · obtain ⟨m, rfl⟩ := Int.eq_ofNat_of_zero_le (show 0 ≤ n by omega)
        have hm : m < ts.length := by omega
        have HY := Lib.hid (show Y = 0 by rw [HO.out, if_neg (by simp), if_neg (by omega)])
        clear HO
        go_wp2
        go_ret
        exact ⟨ret_int HY.out.symm, HB.out⟩
  · have HY := Lib.hid (show Y = y by rw [HO.out, if_pos hy0])
    clear HO
    go_wp2
    go_ret
    exact ⟨ret_int HY.out.symm, HB.out⟩
end Go.Proofs.YtgampofpabllbaaGreat
/- Package rta: the walks of Blocking, Base, Lag, Loads, Bound. Conditions: lists that read. -/
namespace Go.Proofs.YtgampofpabllbaaGreat
open Go.RowKit

theorem askY_zero {why : Int} {ts : List Tk} {n : Int} (h : askY why ts n = 0) : why = 0 ∧ n.toNat < ts.length ∧ n = (n.toNat : Int) := by
  unfold askY at h
  split at h
  · rename_i h1; exact absurd h h1
  · rename_i h1
    split at h
    · cases h
    · rename_i h2
      refine ⟨by simpa using h1, by omega, by omega⟩
/-- What Bound hands back of a task that may be asked for. -/
def boundR (mn sw : Int) (ts : List Tk) (ls : List Ln) (hs : List Th) (x : Tk) : Int × Int :=
  if x.deadline < lagT mn x then (0, 11) else
  if (stepsY (baseN sw ts x) (loadsL mn sw ts ls hs x.prio) (x.deadline - lagT mn x)).2 = 0 then (wrap64 ((stepsY (baseN sw ts x) (loadsL mn sw ts ls hs x.prio) (x.deadline - lagT mn x)).1 + lagT mn x), 0)
  else (0, (stepsY (baseN sw ts x) (loadsL mn sw ts ls hs x.prio) (x.deadline - lagT mn x)).2)
/-- A list of loads, and an error. -/
def RetLY (l : List Ld) (y : Int) (w : World) (e : Ending) (w' : World) : Prop :=
  ∃ A c, e = .returned (.tuple #[.slice A l.length c, .int .i64 y]) ∧ Rd w' A (l.flatMap ldc) ∧ Below w.heap.size w w'
end Go.Proofs.YtgampofpabllbaaGreat
/- Package rta: the walk of Bound. Conditions: lists that read. -/
namespace Go.Proofs.YtgampofpabllbaaGreat
open Go.RowKit

theorem loadsL_len (mn sw : Int) (ts : List Tk) (ls : List Ln) (hs : List Th) (p : Int) : (loadsL mn sw ts ls hs p).length ≤ ts.length + hs.length + ls.length := by
  unfold loadsL
  rw [List.length_append]
  have := urgL_len mn sw ts p ts.length
  have := supL_len hs ls p
  omega
set_option maxHeartbeats 4000000 in
theorem rbound_any (mn mx sw : Int) (ts : List Tk) (ls : List Ln) (hs : List Th) (A : Option Addr) (ca : Nat) (B : Option Addr) (cb : Nat) (D : Option Addr) (cd : Nat) (n : Int) (w : World)
    (hlt0 : ts.length ≤ 1048576) (hll : ls.length ≤ 1048576) (hlh : hs.length ≤ 1048576)
    (ht : Rd w A (ts.flatMap tkc)) (hl : Rd w B (ls.flatMap lnc)) (hh : Rd w D (hs.flatMap thc)) (hmx : I64 mx) (ht64 : ∀ p ∈ ts.map (·.prio) ++ hs.map (·.prio), I64 p) :
    Calls Tryz.prog 50 #[cfv mn mx sw A ts.length ca B ls.length cb D hs.length cd, .int .i64 n] w
      (RetN (if (askY (Cf.why ⟨mn, mx, sw, ts, ls, hs⟩) ts n) = 0 then (boundR mn sw ts ls hs (ts.getD n.toNat tk0)).1 else 0) (if (askY (Cf.why ⟨mn, mx, sw, ts, ls, hs⟩) ts n) = 0 then (boundR mn sw ts ls hs (ts.getD n.toNat tk0)).2 else (askY (Cf.why ⟨mn, mx, sw, ts, ls, hs⟩) ts n)) w) := by
  have HLen : Hid ((askY (Cf.why ⟨mn, mx, sw, ts, ls, hs⟩) ts n) = 0 → (loadsL mn sw ts ls hs ((ts.getD n.toNat tk0)).prio).length ≤ 1048576) := Lib.hid (fun h => by
    obtain ⟨h1, h2, _⟩ := askY_zero h
    have c := cfIn_of h1
    have h3 := c.nt; have h4 := c.nl; have h5 := c.nh
    dsimp only at h3 h4 h5
    have := loadsL_len mn sw ts ls hs ((ts.getD n.toNat tk0)).prio
    omega)
  have Ht := Lib.hid ht; have Hl := Lib.hid hl; have Hh := Lib.hid hh
  have f1 := Lib.hid (fun w ht hl hh => open_any mn mx sw ts ls hs A ca B cb D cd n w hlt0 hll hlh ht hl hh hmx ht64)
  have HIn : Hid (askY (Cf.why ⟨mn, mx, sw, ts, ls, hs⟩) ts n = 0 → (1 ≤ mn ∧ mn ≤ 2147483648) ∧ (0 ≤ sw ∧ sw ≤ 1099511627776) ∧ (∀ t ∈ ts, TkIn t sw) ∧ (∀ x ∈ ls, LnIn x) ∧ (∀ x ∈ hs, ThIn x) ∧ TkIn (ts.getD n.toNat tk0) sw) := Lib.hid (fun h => by
    obtain ⟨h1, h2, _⟩ := askY_zero h
    have c := cfIn_of h1
    have h3 := c.mn; have h4 := c.mx; have h5 := c.mm
    dsimp only at h3 h4 h5
    exact ⟨⟨h3, by omega⟩, c.sw, c.ts, c.ls, c.hs, c.ts _ (getD_mem h2)⟩)
  clear ht hl hh hmx ht64
  unfold cfv at *
  generalize askY (Cf.why ⟨mn, mx, sw, ts, ls, hs⟩) ts n = Y at *
  generalize ts.getD n.toNat tk0 = x at *
  generalize hN : (if Y = 0 then (boundR mn sw ts ls hs x).1 else 0) = N
  generalize hZ : (if Y = 0 then (boundR mn sw ts ls hs x).2 else Y) = Z
  have HN := Lib.hid hN; have HZ := Lib.hid hZ
  clear hN hZ
  go_enter Tryz.func50, Tryz.ntmps50
  go_wp2_with fail
  refine (f1.out _ (Ht.out.alloc _) (Hl.out.alloc _) (Hh.out.alloc _)).mono ?_
  rintro e w2 ⟨v, rfl, hv1, hv2, hb⟩
  have HB := Lib.hid (((Below.refl w.heap.size w).alloc (Nat.le_refl _) _).trans (hb.mono (by simp)))
  have HV1 := Lib.hid hv1; have HV2 := Lib.hid hv2
  clear hb f1 hv1 hv2
  by_cases hY : Y = 0
  · obtain ⟨b, rfl, hc⟩ := HV2.out hY
    obtain ⟨hmn, hsw, hts, hls, hhs, hx⟩ := HIn.out hY
    have hlen := HLen.out hY
    have HNN : Hid (N = (boundR mn sw ts ls hs x).1) := Lib.hid (by rw [← HN.out, if_pos hY])
    have HZZ : Hid (Z = (boundR mn sw ts ls hs x).2) := Lib.hid (by rw [← HZ.out, if_pos hY])
    have HBd : Hid (boundR mn sw ts ls hs x = if x.deadline < lagT mn x then (0, 11) else if (stepsY (baseN sw ts x) (loadsL mn sw ts ls hs x.prio) (x.deadline - lagT mn x)).2 = 0 then (wrap64 ((stepsY (baseN sw ts x) (loadsL mn sw ts ls hs x.prio) (x.deadline - lagT mn x)).1 + lagT mn x), 0) else (0, (stepsY (baseN sw ts x) (loadsL mn sw ts ls hs x.prio) (x.deadline - lagT mn x)).2)) := Lib.hid rfl
    clear HV1 HV2 HN HZ HIn HLen
    subst hY
    have hg : 0 ≤ lagT mn x ∧ lagT mn x ≤ 2147483648 := by unfold lagT; split <;> omega
    have hd : 1 ≤ x.deadline ∧ x.deadline ≤ 1099511627776 := by have := hx.deadline; have := hx.period; omega
    have e1 : IntKind.i64.wrap (x.deadline - lagT mn x) = x.deadline - lagT mn x := IntWalk.i64_in _ (by omega)
    have F1 := Lib.hid (lag_any mn mx sw A ts.length ca B ls.length cb D hs.length cd x x b w2 hc)
    have F2 := Lib.hid (fun w ht hl hh hc => loads_any mn mx sw ts A ca B ls cb D hs cd x b hlt0 hts hsw hmn hlh hll hhs hls w ht hl hh hc)
    have F3 := Lib.hid (fun w ht hc => base_any mn mx sw ts A ca B ls.length cb D hs.length cd x b hlt0 hts hsw hx w ht hc)
    have F4 := Lib.hid (fun A c w hr => solve_any (baseN sw ts x) (loadsL mn sw ts ls hs x.prio) (x.deadline - lagT mn x) hlen A c w hr)
    have HC := Lib.hid hc
    have HT2 := Lib.hid (Ht.out.below HB.out); have HL2 := Lib.hid (Hl.out.below HB.out); have HH2 := Lib.hid (Hh.out.below HB.out)
    clear hc hmn hsw hts hls hhs hx hlen Ht Hl Hh
    generalize boundR mn sw ts ls hs x = R at *
    generalize loadsL mn sw ts ls hs x.prio = L at *
    generalize baseN sw ts x = BN at *
    unfold shc at HC F2 F3
    unfold tkv at F1
    unfold RetL at F2
    unfold RetN at F4
    generalize lagT mn x = G at *
    obtain ⟨x0, x1, x2, x3, dl, x5, x6, x7, x8, x9⟩ := x
    dsimp only at *
    generalize stepsY BN L (dl - G) = S at *
    obtain ⟨r, y⟩ := S
    dsimp only at *
    generalize hP : (if y = 0 then r else 0) = P at *
    have HP := Lib.hid hP
    clear hP
    obtain ⟨g1, g2⟩ := hg
    obtain ⟨d1, d2⟩ := hd
    obtain ⟨cx, cy⟩ := box_rules HC.out
    go_wp2_with fail
    refine F1.out.mono ?_
    rintro e w3 ⟨rfl, hb⟩
    have HB3 := Lib.hid (HB.out.trans (hb.mono HB.out.size))
    have HC3 := Lib.hid (box_keep HC.out hb)
    have HT3 := Lib.hid (HT2.out.below hb); have HL3 := Lib.hid (HL2.out.below hb); have HH3 := Lib.hid (HH2.out.below hb)
    clear hb F1 cx cy HC HT2 HL2 HH2 HB
    obtain ⟨cx, cy⟩ := box_rules HC3.out
    by_cases hlate : dl < G
    · rw [if_pos hlate] at HBd
      go_wp2
      refine bodyPost_ret (v := .tuple #[.int .i64 0, .int .i64 11]) (by simp [results, Tryz.f50, go_sem]) rfl ?_
      exact ⟨by rw [HNN.out, HZZ.out, HBd.out], HB3.out⟩
    · rw [if_neg hlate] at HBd
      go_wp2_with fail
      refine (F2.out w3 HT3.out HL3.out HH3.out HC3.out).mono ?_
      rintro e w4 ⟨A5, c5, rfl, hr, hb⟩
      have HB4 := Lib.hid (HB3.out.trans (hb.mono HB3.out.size))
      have HC4 := Lib.hid (box_keep HC3.out hb)
      have HT4 := Lib.hid (HT3.out.below hb)
      have HR4 := Lib.hid hr
      clear hb hr F2 cx cy HC3 HT3 HL3 HH3 HB3
      have hR := fun w' (h : Hid (Below w4.heap.size w4 w')) => (box_rules (box_keep HC4.out h.out)).1
      have mT := Lib.hid (fun w' (h : Hid (Below w4.heap.size w4 w')) => HT4.out.below h.out)
      have mC := Lib.hid (fun w' (h : Hid (Below w4.heap.size w4 w')) => box_keep HC4.out h.out)
      have mR := Lib.hid (fun w' (h : Hid (Below w4.heap.size w4 w')) => HR4.out.below h.out)
      have hS0 := S_refl' w4
      go_wp2_with fail
      go_region_held3 (fun w' => Hid (Below w4.heap.size w4 w')) ((first | assumption | exact S_alloc' (by assumption) _ | exact S_drew' (by assumption) | exact S_drew' (S_alloc' (by assumption) _))) ((first
        | (go_at_call 93; refine (F3.out _ (mT.out _ (by assumption)) (mC.out _ (by assumption))).mono ?_; rintro e w' ⟨rfl, hb⟩; have hk := S_call' (W := w4) (by assumption) hb; clear hb)
        | (go_at_call 92; refine (F4.out _ _ _ (mR.out _ (by assumption))).mono ?_; rintro e w' ⟨rfl, hb⟩; have hk := S_call' (W := w4) (by assumption) hb; clear hb)))
      have hk9 : Hid (Below w4.heap.size w4 w') := by assumption
      have HB9 := Lib.hid (HB4.out.trans (hk9.out.mono HB4.out.size))
      clear hR mT mC mR hS0 HR4 HT4 HC4 HB4
      by_cases hy0 : y = 0
      · rw [if_pos hy0] at HP HBd
        subst hy0
        go_wp2
        refine bodyPost_ret (v := .tuple #[.int .i64 (wrap64 (P + G)), .int .i64 0]) (by simp [results, Tryz.f50, go_sem]) rfl ?_
        exact ⟨by rw [HNN.out, HZZ.out, HBd.out, HP.out], HB9.out⟩
      · rw [if_neg hy0] at HP HBd
        have hy1 : (y != 0) = true := by simpa using hy0
        go_wp2
        refine bodyPost_ret (v := .tuple #[.int .i64 0, .int .i64 y]) (by simp [results, Tryz.f50, go_sem]) rfl ?_
        exact ⟨by rw [HNN.out, HZZ.out, HBd.out], HB9.out⟩
  · obtain rfl := HV1.out hY
    have HNN : Hid (N = 0) := Lib.hid (by rw [← HN.out, if_neg hY])
    have HZZ : Hid (Z = Y) := Lib.hid (by rw [← HZ.out, if_neg hY])
    have hY1 : (Y != 0) = true := by simpa using hY
    clear HV1 HV2 HN HZ HIn hY HLen
    go_wp2
    refine bodyPost_ret (v := .tuple #[.int .i64 0, .int .i64 Y]) (by simp [results, Tryz.f50, go_sem]) rfl ?_
    exact ⟨by rw [HNN.out, HZZ.out], HB.out⟩
end Go.Proofs.YtgampofpabllbaaGreat

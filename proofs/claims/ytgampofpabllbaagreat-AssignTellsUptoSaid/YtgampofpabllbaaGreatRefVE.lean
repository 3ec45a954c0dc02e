/- Package vergeref27: the walk of All. Conditions: lists that read. -/
import Derived.Test.YtgampofpabllbaaGreatRefVD
import Derived.Test.YtgampofpabllbaaGreatRefVA
import Derived.Test.YtgampofpabllbaaGreatVetG
namespace Go.Proofs.YtgampofpabllbaaGreat
open Go.RowKit Go.Shelf

theorem sl_fault : SlK Tryz.prog 74 63 3 24 := SlK.mk' (z := .agg #[.int .u8 0, .int .i64 0, .int .i64 0]) Tryz.underlying74 (by kernel_rfl) rfl (by decide)
/-- Those with an error. -/
def filt (l : List Fl) : List Fl := l.filter fun f => decide (f.why ≠ 0)
theorem filt_zero (pre : List Fl) (p : Int) (i : Nat) : filt (pre ++ [⟨p, i, 0⟩]) = filt pre := by unfold filt; simp
theorem filt_more (pre : List Fl) (p : Int) (i : Nat) {y : Int} (h : y ≠ 0) : filt (pre ++ [⟨p, i, y⟩]) = filt pre ++ [⟨p, i, y⟩] := by unfold filt; simp [h]
theorem filt_len (l : List Fl) : (filt l).length ≤ l.length := List.length_filter_le _ _
theorem flc_snoc (l : List Fl) (x : Fl) : (l ++ [x]).flatMap flc = l.flatMap flc ++ flc x := by rw [List.flatMap_append]; simp
theorem mem_take_succ {l : List Int} {m : Nat} {p : Int} (h : m < l.length) : decide (p ∈ l.take (m + 1)) = (decide (p ∈ l.take m) || p == l.getD m 0) := by
  have e : l.getD m 0 = l[m] := by simp [List.getD, h]
  have k : p ∈ l.take (m + 1) ↔ p ∈ l.take m ∨ p = l[m] := by rw [List.take_succ_eq_append_getElem h, List.mem_append, List.mem_singleton]
  rw [e, decide_eq_decide.2 k, Bool.decide_or]
  rfl
/-- A row of faults of the call's own. -/
def OutI (w wr : World) (s : Value) (pre : List Fl) : Prop := ∃ (A1 : Option Addr) (c1 : Nat), s = .slice A1 (filt pre).length c1 ∧ wr.ownsRow (w.heap.size + 1) 63 3 s (filt pre).length ((filt pre).flatMap flc)

/-- What All holds: the configuration's box, the faults found so far. -/
structure CtI (w wr : World) (cs : Array Value) (s : Value) (pre : List Fl) : Prop where
  out : OutI w wr s pre
  box : wr.heap[w.heap.size]? = some (.cells cs 28 (0, 0))
  low : Below w.heap.size w wr
theorem OutI.keep {w wr w' : World} {s : Value} {pre : List Fl} (h : OutI w wr s pre) (hb : Below wr.heap.size wr w') : OutI w w' s pre := by
  obtain ⟨A1, c1, h1, h2⟩ := h
  exact ⟨A1, c1, h1, own_belowK h2 hb⟩
theorem CtI.keep {w wr w' : World} {cs : Array Value} {s : Value} {pre : List Fl} (h : CtI w wr cs s pre) (hb : Below wr.heap.size wr w') : CtI w w' cs s pre := ⟨h.out.keep hb, box_keep h.box hb, h.low.trans (hb.mono h.low.size)⟩
theorem CtI.same {w wr : World} {cs : Array Value} {s : Value} {pre : List Fl} {p : Int} {i : Nat} (h : CtI w wr cs s pre) : CtI w wr cs s (pre ++ [⟨p, i, 0⟩]) := ⟨by unfold OutI; rw [filt_zero]; exact h.out, h.box, h.low⟩
theorem CtI.step {w w2 w4 : World} {cs : Array Value} {s v : Value} {pre : List Fl} {e : TypeId} (h : CtI w w2 cs s pre) (G : Step w2 w4 v (w.heap.size + 1) e) (he : 63 ≠ e) : CtI w w4 cs s pre := by
  obtain ⟨⟨A1, c1, h1, h2⟩, h3, h4⟩ := h
  exact ⟨⟨A1, c1, h1, G.row h2 he⟩, G.low h3 (Nat.lt_succ_self _), G.below h4 (Nat.le_succ _) h4.size⟩
/-- One fault more. -/
theorem CtI.more {w wr w3 : World} {o : Obj} {cs : Array Value} {A1 A3 : Option Addr} {c1 c3 n : Nat} {pre : List Fl} {p y : Int} {i : Nat} (h : CtI w wr cs (.slice A1 n c1) pre) (hn : n = (filt pre).length) (hy : y ≠ 0)
    (hg : (wr.alloc o).grownBy w3 (Value.slice A1 n c1).ownBlock) (ho : w3.ownsRow (w.heap.size + 1) 63 3 (.slice A3 (n + 1) c3) (n + 1) ((filt pre).flatMap flc ++ [.int .u8 p, .int .i64 i, .int .i64 y])) :
    CtI w w3 cs (.slice A3 (n + 1) c3) (pre ++ [⟨p, i, y⟩]) ∧ Step wr w3 (.slice A1 n c1) (w.heap.size + 1) 63 := by
  obtain ⟨⟨A', c', h1, h2⟩, h3, h4⟩ := h
  have G := grown_step h2 hg
  subst hn
  refine ⟨⟨⟨A3, c3, ?_, ?_⟩, G.low h3 (Nat.lt_succ_self _), G.below h4 (Nat.le_succ _) h4.size⟩, G⟩
  · rw [filt_more _ _ _ hy]; simp
  · rw [filt_more _ _ _ hy, flc_snoc, List.length_append]
    exact ho
set_option maxHeartbeats 16000000 in
set_option maxRecDepth 100000 in
theorem all27_any (mn mx sw : Int) (ts : List Tk) (ls : List Ln) (hs : List Th) (A : Option Addr) (ca : Nat) (B : Option Addr) (cb : Nat) (D : Option Addr) (cd : Nat) (w : World)
    (hlt : ts.length ≤ 1048576) (hll : ls.length ≤ 1048576) (hlh : hs.length ≤ 1048576)
    (ht : Rd w A (ts.flatMap tkc)) (hl : Rd w B (ls.flatMap lnc)) (hh : Rd w D (hs.flatMap thc)) (hmx : I64 mx) :
    Calls Tryz.prog 35 #[cfv mn mx sw A ts.length ca B ls.length cb D hs.length cd] w fun e w' => (∃ s, e = .returned s ∧ OutI w w' s (Cf.looks ⟨mn, mx, sw, ts, ls, hs⟩)) ∧ Below w.heap.size w w' := by
  have Ht := Lib.hid ht; have Hl := Lib.hid hl; have Hh := Lib.hid hh
  have c1 := Lib.hid (fun w => shot04_any mn mx hmx w)
  have c2 := Lib.hid (fun w => from27_any sw 0 1099511627776 w)
  have c3 := Lib.hid (fun w => from27_any ts.length 1 32 w)
  have HY1 : Hid (∀ z, tmWhy mn mx = z → z = 0 ∨ z = 2) := Lib.hid (by intro z hz; unfold tmWhy at hz; split at hz <;> omega)
  have HY2 : Hid (chWhy sw = if inB sw 0 1099511627776 then 0 else 1) := Lib.hid rfl
  have i1 := Lib.hid (inB_true (n := ts.length) (lo := 1) (hi := 32))
  have i2 := Lib.hid (inB_false (n := ts.length) (lo := 1) (hi := 32))
  have HL : Hid (Cf.looks ⟨mn, mx, sw, ts, ls, hs⟩ = ([⟨1, 0, tmWhy mn mx⟩] ++ [⟨2, 0, chWhy sw⟩] ++ [⟨3, 0, mnWhy ts.length ls.length hs.length⟩]) ++ (numb 4 0 (ts.map fun t => tkWhy t sw) ++ (numb 5 0 (ls.map lnWhy) ++ (numb 6 0 (hs.map thWhy) ++ numb 7 0 (prWhys [] (ts.map (·.prio) ++ hs.map (·.prio))))))) := Lib.hid rfl
  clear ht hl hh hmx
  generalize Cf.looks ⟨mn, mx, sw, ts, ls, hs⟩ = looks at *
  generalize hy1 : tmWhy mn mx = y1 at *
  have HZ1 := HY1.out y1 rfl
  clear hy1 HY1
  generalize hy2 : chWhy sw = y2 at *
  generalize hb2 : inB sw 0 1099511627776 = b2 at *
  clear hy2 hb2
  unfold cfv
  go_enter Tryz.func35, Tryz.ntmps35
  have HZ3 : Hid (mnWhy ts.length ls.length hs.length = if 1 ≤ ts.length ∧ ts.length ≤ 32 ∧ ls.length ≤ 64 ∧ hs.length = ls.length then 0 else 1) := Lib.hid rfl
  have HY3 : Hid (mnWhy ts.length ls.length hs.length = 0 ∨ mnWhy ts.length ls.length hs.length = 1) := Lib.hid (by unfold mnWhy; split <;> simp)
  generalize mnWhy ts.length ls.length hs.length = y3 at *
  go_upto_region 1 with fail
  go_cut [3] (fun s wx => CtI w wx #[.int .i64 mn, .int .i64 mx, .int .i64 sw, .slice A ts.length ca, .slice B ls.length cb, .slice D hs.length cd] s [])
  case first =>
    go_wp2
    go_meet
    exact ⟨⟨none, 0, rfl, own_nilK _ _ _ _⟩, heap_alloc_new w _, (Below.refl _ _).alloc (Nat.le_refl _) _⟩
  case rest =>
  obtain ⟨Aq, cq, hs3, _⟩ := hcut.out
  subst hs3
  have HC := Lib.hid hcut
  clear hcut
  obtain ⟨kx, ky⟩ := box_rules HC.out.box
  have lw := box_lt HC.out.box
  go_upto_if 23 with (go_at_call 51; refine (c1.out _).mono ?_; rintro e w1 ⟨rfl, hb⟩; have HC1 := Lib.hid (HC.out.keep hb); clear hb)
  clear HC kx ky
  have HC := HC1; clear HC1
  go_cut [3] (fun s wx => CtI w wx #[.int .i64 mn, .int .i64 mx, .int .i64 sw, .slice A ts.length ca, .slice B ls.length cb, .slice D hs.length cd] s ([] ++ [⟨1, 0, y1⟩]))
  case first =>
    rcases HZ1 with rfl | rfl
    · go_wp2_with fail
      go_meet
      exact HC.out.same
    · obtain ⟨Az, cz, hz, hoz⟩ := HC.out.out
      have HOz := Lib.hid hoz
      have Hlz := Lib.hid HC.out.low.size
      have Hpz := Lib.hid hz
      clear hz hoz
      go_wp2_with (at_builtin; go_loud (refine wp_appK rfl _ _ sl_fault (by decide) rfl (own_allocK HOz.out _) rfl (Nat.le_trans (filt_len _) (by simp)) (by have := Hlz.out; simp; omega) w1.heap.size [.int .u8 1, .int .i64 0, .int .i64 2] rfl rfl (fun j u hu => new_cell hu) rfl ?_); intro A3 c3 w3 ho3 hg3 _; have HM3 := Lib.hid (HC.out.more rfl (by decide) hg3 ho3); clear ho3 hg3)
      go_meet
      exact HM3.out.1
  case rest =>
  clear HC
  obtain ⟨Aq, cq, hs3, _⟩ := hcut.out
  subst hs3
  have HC := Lib.hid hcut
  clear hcut
  obtain ⟨kx, ky⟩ := box_rules HC.out.box
  have lw := box_lt HC.out.box
  go_upto_if 31 with (go_at_call 52; refine (c2.out _).mono ?_; rintro e w1 ⟨rfl, rfl⟩)
  go_cut [3] (fun s wx => CtI w wx #[.int .i64 mn, .int .i64 mx, .int .i64 sw, .slice A ts.length ca, .slice B ls.length cb, .slice D hs.length cd] s ([] ++ [⟨1, 0, y1⟩] ++ [⟨2, 0, y2⟩]))
  case first =>
    cases b2 with
    | true =>
      obtain rfl : y2 = 0 := HY2.out
      go_wp2_with fail
      go_meet
      exact HC.out.same
    | false =>
      obtain rfl : y2 = 1 := HY2.out
      obtain ⟨Az, cz, hz, hoz⟩ := HC.out.out
      have HOz := Lib.hid hoz
      have Hlz := Lib.hid HC.out.low.size
      have Hpz := Lib.hid hz
      clear hz hoz
      go_wp2_with (at_builtin; go_loud (refine wp_appK rfl _ _ sl_fault (by decide) rfl (own_allocK HOz.out _) rfl (Nat.le_trans (filt_len _) (by simp)) (by have := Hlz.out; simp; omega) wc.heap.size [.int .u8 2, .int .i64 0, .int .i64 1] rfl rfl (fun j u hu => new_cell hu) rfl ?_); intro A3 c3 w3 ho3 hg3 _; have HM3 := Lib.hid (HC.out.more rfl (by decide) hg3 ho3); clear ho3 hg3)
      go_meet
      exact HM3.out.1
  case rest =>
  clear HC kx ky
  obtain ⟨Aq, cq, hs3, _⟩ := hcut.out
  subst hs3
  have HC := Lib.hid hcut
  clear hcut
  obtain ⟨kx, ky⟩ := box_rules HC.out.box
  have lw := box_lt HC.out.box
  go_upto_region 6 with fail
  go_cut [55] (fun v wx => v = .bool (decide (y3 ≠ 0)) ∧ CtI w wx #[.int .i64 mn, .int .i64 mx, .int .i64 sw, .slice A ts.length ca, .slice B ls.length cb, .slice D hs.length cd] (.slice Aq (filt ([] ++ [⟨1, 0, y1⟩] ++ [⟨2, 0, y2⟩])).length cq) ([] ++ [⟨1, 0, y1⟩] ++ [⟨2, 0, y2⟩]))
  case first =>
    generalize filt ([] ++ [⟨1, 0, y1⟩] ++ [⟨2, 0, y2⟩]) = fl2 at *
    cases hbb : inB ts.length 1 32 with
    | false =>
      have hn := i2.out.1 hbb
      have hy3 : y3 = 1 := by rw [HZ3.out, if_neg (fun h => hn (by omega))]
      rw [hbb] at c3
      go_wp2_with (go_at_call 52; refine (c3.out _).mono ?_; rintro e w1 ⟨rfl, rfl⟩)
      go_meet
      exact ⟨by rw [hy3]; rfl, HC.out⟩
    | true =>
      have hn := i1.out.1 hbb
      rw [hbb] at c3
      by_cases h64 : 64 < ls.length
      · have hy3 : y3 = 1 := by rw [HZ3.out, if_neg (fun h => by omega)]
        have h64' : (64 : Int) < ls.length := by omega
        go_wp2_with (go_at_call 52; refine (c3.out _).mono ?_; rintro e w1 ⟨rfl, rfl⟩)
        go_meet
        exact ⟨by rw [hy3]; rfl, HC.out⟩
      · have h64' : ¬ (64 : Int) < ls.length := by omega
        by_cases hne : hs.length = ls.length
        · have hy3 : y3 = 0 := by rw [HZ3.out, if_pos (by omega)]
          have hne' : ((hs.length : Int) != (ls.length : Int)) = false := by simp [hne]
          clear hne
          go_wp2_with (go_at_call 52; refine (c3.out _).mono ?_; rintro e w1 ⟨rfl, rfl⟩)
          go_meet
          exact ⟨by rw [hy3]; simp; omega, HC.out⟩
        · have hy3 : y3 = 1 := by rw [HZ3.out, if_neg (fun h => hne h.2.2.2)]
          have hne' : ((hs.length : Int) != (ls.length : Int)) = true := by simp; omega
          go_wp2_with (go_at_call 52; refine (c3.out _).mono ?_; rintro e w1 ⟨rfl, rfl⟩)
          go_meet
          exact ⟨by rw [hy3]; rfl, HC.out⟩
  case rest =>
  clear HC kx ky lw HZ3 i1 i2 c1 c2 c3 HZ1 HY2
  obtain ⟨rfl, hc2⟩ := hcut
  have HC := Lib.hid hc2
  clear hc2
  obtain ⟨kx, ky⟩ := box_rules HC.out.box
  have lw := box_lt HC.out.box
  go_upto_if 55 with fail
  go_cut [3] (fun s wx => CtI w wx #[.int .i64 mn, .int .i64 mx, .int .i64 sw, .slice A ts.length ca, .slice B ls.length cb, .slice D hs.length cd] s ([⟨1, 0, y1⟩] ++ [⟨2, 0, y2⟩] ++ [⟨3, 0, y3⟩]))
  case first =>
    by_cases hy : y3 = 0
    · subst hy
      have hd : decide ((0 : Int) ≠ 0) = false := by decide
      go_wp2_with fail
      go_meet
      exact HC.out.same
    · have hd : decide (y3 ≠ 0) = true := by simpa using hy
      have hy31 : y3 = 1 := HY3.out.resolve_left hy
      subst hy31
      obtain ⟨Az, cz, hz, hoz⟩ := HC.out.out
      have HOz := Lib.hid hoz
      have Hlz := Lib.hid HC.out.low.size
      have Hpz := Lib.hid hz
      clear hz hoz
      go_wp2_with (at_builtin; go_loud (refine wp_appK rfl _ _ sl_fault (by decide) rfl (own_allocK HOz.out _) rfl (Nat.le_trans (filt_len _) (by simp)) (by have := Hlz.out; simp; omega) wc.heap.size [.int .u8 3, .int .i64 0, .int .i64 1] rfl rfl (fun j u hu => new_cell hu) rfl ?_); intro A3 c3 w3 ho3 hg3 _; have HM3 := Lib.hid (HC.out.more rfl (by decide) hg3 ho3); clear ho3 hg3)
      go_meet
      exact HM3.out.1
  case rest =>
  clear HC kx ky HY3
  obtain ⟨Aq, cq, hs3, _⟩ := hcut.out
  subst hs3
  have HC := Lib.hid hcut
  clear hcut lw
  obtain ⟨kx, ky⟩ := box_rules HC.out.box
  have HP1 : Hid (([⟨1, 0, y1⟩] ++ [⟨2, 0, y2⟩] ++ [⟨3, 0, y3⟩] : List Fl).length = 3) := Lib.hid rfl
  generalize ([⟨1, 0, y1⟩] ++ [⟨2, 0, y2⟩] ++ [⟨3, 0, y3⟩] : List Fl) = P1 at *
  generalize hs2 : numb 4 0 (ts.map fun t => tkWhy t sw) = seg2 at *
  have HS2 : Hid (∀ k, k < ts.length → seg2.take (k + 1) = seg2.take k ++ [⟨4, k, tkWhy (ts.getD k tk0) sw⟩]) := Lib.hid (fun k hk => by rw [← hs2]; exact seg_take 4 (fun t => tkWhy t sw) ts tk0 hk)
  have HN2 : Hid (seg2.length = ts.length) := Lib.hid (by rw [← hs2]; exact seg_len _ _ _)
  generalize hall : ts.map (·.prio) ++ hs.map (·.prio) = all at *
  have Hall := Lib.hid hall
  have Hlen : Hid (all.length = ts.length + hs.length) := Lib.hid (by rw [← hall]; simp)
  clear hs2 hall
  go_wp2
  go_loopw [3, 4, 63] (fun s3 s4 i wr => ∃ (k : Nat) (A2 : Option Addr) (c2 : Nat), k ≤ ts.length ∧ i = .int .i64 k ∧ s4 = .slice A2 k c2 ∧ CtI w wr #[.int .i64 mn, .int .i64 mx, .int .i64 sw, .slice A ts.length ca, .slice B ls.length cb, .slice D hs.length cd] s3 (P1 ++ seg2.take k) ∧
    wr.ownsRow (w.heap.size + 1) 3 1 (.slice A2 k c2) k ((all.take k).map (.int .i64))) (fun _ _ i _ => ts.length - (intOf i).toNat)
  case atStart => exact ⟨0, none, 0, by omega, rfl, rfl, by rw [List.take_zero, List.append_nil]; exact HC.out, own_nilK _ _ _ _⟩
  case round =>
    clear HC kx ky
    obtain ⟨k, A2, c2, hk, rfl, rfl, hc, ho2⟩ := hrel
    obtain ⟨A1, c1, hsq, _⟩ := hc.out
    obtain ⟨n1, hn1⟩ : ∃ n1, n1 = (filt (P1 ++ seg2.take k)).length := ⟨_, rfl⟩
    rw [← hn1] at hsq
    subst hsq
    have HF : Hid (n1 ≤ 1099511627775) := Lib.hid (by rw [hn1]; exact Nat.le_trans (filt_len _) (by rw [List.length_append, HP1.out, List.length_take, HN2.out]; omega))
    have Hn1 := Lib.hid hn1
    clear hn1
    by_cases hlt' : k < ts.length
    · obtain ⟨a, x, rfl, hx, ⟨g0, g1, g2, g3⟩, g4, g5, g6, g7, g8, g9⟩ := (Ht.out.below hc.low).tkAt hlt'
      have HS := Lib.hid (HS2.out k hlt')
      rw [hx] at HS
      have hq : all.getD k 0 = x.prio := by
        rw [← Hall.out, ← hx]
        simp [List.getD, hlt', List.getElem?_append_left]
      have Hq := Lib.hid hq
      clear hx hq
      have fT := Lib.hid (fun w => task27_any x sw w)
      unfold tkv at fT
      generalize tkWhy x sw = y at *
      obtain ⟨x0, x1, x2, x3, x4, x5, x6, x7, x8, x9⟩ := x
      dsimp only at g0 g1 g2 g3 g4 g5 g6 g7 g8 g9 fT Hq
      have HE : Hid ((all.take (k + 1)).map (Value.int .i64) = (all.take k).map (.int .i64) ++ [.int .i64 x1]) := Lib.hid (by
        have hka : k < all.length := by have := Hlen.out; omega
        rw [List.take_succ_eq_append_getElem hka, List.map_append]
        have e : all[k] = x1 := by
          have := Hq.out
          simpa [List.getD, hka] using this
        rw [e]; rfl)
      clear Hq
      have HC := Lib.hid hc; have HO2 := Lib.hid ho2
      clear hc ho2
      obtain ⟨kx, ky⟩ := box_rules HC.out.box
      have lw := box_lt HC.out.box
      go_wp2_with fail
      refine (fT.out _).mono ?_
      rintro e w2 ⟨rfl, hb⟩
      have HX := Lib.hid (box_new hb)
      have hb0 := (Below.refl wr.heap.size wr).alloc (Nat.le_refl _) (.cells #[.int .u8 x0, .int .i64 x1, .int .i64 x2, .int .i64 x3, .int .i64 x4, .int .i64 x5, .int .i64 x6, .int .i64 x7, .int .i64 x8, .int .i64 x9] 43)
      have HC2 := Lib.hid ((HC.out.keep hb0).keep hb)
      have HO3 := Lib.hid (own_belowK (own_belowK HO2.out hb0) hb)
      clear hb hb0 HC HO2 kx ky lw g0 g1 g2 g3 g4 g5 g6 g7 g8 g9
      obtain ⟨hx, hy⟩ := box_rules HX.out
      have lx := box_lt HX.out
      have Hlz := Lib.hid HC2.out.low.size
      by_cases hy0 : y = 0
      · subst hy0
        go_wp2_with (at_builtin; go_loud (refine wp_app1g rfl _ _ sl_int (by decide) rfl (own_allocK HO3.out _) rfl (by omega) (by have := Hlz.out; simp; omega) _ (.int .i64 x1) rfl (by go_simp) rfl ?_); intro A4 c4 w4 ho4 hg4 _; have HG4 := Lib.hid (grown_step HO3.out hg4); have HO4 := Lib.hid ho4; clear ho4 hg4)
        go_roundw
        case rel =>
          refine ⟨k + 1, A4, c4, by omega, by go_num, rfl, ?_, by rw [HE.out]; exact HO4.out⟩
          rw [HS.out, ← List.append_assoc]
          exact (HC2.out.step HG4.out (by decide)).same
        case measure => simp [intOf]; omega
      · have hy1 : (y != 0) = true := by simpa using hy0
        obtain ⟨Az, cz, hz, hoz⟩ := HC2.out.out
        rw [← Hn1.out] at hoz
        have HOz := Lib.hid hoz
        clear hz hoz
        go_wp2_with (at_builtin; first | (refine wp_appK rfl _ _ sl_fault (by decide) rfl (own_allocK HOz.out _) rfl HF.out (by have := Hlz.out; simp; omega) w2.heap.size [.int .u8 4, .int .i64 k, .int .i64 y] rfl rfl (fun j u hu => new_cell hu) rfl ?_; intro A3 c3 w3 ho3 hg3 _; have HM3 := Lib.hid (HC2.out.more Hn1.out hy0 hg3 ho3); have HX3 := Lib.hid (HM3.out.2.other HX.out (by decide)); have HO5 := Lib.hid (HM3.out.2.row HO3.out (by decide)); have s3 := HM3.out.2.size; clear ho3 hg3; obtain ⟨hx3, hy3⟩ := box_rules HX3.out) | (refine wp_app1g rfl _ _ sl_int (by decide) rfl (own_allocK HO5.out _) rfl (by omega) (by have := Hlz.out; simp; omega) _ (.int .i64 x1) rfl (by go_simp) rfl ?_; intro A4 c4 w4 ho4 hg4 _; have HG4 := Lib.hid (grown_step HO5.out hg4); have HO4 := Lib.hid ho4; clear ho4 hg4))
        go_roundw
        case rel =>
          refine ⟨k + 1, A4, c4, by omega, by go_num, rfl, ?_, by rw [HE.out]; exact HO4.out⟩
          rw [HS.out, ← List.append_assoc]
          exact HM3.out.1.step HG4.out (by decide)
        case measure => simp [intOf]; omega
    · obtain rfl : k = ts.length := by omega
      rw [List.take_of_length_le (by rw [HN2.out]; omega)] at hc
      have HC := Lib.hid hc; have HO2 := Lib.hid ho2
      clear hc ho2 HF
      obtain ⟨kx, ky⟩ := box_rules HC.out.box
      have HL3 : Hid (looks = (P1 ++ seg2) ++ (numb 5 0 (ls.map lnWhy) ++ (numb 6 0 (hs.map thWhy) ++ numb 7 0 (prWhys [] all)))) := Lib.hid (by rw [HL.out, List.append_assoc])
      have HP3 : Hid ((P1 ++ seg2).length = 3 + ts.length) := Lib.hid (by rw [List.length_append, HP1.out, HN2.out])
      generalize P1 ++ seg2 = P3 at *
      generalize hs3 : numb 5 0 (ls.map lnWhy) = seg3 at *
      have HS3 : Hid (∀ k, k < ls.length → seg3.take (k + 1) = seg3.take k ++ [⟨5, k, lnWhy (ls.getD k ⟨0, 0, 0, 0⟩)⟩]) := Lib.hid (fun k hk => by rw [← hs3]; exact seg_take 5 lnWhy ls ⟨0, 0, 0, 0⟩ hk)
      have HN3 : Hid (seg3.length = ls.length) := Lib.hid (by rw [← hs3]; exact seg_len _ _ _)
      clear hs3 HL HS2 HN2 HP1
      go_wp2
      go_loopw [3, 89] (fun s3 i wr => ∃ k : Nat, k ≤ ls.length ∧ i = .int .i64 k ∧ CtI w wr #[.int .i64 mn, .int .i64 mx, .int .i64 sw, .slice A ts.length ca, .slice B ls.length cb, .slice D hs.length cd] s3 (P3 ++ seg3.take k) ∧
        wr.ownsRow (w.heap.size + 1) 3 1 (.slice A2 ts.length c2) ts.length ((all.take ts.length).map (.int .i64))) (fun _ i _ => ls.length - (intOf i).toNat)
      case atStart => exact ⟨0, by omega, rfl, by rw [List.take_zero, List.append_nil]; exact HC.out, HO2.out⟩
      case round =>
        clear HC kx ky HO2
        obtain ⟨k, hk, rfl, hc, ho2⟩ := hrel
        obtain ⟨A1, c1, hsq, _⟩ := hc.out
        obtain ⟨n1, hn1⟩ : ∃ n1, n1 = (filt (P3 ++ seg3.take k)).length := ⟨_, rfl⟩
        rw [← hn1] at hsq
        subst hsq
        have HF : Hid (n1 ≤ 1099511627775) := Lib.hid (by rw [hn1]; exact Nat.le_trans (filt_len _) (by rw [List.length_append, HP3.out, List.length_take, HN3.out]; omega))
        have Hn1 := Lib.hid hn1
        clear hn1
        by_cases hlt' : k < ls.length
        · obtain ⟨a, x, rfl, hx, g0, g1, g2, g3⟩ := (Hl.out.below hc.low).lnAt hlt'
          have HS := Lib.hid (HS3.out k hlt')
          rw [hx] at HS
          clear hx
          have fT := Lib.hid (fun w => line27_any x w)
          unfold lnv at fT
          generalize lnWhy x = y at *
          obtain ⟨x0, x1, x2, x3⟩ := x
          dsimp only at g0 g1 g2 g3 fT
          have HC := Lib.hid hc; have HO2 := Lib.hid ho2
          clear hc ho2
          obtain ⟨kx, ky⟩ := box_rules HC.out.box
          have lw := box_lt HC.out.box
          go_wp2_with fail
          refine (fT.out _).mono ?_
          rintro e w2 ⟨rfl, hb⟩
          have hb0 := (Below.refl wr.heap.size wr).alloc (Nat.le_refl _) (.cells #[.int .i64 x0, .int .i64 x1, .int .i64 x2, .int .i64 x3] 58)
          have HC2 := Lib.hid ((HC.out.keep hb0).keep hb)
          have HO3 := Lib.hid (own_belowK (own_belowK HO2.out hb0) hb)
          clear hb hb0 HC HO2 kx ky lw g0 g1 g2 g3
          have Hlz := Lib.hid HC2.out.low.size
          by_cases hy0 : y = 0
          · subst hy0
            go_wp2
            refine ⟨⟨k + 1, by omega, by go_num, ?_, HO3.out⟩, by simp [intOf]; omega⟩
            rw [HS.out, ← List.append_assoc]
            exact HC2.out.same
          · have hy1 : (y != 0) = true := by simpa using hy0
            obtain ⟨Az, cz, hz, hoz⟩ := HC2.out.out
            rw [← Hn1.out] at hoz
            have HOz := Lib.hid hoz
            clear hz hoz
            go_wp2_with (at_builtin; go_loud (refine wp_appK rfl _ _ sl_fault (by decide) rfl (own_allocK HOz.out _) rfl HF.out (by have := Hlz.out; simp; omega) w2.heap.size [.int .u8 5, .int .i64 k, .int .i64 y] rfl rfl (fun j u hu => new_cell hu) rfl ?_); intro A3 c3 w3 ho3 hg3 _; have HM3 := Lib.hid (HC2.out.more Hn1.out hy0 hg3 ho3); have HO5 := Lib.hid (HM3.out.2.row HO3.out (by decide)); clear ho3 hg3)
            refine ⟨⟨k + 1, by omega, by go_num, ?_, HO5.out⟩, by simp [intOf]; omega⟩
            rw [HS.out, ← List.append_assoc]
            exact HM3.out.1
        · obtain rfl : k = ls.length := by omega
          rw [List.take_of_length_le (by rw [HN3.out]; omega)] at hc
          have HC := Lib.hid hc; have HO2 := Lib.hid ho2
          clear hc ho2 HF
          obtain ⟨kx, ky⟩ := box_rules HC.out.box
          have HL4 : Hid (looks = (P3 ++ seg3) ++ (numb 6 0 (hs.map thWhy) ++ numb 7 0 (prWhys [] all))) := Lib.hid (by rw [HL3.out, List.append_assoc])
          have HP4 : Hid ((P3 ++ seg3).length = 3 + ts.length + ls.length) := Lib.hid (by rw [List.length_append, HP3.out, HN3.out])
          generalize P3 ++ seg3 = P4 at *
          generalize hs4 : numb 6 0 (hs.map thWhy) = seg4 at *
          have HS4 : Hid (∀ k, k < hs.length → seg4.take (k + 1) = seg4.take k ++ [⟨6, k, thWhy (hs.getD k ⟨0, 0, 0, 0⟩)⟩]) := Lib.hid (fun k hk => by rw [← hs4]; exact seg_take 6 thWhy hs ⟨0, 0, 0, 0⟩ hk)
          have HN4 : Hid (seg4.length = hs.length) := Lib.hid (by rw [← hs4]; exact seg_len _ _ _)
          clear hs4 HL3 HS3 HN3 HP3
          go_wp2
          go_loopw [3, 4, 108] (fun s3 s4 i wr => ∃ (k : Nat) (A2 : Option Addr) (c2 : Nat), k ≤ hs.length ∧ i = .int .i64 k ∧ s4 = .slice A2 (ts.length + k) c2 ∧ CtI w wr #[.int .i64 mn, .int .i64 mx, .int .i64 sw, .slice A ts.length ca, .slice B ls.length cb, .slice D hs.length cd] s3 (P4 ++ seg4.take k) ∧
            wr.ownsRow (w.heap.size + 1) 3 1 (.slice A2 (ts.length + k) c2) (ts.length + k) ((all.take (ts.length + k)).map (.int .i64))) (fun _ _ i _ => hs.length - (intOf i).toNat)
          case atStart => exact ⟨0, A2, c2, by omega, rfl, rfl, by rw [List.take_zero, List.append_nil]; exact HC.out, HO2.out⟩
          case round =>
            clear HC kx ky HO2
            obtain ⟨k, A2, c2, hk, rfl, rfl, hc, ho2⟩ := hrel
            obtain ⟨A1, c1, hsq, _⟩ := hc.out
            obtain ⟨n1, hn1⟩ : ∃ n1, n1 = (filt (P4 ++ seg4.take k)).length := ⟨_, rfl⟩
            rw [← hn1] at hsq
            subst hsq
            have HF : Hid (n1 ≤ 1099511627775) := Lib.hid (by rw [hn1]; exact Nat.le_trans (filt_len _) (by rw [List.length_append, HP4.out, List.length_take, HN4.out]; omega))
            have Hn1 := Lib.hid hn1
            clear hn1
            by_cases hlt' : k < hs.length
            · obtain ⟨a, x, rfl, hx, g0, g1, g2, g3⟩ := (Hh.out.below hc.low).thAt hlt'
              have HS := Lib.hid (HS4.out k hlt')
              rw [hx] at HS
              have hq : all.getD (ts.length + k) 0 = x.prio := by
                rw [← Hall.out, ← hx]
                simp [List.getD, hlt']
              have Hq := Lib.hid hq
              clear hx hq
              have fT : Hid (∀ A c w, Rd w A (thc x) → Calls Tryz.prog 55 #[.slice A 1 c] w (Ret18 (thOk x) w)) := Lib.hid (fun A c w hr => by
                have h := new18_any [x] (by simp) A c w (by simpa using hr)
                rwa [botOk_one] at h)
              have HT : Hid (thWhy x = if thOk x then 0 else 1) := Lib.hid rfl
              generalize thWhy x = y at *
              generalize thOk x = b at *
              obtain ⟨x0, x1, x2, x3⟩ := x
              unfold thc Ret18 at fT
              dsimp only at g0 g1 g2 g3 fT Hq
              have HE : Hid ((all.take (ts.length + (k + 1))).map (Value.int .i64) = (all.take (ts.length + k)).map (.int .i64) ++ [.int .i64 x0]) := Lib.hid (by
                have hka : ts.length + k < all.length := by have := Hlen.out; omega
                rw [← Nat.add_assoc, List.take_succ_eq_append_getElem hka, List.map_append]
                have e : all[ts.length + k] = x0 := by
                  have := Hq.out
                  simpa [List.getD, hka] using this
                rw [e]; rfl)
              clear Hq
              have HC := Lib.hid hc; have HO2 := Lib.hid ho2
              clear hc ho2
              obtain ⟨kx, ky⟩ := box_rules HC.out.box
              have lw := box_lt HC.out.box
              go_wp2_with fail
              refine (fT.out _ _ _ ?_).mono ?_
              · intro j u hu
                exact ⟨_, rfl, by rw [add_zero_lit, Nat.zero_add]; exact new_cell2 hu⟩
              rintro e w2 ⟨⟨B0, m0, d0, B1, m1, d1, B2, m2, d2, rfl⟩, hb⟩
              have HX := Lib.hid (box_alloc (box_keep (box_alloc (heap_alloc_new wr (.cells #[.int .i64 x0, .int .i64 x1, .int .i64 x2, .int .i64 x3] 60)) _) hb) (.cells #[.slice B0 m0 d0, .slice B1 m1 d1, .slice B2 m2 d2] 102))
              have hb0 := (Below.refl wr.heap.size wr).alloc (Nat.le_refl _) (.cells #[.int .i64 x0, .int .i64 x1, .int .i64 x2, .int .i64 x3] 60)
              have hb1 := (Below.refl (wr.alloc (.cells #[.int .i64 x0, .int .i64 x1, .int .i64 x2, .int .i64 x3] 60)).heap.size (wr.alloc (.cells #[.int .i64 x0, .int .i64 x1, .int .i64 x2, .int .i64 x3] 60))).alloc (Nat.le_refl _) (.cells #[.int .i64 x0, .int .i64 x1, .int .i64 x2, .int .i64 x3] 60)
              have hb2 := (Below.refl w2.heap.size w2).alloc (Nat.le_refl _) (.cells #[.slice B0 m0 d0, .slice B1 m1 d1, .slice B2 m2 d2] 102)
              have HC2 := Lib.hid ((((HC.out.keep hb0).keep hb1).keep hb).keep hb2)
              have HO3 := Lib.hid (own_belowK (own_belowK (own_belowK (own_belowK HO2.out hb0) hb1) hb) hb2)
              have sw2 := hb.size
              simp at sw2
              clear hb hb0 hb1 hb2 HC HO2 kx ky lw g0 g1 g2 g3
              obtain ⟨hx, hy⟩ := box_rules HX.out
              have lx : wr.heap.size < w2.heap.size := by omega
              have Hlz := Lib.hid HC2.out.low.size
              cases b with
              | true =>
                obtain rfl : y = 0 := HT.out
                go_wp2_with (at_builtin; go_loud (refine wp_app1g rfl _ _ sl_int (by decide) rfl (own_allocK HO3.out _) rfl (by omega) (by have := Hlz.out; simp at this ⊢; omega) _ (.int .i64 x0) rfl (by go_simp) rfl ?_); intro A4 c4 w4 ho4 hg4 _; have HG4 := Lib.hid (grown_step HO3.out hg4); have HO4 := Lib.hid ho4; clear ho4 hg4)
                refine ⟨⟨k + 1, A4, c4, by omega, by go_num, rfl, ?_, by rw [HE.out]; exact HO4.out⟩, by simp [intOf]; omega⟩
                rw [HS.out, ← List.append_assoc]
                exact (HC2.out.step HG4.out (by decide)).same
              | false =>
                obtain rfl : y = 1 := HT.out
                obtain ⟨Az, cz, hz, hoz⟩ := HC2.out.out
                rw [← Hn1.out] at hoz
                have HOz := Lib.hid hoz
                clear hz hoz
                go_wp2_with (at_builtin; first | (refine wp_appK rfl _ _ sl_fault (by decide) rfl (own_allocK HOz.out _) rfl HF.out (by have := Hlz.out; simp at this ⊢; omega) _ [.int .u8 6, .int .i64 k, .int .i64 1] rfl rfl (fun j u hu => new_cell2 hu) rfl ?_; intro A3 c3 w3 ho3 hg3 _; have HM3 := Lib.hid (HC2.out.more Hn1.out (by decide) hg3 ho3); have HX3 := Lib.hid (HM3.out.2.other HX.out (by decide)); have HO5 := Lib.hid (HM3.out.2.row HO3.out (by decide)); have s3 := HM3.out.2.size; simp at s3; clear ho3 hg3; obtain ⟨hx3, hy3⟩ := box_rules HX3.out) | (refine wp_app1g rfl _ _ sl_int (by decide) rfl (own_allocK HO5.out _) rfl (by omega) (by have := Hlz.out; simp at this ⊢; omega) _ (.int .i64 x0) rfl (by go_simp) rfl ?_; intro A4 c4 w4 ho4 hg4 _; have HG4 := Lib.hid (grown_step HO5.out hg4); have HO4 := Lib.hid ho4; clear ho4 hg4))
                refine ⟨⟨k + 1, A4, c4, by omega, by go_num, rfl, ?_, by rw [HE.out]; exact HO4.out⟩, by simp [intOf]; omega⟩
                rw [HS.out, ← List.append_assoc]
                exact HM3.out.1.step HG4.out (by decide)
            · obtain rfl : k = hs.length := by omega
              rw [List.take_of_length_le (by rw [HN4.out]; omega)] at hc
              have hT : all.take (ts.length + hs.length) = all := by rw [← Hlen.out, List.take_length]
              rw [hT] at ho2
              have HC := Lib.hid hc; have HO2 := Lib.hid ho2
              clear hc ho2 HF hT Hn1
              have HL5 : Hid (looks = (P4 ++ seg4) ++ numb 7 0 (prWhys [] all)) := Lib.hid (by rw [HL4.out, List.append_assoc])
              have HP5 : Hid ((P4 ++ seg4).length = 3 + ts.length + ls.length + hs.length) := Lib.hid (by rw [List.length_append, HP4.out, HN4.out])
              generalize P4 ++ seg4 = P5 at *
              clear HL4 HS4 HN4 HP4
              have hz0 : prL all 0 = [] := rfl
              go_wp2
              go_loopw [3, 134] (fun s3 i wr => ∃ k : Nat, k ≤ ts.length + hs.length ∧ i = .int .i64 k ∧ CtI w wr #[.int .i64 mn, .int .i64 mx, .int .i64 sw, .slice A ts.length ca, .slice B ls.length cb, .slice D hs.length cd] s3 (P5 ++ prL all k) ∧
                wr.ownsRow (w.heap.size + 1) 3 1 (.slice A2 (ts.length + hs.length) c2) (ts.length + hs.length) (all.map (.int .i64))) (fun _ i _ => ts.length + hs.length - (intOf i).toNat)
              case atStart => exact ⟨0, by omega, rfl, by rw [hz0, List.append_nil]; exact HC.out, HO2.out⟩
              case round =>
                clear HC HO2 hz0
                obtain ⟨k, hk, rfl, hc, ho2⟩ := hrel
                obtain ⟨A1, c1, hsq, _⟩ := hc.out
                obtain ⟨n1, hn1⟩ : ∃ n1, n1 = (filt (P5 ++ prL all k)).length := ⟨_, rfl⟩
                rw [← hn1] at hsq
                subst hsq
                have HF : Hid (n1 ≤ 1099511627775) := Lib.hid (by rw [hn1]; exact Nat.le_trans (filt_len _) (by rw [List.length_append, HP5.out, prL_len _ _ (by have := Hlen.out; omega)]; omega))
                have Hn1 := Lib.hid hn1
                clear hn1
                obtain ⟨Aw, cw, hw2, hnc, hcm, _, _⟩ := own_sliceK ho2
                obtain ⟨rfl, _, rfl⟩ : A2 = Aw ∧ True ∧ c2 = cw := by injection hw2 with h1 h2 h3; exact ⟨h1, trivial, h3⟩
                clear hw2
                have HC := Lib.hid hc; have HO2 := Lib.hid ho2
                clear hc ho2
                by_cases hlt' : k < ts.length + hs.length
                · have hka : k < all.length := by have := Hlen.out; omega
                  obtain ⟨a, rfl, h1⟩ := (own_rdK HO2.out).int hka
                  have HS := Lib.hid (prL_succ hka)
                  generalize hp : all.getD k 0 = p at *
                  have Hp := Lib.hid hp
                  clear hp
                  go_wp2_with fail
                  go_loop [17, 143] (fun v i => ∃ m : Nat, m ≤ k ∧ i = .int .i64 m ∧ v = .bool (decide (p ∈ all.take m))) (fun _ i => k - (intOf i).toNat)
                  case atStart => exact ⟨0, by omega, rfl, by simp⟩
                  case round =>
                    obtain ⟨m, hmk, rfl, rfl⟩ := hrel
                    by_cases hm' : m < k
                    · have hma : m < all.length := by omega
                      obtain ⟨a', ha', h2⟩ := (own_rdK HO2.out).int hma
                      obtain rfl : a = a' := by injection ha'
                      have HM := Lib.hid (mem_take_succ (p := p) hma)
                      clear ha'
                      generalize all.getD m 0 = q at *
                      generalize hse : decide (p ∈ all.take m) = seen at *
                      have Hse := Lib.hid hse; clear hse
                      cases seen with
                      | true =>
                        go_wp2
                        refine ⟨⟨m + 1, by omega, by go_num, by rw [HM.out]; rfl⟩, by simp [intOf]; omega⟩
                      | false =>
                        go_wp2
                        refine ⟨⟨m + 1, by omega, by go_num, by rw [HM.out]; rfl⟩, by simp [intOf]; omega⟩
                    · obtain rfl : m = k := by omega
                      generalize hse : decide (p ∈ all.take m) = seen at *
                      have Hse := Lib.hid hse; clear hse
                      cases seen with
                      | true =>
                        have HS' : Hid (prL all (m + 1) = prL all m ++ [⟨7, m, 12⟩]) := Lib.hid (by rw [HS.out, if_pos (List.mem_reverse.2 (of_decide_eq_true Hse.out))])
                        obtain ⟨Az, cz, hz, hoz⟩ := HC.out.out
                        rw [← Hn1.out] at hoz
                        have HOz := Lib.hid hoz
                        have Hlz := Lib.hid HC.out.low.size
                        clear hz hoz
                        go_wp2_with (at_builtin; go_loud (refine wp_appK rfl _ _ sl_fault (by decide) rfl (own_allocK HOz.out _) rfl HF.out (by have := Hlz.out; simp; omega) wr.heap.size [.int .u8 7, .int .i64 m, .int .i64 12] rfl rfl (fun j u hu => new_cell hu) rfl ?_); intro A3 c3 w3 ho3 hg3 _; have HM3 := Lib.hid (HC.out.more Hn1.out (by decide) hg3 ho3); have HO5 := Lib.hid (HM3.out.2.row HO2.out (by decide)); clear ho3 hg3)
                        refine ⟨⟨m + 1, by omega, by go_num, ?_, HO5.out⟩, by simp [intOf]; omega⟩
                        rw [HS'.out, ← List.append_assoc]
                        exact HM3.out.1
                      | false =>
                        have HS' : Hid (prL all (m + 1) = prL all m ++ [⟨7, m, 0⟩]) := Lib.hid (by rw [HS.out, if_neg (fun h => of_decide_eq_false Hse.out (List.mem_reverse.1 h))])
                        go_wp2
                        refine ⟨⟨m + 1, by omega, by go_num, ?_, HO2.out⟩, by simp [intOf]; omega⟩
                        rw [HS'.out, ← List.append_assoc]
                        exact HC.out.same
                · obtain rfl : k = ts.length + hs.length := by omega
                  go_wp2
                  go_ret
                  refine ⟨⟨_, rfl, ?_⟩, HC.out.low⟩
                  rw [HL5.out, ← prL_all all, Hlen.out]
                  exact HC.out.out
end Go.Proofs.YtgampofpabllbaaGreat

/- Packages work and bottom: the walks of work.New and bottom.New. Conditions: lists that read. -/
import Derived.Test.YtgampofpabllbaaWorkV
import Derived.Test.YtgampofpabllbaaRound
import Derived.Deep.RegionLaw
namespace Go.Proofs.Ytgampofpabllbaa
open Go.RowKit Go.Shelf

theorem sl_queue : SlK Try.prog 118 122 3 40 := SlK.mk' (z := .agg #[.slice none 0 0, .int .i64 0, .int .i64 0]) Try.underlying118 (by kernel_rfl) rfl (by decide)
def dpOk (d : Int) : Bool := decide (1 ≤ d ∧ d ≤ 64)
theorem oddD_dpOk (p : Int) : oddD p = !dpOk p := by
  unfold oddD dpOk
  by_cases h1 : p < 1
  · have : ¬ (1 ≤ p ∧ p ≤ 64) := by omega
    simp [h1]
  · by_cases h2 : 64 < p
    · simp [h2]
    · have a : 1 ≤ p := by omega
      have b : p ≤ 64 := by omega
      simp [a, b, h1, h2]
/-- Why queues are not made. -/
def wkWhy (l : List Int) : Int := if decide (1 ≤ l.length) && decide (l.length ≤ 64) && l.all dpOk then 0 else 1
def RetP (y : Int) (w : World) (e : Ending) (w' : World) : Prop :=
  ∃ p : Option Addr, e = .returned (.tuple #[.pointer p, .int .i64 y]) ∧ (y = 0 → p ≠ none) ∧ Below w.heap.size w w'
theorem RetP.bad {w w' : World} {y : Int} (hy : y = 1) (hb : Below w.heap.size w w') : RetP y w (.returned (.tuple #[.pointer none, .int .i64 1])) w' := ⟨none, by rw [hy], fun h => by omega, hb⟩
theorem RetP.good {w w' : World} {y : Int} {p : Addr} (hy : y = 0) (hb : Below w.heap.size w w') : RetP y w (.returned (.tuple #[.pointer (some p), .int .i64 0])) w' := ⟨some p, by rw [hy], fun _ h => (by cases h), hb⟩

set_option maxHeartbeats 2000000 in
theorem work_new (l : List Int) (hl : l.length ≤ 1048576) (A : Option Addr) (c : Nat) (w : World) (hr : Rd w A (l.map (.int .i64))) :
    Calls Try.prog 20 #[.slice A l.length c] w (RetP (wkWhy l) w) := by
  by_cases h0 : l.length = 0
  · have hy : wkWhy l = 1 := by unfold wkWhy; simp [h0]
    have hn0 : ((l.length : Int) == 0) = true := beq_iff_eq.2 (by omega)
    clear h0
    go_enter Try.func20, Try.ntmps20
    go_wp2
    go_ret2
    exact RetP.bad hy (Below.refl _ _)
  · have hn0 : ((l.length : Int) == 0) = false := beq_eq_false_iff_ne.2 (by omega)
    by_cases h1 : 64 < l.length
    · have hy : wkWhy l = 1 := by unfold wkWhy; simp; omega
      have hn1 : (64 : Int) < l.length := by omega
      clear h0
      go_enter Try.func20, Try.ntmps20
      go_wp2
      go_ret2
      exact RetP.bad hy (Below.refl _ _)
    · have hn1 : ¬ (64 : Int) < l.length := by omega
      by_cases h2 : l.all dpOk = true
      · have hy := Lib.hid (show wkWhy l = 0 by unfold wkWhy; rw [if_pos]; simp only [h2, Bool.and_true, Bool.and_eq_true, decide_eq_true_eq]; omega)
        have f1 := Lib.hid (fun w hr => containsOddD_yes A l c w (by omega) hr false (.inr ⟨rfl, fun i hi => by
          rw [oddD_dpOk]
          have := List.all_eq_true.1 h2 _ (List.getElem_mem hi)
          simpa [List.getD, hi] using this⟩))
        have Hr := Lib.hid hr
        clear hr h2
        go_enter Try.func20, Try.ntmps20
        go_wp2_with (refine (f1.out _ Hr.out).mono ?_; rintro e w' ⟨rfl, rfl⟩)
        go_loopw [25] (fun i wr => ∃ (k : Nat) (A1 : Option Addr) (c1 : Nat) (rows : List Value), k ≤ l.length ∧ i = .int .i64 k ∧
          wr.heap[w.heap.size]? = some (.cells #[.slice A1 k c1] 120 (0, 0)) ∧ wr.ownsRow (w.heap.size + 1) 122 3 (.slice A1 k c1) k rows ∧ Below w.heap.size w wr) (fun i _ => l.length - (intOf i).toNat)
        case atStart => exact ⟨0, none, 0, [], by omega, rfl, heap_alloc_new w _, own_nilK _ _ _ _, (Below.refl _ _).alloc (Nat.le_refl _) _⟩
        case round =>
          obtain ⟨k, A1, c1, rows, hk, rfl, hq, ho1, hB⟩ := hrel
          have HQ := Lib.hid hq; have HO1 := Lib.hid ho1; have HB := Lib.hid hB
          have lq := box_lt HQ.out
          obtain ⟨hqx, hqy⟩ := box_rules HQ.out
          clear hq ho1 hB
          by_cases hlt : k < l.length
          · obtain ⟨a, rfl, h1⟩ := (Hr.out.below HB.out).int hlt
            generalize hx : l.getD k 0 = x at *
            clear hx
            have Hlen := Lib.hid HB.out.size
            go_wp2_with (at_builtin; refine wp_appK rfl _ _ sl_queue (by decide) rfl (own_allocK HO1.out _) rfl (by omega) (by simp; omega) wr.heap.size [.slice none 0 0, .int .i64 x, .int .i64 0] rfl rfl (fun j u hu => new_cell hu) rfl ?_; intro A3 c3 w3 ho3 hg3 _; have G3 := Lib.hid (grown_step HO1.out hg3); have HQ3 := Lib.hid (G3.out.low HQ.out (Nat.lt_succ_self _)); have HO3 := Lib.hid ho3; clear ho3 hg3; obtain ⟨hqx3, hqy3⟩ := box_rules HQ3.out)
            go_roundw
            case rel =>
              exact ⟨k + 1, A3, c3, _, by omega, by go_num, box_set HQ3.out _, own_setK HO3.out (own_low HO3.out (Nat.lt_succ_self _)) _, (G3.out.below HB.out (Nat.le_succ _) Hlen.out).setCell (p := ⟨w.heap.size, 0, none⟩) (Nat.le_refl _) _⟩
            case measure => simp [intOf]; omega
          · obtain rfl : k = l.length := by omega
            go_wp2
            go_ret2
            exact RetP.good hy.out HB.out
      · have hy := Lib.hid (show wkWhy l = 1 by unfold wkWhy; rw [if_neg]; simp only [Bool.and_eq_true]; exact fun x => h2 x.2)
        have f1 := Lib.hid (fun w hr => containsOddD_yes A l c w (by omega) hr true (.inl ⟨rfl, by
          have h2' : l.all dpOk = false := by simpa using h2
          rw [List.all_eq_false] at h2'
          obtain ⟨x, hx, hd⟩ := h2'
          obtain ⟨i, hi, rfl⟩ := List.getElem_of_mem hx
          refine ⟨i, hi, ?_⟩
          rw [oddD_dpOk]
          simpa [List.getD, hi] using hd⟩))
        have Hr := Lib.hid hr
        clear hr h2
        go_enter Try.func20, Try.ntmps20
        go_wp2_with (refine (f1.out _ Hr.out).mono ?_; rintro e w' ⟨rfl, rfl⟩)
        go_ret2
        exact RetP.bad hy.out (Below.refl _ _)

theorem sl_thread : SlK Try.prog 85 93 5 40 := SlK.mk' (z := .agg #[.int .i64 0, .int .i64 0, .int .i64 0, .int .i64 0, .pointer none]) Try.underlying85 (by kernel_rfl) rfl (by decide)
theorem Rd.thAt {w : World} {A : Option Addr} {ls : List Th} (h : Rd w A (ls.flatMap thc)) {k : Nat} (hk : k < ls.length) : ∃ a x, A = some a ∧ ls.getD k ⟨0, 0, 0, 0⟩ = x ∧
    w.cell? (a.add (k * 4)) = some (.int .i64 x.prio) ∧ w.cell? ⟨(a.add (k * 4)).block, (a.add (k * 4)).off + 1, none⟩ = some (.int .i64 x.budget) ∧
    w.cell? ⟨(a.add (k * 4)).block, (a.add (k * 4)).off + 2, none⟩ = some (.int .i64 x.period) ∧ w.cell? ⟨(a.add (k * 4)).block, (a.add (k * 4)).off + 3, none⟩ = some (.int .i64 x.depth) := by
  have g := flatMap_get (f := thc) (k := 4) (fun _ => rfl) ⟨0, 0, 0, 0⟩ ls k hk
  generalize ls.getD k ⟨0, 0, 0, 0⟩ = x at *
  obtain ⟨a, rfl, h0⟩ := h _ _ (g 0 (by omega))
  obtain ⟨_, ha1, h1⟩ := h _ _ (g 1 (by omega)); cases ha1
  obtain ⟨_, ha1, h2⟩ := h _ _ (g 2 (by omega)); cases ha1
  obtain ⟨_, ha1, h3⟩ := h _ _ (g 3 (by omega)); cases ha1
  rw [add_plus _ _ _ (by omega)] at h1 h2 h3
  exact ⟨a, x, rfl, rfl, h0, h1, h2, h3⟩
def thMade (x : Th) : Bool := svOk x.budget x.period && decide (0 ≤ x.prio ∧ x.prio ≤ 63)
def thDepths (hs : List Th) (k : Nat) : List Value := (hs.take k).map fun x => .int .i64 x.depth
theorem thDepths_succ {hs : List Th} {k : Nat} (h : k < hs.length) : thDepths hs (k + 1) = thDepths hs k ++ [.int .i64 (hs.getD k ⟨0, 0, 0, 0⟩).depth] := by
  unfold thDepths
  rw [List.take_succ_eq_append_getElem h, List.map_append]
  simp [List.getD, h]
/-- Why threads are not made. -/
def botWhy (hs : List Th) : Int := if hs.all thMade && hs.all (fun x => dpOk x.depth) && decide (hs.length ≤ 64) then 0 else 1
theorem bot_bad {hs : List Th} {k : Nat} (hk : k < hs.length) (h : thMade (hs.getD k ⟨0, 0, 0, 0⟩) = false) : botWhy hs = 1 := by
  unfold botWhy
  have : hs.all thMade = false := by
    rw [List.all_eq_false]
    refine ⟨_, List.getElem_mem hk, ?_⟩
    simp [List.getD, hk] at h
    simp [h]
  simp [this]
theorem wkWhy_or (l : List Int) : wkWhy l = 0 ∨ wkWhy l = 1 := by unfold wkWhy; split <;> simp
theorem bot_why {hs : List Th} (hm : ∀ j, j < hs.length → thMade (hs.getD j ⟨0, 0, 0, 0⟩) = true) (h1 : 1 ≤ hs.length) : botWhy hs = wkWhy (hs.map (·.depth)) := by
  have e1 : hs.all thMade = true := by
    rw [List.all_eq_true]
    intro x hx
    obtain ⟨i, hi, rfl⟩ := List.getElem_of_mem hx
    simpa [List.getD, hi] using hm i hi
  have e2 : decide (1 ≤ hs.length) = true := by simpa using h1
  have e3 : (hs.map (·.depth)).all dpOk = hs.all (fun x => dpOk x.depth) := by rw [List.all_map]; rfl
  unfold botWhy wkWhy
  rw [e1, e3, List.length_map, e2, Bool.true_and, Bool.true_and, Bool.and_comm]
set_option maxHeartbeats 2000000 in
set_option maxRecDepth 100000 in
theorem bottom_new (hs : List Th) (hl : hs.length ≤ 1048576) (A : Option Addr) (c : Nat) (w : World) (hr : Rd w A (hs.flatMap thc)) :
    Calls Try.prog 8 #[.slice A hs.length c] w (RetP (botWhy hs) w) := by
  have Hr := Lib.hid hr; clear hr
  go_enter Try.func8, Try.ntmps8
  go_wp2
  go_loopw [5, 16] (fun s i wr => ∃ (k : Nat) (A1 : Option Addr) (c1 : Nat) (A2 : Option Addr) (c2 : Nat) (rows : List Value), k ≤ hs.length ∧ i = .int .i64 k ∧ s = .slice A2 k c2 ∧
    wr.heap[w.heap.size]? = some (.cells #[.slice A1 k c1, .pointer none] 88 (0, 0)) ∧ wr.ownsRow (w.heap.size + 1) 93 5 (.slice A1 k c1) k rows ∧
    wr.ownsRow (w.heap.size + 1) 3 1 (.slice A2 k c2) k (thDepths hs k) ∧ Below w.heap.size w wr ∧ Hid (∀ j, j < k → thMade (hs.getD j ⟨0, 0, 0, 0⟩) = true)) (fun _ i _ => hs.length - (intOf i).toNat)
  case atStart =>
    exact ⟨0, none, 0, none, 0, [], by omega, rfl, rfl, heap_alloc_new w _, own_nilK _ _ _ _, own_nilK _ _ _ _, (Below.refl _ _).alloc (Nat.le_refl _) _, fun j hj => absurd hj (Nat.not_lt_zero _)⟩
  case round =>
    obtain ⟨k, A1, c1, A2, c2, rows, hk, rfl, rfl, hq, ho1, ho2, hB, hm⟩ := hrel
    by_cases hlt : k < hs.length
    · obtain ⟨a, x, rfl, hx, h0, h1, h2, h3⟩ := (Hr.out.below hB).thAt hlt
      have Hx := Lib.hid hx; clear hx
      obtain ⟨prio, budget, period, depth⟩ := x
      dsimp only at h0 h1 h2 h3
      by_cases hs' : svOk budget period = true
      · have m : 1 ≤ budget ∧ budget ≤ period ∧ period ≤ 1099511627776 := by unfold svOk at hs'; simpa using hs'
        have f1 := Lib.hid (fun w => server_ok budget period w m)
        clear m
        have Hs := Lib.hid hs'; clear hs'
        go_wp2_with fail
        refine (f1.out _).mono ?_
        rintro e w2 ⟨p, rfl, hp, hb⟩
        have HX := Lib.hid (box_new hb)
        have HQ := Lib.hid (box_keep (box_alloc hq (.cells #[.int .i64 prio, .int .i64 budget, .int .i64 period, .int .i64 depth] 46)) hb)
        have HO1 := Lib.hid (own_belowK (own_allocK ho1 (.cells #[.int .i64 prio, .int .i64 budget, .int .i64 period, .int .i64 depth] 46)) hb)
        have HO2 := Lib.hid (own_belowK (own_allocK ho2 (.cells #[.int .i64 prio, .int .i64 budget, .int .i64 period, .int .i64 depth] 46)) hb)
        have s0 := hB.size
        have HB := Lib.hid ((hB.alloc s0 (.cells #[.int .i64 prio, .int .i64 budget, .int .i64 period, .int .i64 depth] 46)).trans (hb.mono (by simp; omega)))
        have s2 := hb.size
        simp at s2
        have Hlq := box_lt hq
        clear hb hq ho1 ho2 hB h0 h1 h2 h3
        obtain ⟨hx, hy⟩ := box_rules HX.out
        obtain ⟨hqx, hqy⟩ := box_rules HQ.out
        by_cases t1 : prio < 0
        · go_wp2
          go_ret2
          exact RetP.bad (bot_bad hlt (by rw [Hx.out]; simp [thMade]; omega)) HB.out
        · by_cases t2 : 63 < prio
          · go_wp2
            go_ret2
            exact RetP.bad (bot_bad hlt (by rw [Hx.out]; simp [thMade]; omega)) HB.out
          · have Hlen := Lib.hid HB.out.size
            go_wp2_with fail
            have lq2 := box_lt HQ.out
            have lx2 := box_lt HX.out
            go_region_law ((refine step_appK rfl _ _ sl_thread (by decide) rfl (own_drewK (own_allocK HO1.out _)) rfl (by omega) (by simp; omega) w2.heap.size [.int .i64 prio, .int .i64 budget, .int .i64 period, .int .i64 depth, .pointer (some ⟨p, 0, none⟩)] rfl rfl (fun j u hu => new_cell hu) rfl ?_; intro A3 c3 w3 ho3 hg3 _; have G3 := Lib.hid (grown_step HO1.out (grown_undrew hg3)); have HX3 := Lib.hid (G3.out.other HX.out (by decide)); have HQ3 := Lib.hid (G3.out.low HQ.out (Nat.lt_succ_self _)); have HO3 := Lib.hid ho3; have s3 := G3.out.size; clear ho3 hg3; obtain ⟨hx3, hy3⟩ := box_rules HX3.out; obtain ⟨hqx3, hqy3⟩ := box_rules HQ3.out))
            all_goals
              go_wp2_with (at_builtin; (refine wp_app1g rfl _ _ sl_int (by decide) rfl (own_allocK (own_setK (G3.out.row HO2.out (by decide)) (own_low HO2.out (Nat.lt_succ_self _)) _) _) rfl (by omega) (by simp; omega) _ (.int .i64 depth) rfl (by go_simp) rfl ?_; intro A4 c4 w4 ho4 hg4 _; have G4 := Lib.hid (grown_step (own_setK (G3.out.row HO2.out (by decide)) (own_low HO2.out (Nat.lt_succ_self _)) _) hg4); have HO4 := Lib.hid ho4; clear ho4 hg4))
              have b3 := G3.out.below HB.out (Nat.le_succ _) Hlen.out
              have s3 := G3.out.size
              refine ⟨⟨k + 1, A3, c3, A4, c4, _, by omega, by go_num, rfl, ?_, G4.out.row (own_setK HO3.out (own_low HO3.out (Nat.lt_succ_self _)) _) (by decide), ?_, G4.out.below (b3.setCell (p := ⟨w.heap.size, 0, none⟩) (Nat.le_refl _) _) (Nat.le_succ _) (by simp; omega), ?_⟩, by simp [intOf]; omega⟩
              · exact G4.out.low (box_set HQ3.out _) (Nat.lt_succ_self _)
              · rw [thDepths_succ hlt, Hx.out]; exact HO4.out
              · intro j hj
                by_cases he : j = k
                · subst he
                  rw [Hx.out]
                  simp [thMade, Hs.out]; omega
                · exact hm.out j (by omega)
      · have hs2 : svOk budget period = false := by simpa using hs'
        have f1 := Lib.hid (fun w => server_bad budget period w hs2)
        have Hs := Lib.hid hs2; clear hs' hs2
        go_wp2_with (refine (f1.out _).mono ?_; rintro e w2 ⟨rfl, rfl⟩)
        go_ret2
        exact RetP.bad (bot_bad hlt (by rw [Hx.out]; simp [thMade, Hs.out])) (hB.alloc hB.size _)
    · obtain rfl : k = hs.length := by omega
      have Hq := Lib.hid hq; clear hq
      have HB := Lib.hid hB; clear hB
      have lq := box_lt Hq.out
      have bR : w.heap.size ≤ w.heap.size := Nat.le_refl _
      by_cases hn : hs.length = 0
      · have hls : hs = [] := List.eq_nil_of_length_eq_zero hn
        have Hn := Lib.hid hn
        have hn0 : ((hs.length : Int) == 0) = true := by simp [hls]
        have f2 : Hid (∀ A c w, Rd w A [.int .i64 1] → Calls Try.prog 20 #[.slice A 1 c] w (RetP 0 w)) := Lib.hid (fun A c w hr => work_new [1] (by simp) A c w hr)
        have hw0 := Lib.hid (show botWhy hs = 0 by subst hls; rfl)
        clear hls
        go_wp2_with fail
        refine (f2.out _ _ _ ?_).mono ?_
        · intro j u hu
          exact ⟨_, rfl, by rw [add_zero_lit, Nat.zero_add]; exact new_cell hu⟩
        rintro e w6 ⟨p, rfl, hp, hb⟩
        have HQ6 := Lib.hid (box_keep (box_alloc Hq.out (.cells #[.int .i64 1] 3)) hb)
        have HB6 := Lib.hid ((HB.out.alloc HB.out.size (.cells #[.int .i64 1] 3)).trans (hb.mono (by have := HB.out.size; simp; omega)))
        clear hb
        obtain ⟨hx6, hy6⟩ := box_rules HQ6.out
        go_wp2_with fail
        go_ret2
        exact RetP.good hw0.out (HB6.out.setCell bR _)
      · have hn0 : ((hs.length : Int) == 0) = false := beq_eq_false_iff_ne.2 (by omega)
        have f2 := Lib.hid (fun A c w hr => work_new (hs.map (·.depth)) (by rw [List.length_map]; omega) A c w hr)
        have P2 : Hid (Rd wr A2 ((hs.map (·.depth)).map (.int .i64))) := by
          have h := own_rdK ho2
          rw [thDepths, List.take_length] at h
          rw [List.map_map]
          exact h
        rw [List.length_map] at f2
        have HY := Lib.hid (bot_why hm.out (by omega : 1 ≤ hs.length))
        have hy01 := wkWhy_or (hs.map (·.depth))
        generalize wkWhy (hs.map (·.depth)) = y at *
        rcases hy01 with rfl | rfl
        · go_wp2_with fail
          refine (f2.out _ _ _ P2.out).mono ?_
          rintro e w6 ⟨p, rfl, hp, hb⟩
          have HQ6 := Lib.hid (box_keep Hq.out hb)
          have HB6 := Lib.hid (HB.out.trans (hb.mono HB.out.size))
          clear hb
          obtain ⟨hx6, hy6⟩ := box_rules HQ6.out
          go_wp2_with fail
          go_ret2
          exact RetP.good HY.out (HB6.out.setCell bR _)
        · go_wp2_with fail
          refine (f2.out _ _ _ P2.out).mono ?_
          rintro e w6 ⟨p, rfl, hp, hb⟩
          have HB6 := Lib.hid (HB.out.trans (hb.mono HB.out.size))
          clear hb
          go_wp2_with fail
          go_ret2
          exact RetP.bad HY.out HB6.out
end Go.Proofs.Ytgampofpabllbaa

/- Packages ceiling, kern: the walks of New. Conditions: right tasks. -/
import Derived.Test.YtgampofpabllbaaVeD
import Derived.Test.YtgampofpabllbaaWhyP
import Derived.Test.YtgampofpabllbaaVetD
namespace Go.Proofs.Ytgampofpabllbaa
open Go.RowKit Go.Shelf
attribute [local go_sem] Oper.semAt_some

def oddC (p : Int) : Bool := decide (p < 0) || decide (63 < p)
theorem oddC_any (p : Int) (w : World) : Calls Try.prog 23 #[.int .i64 p] w fun e w' => e = .returned (.bool (oddC p)) ∧ w = w' := by
  by_cases h : p < 0
  · go_enter Try.func23, Try.ntmps23
    go_wp2
    go_ret
    exact ⟨ret_bool (by simp [oddC, h]), rfl⟩
  · go_enter Try.func23, Try.ntmps23
    go_wp2
    go_ret
    exact ⟨ret_bool (by simp [oddC]; omega), rfl⟩

theorem indexOddC_any (A : Option Addr) (xs : List Int) (c : Nat) (w : World) (hl : xs.length ≤ 549755813888) (hr : Rd w A (xs.map (.int .i64))) :
    Calls Try.prog 38 #[.slice A xs.length c, .func (.func 23) #[] #[]] w fun e w' => (∃ z : Int, e = .returned (.int .i64 z) ∧ ((0 ≤ z ∧ ∃ i, i < xs.length ∧ oddC (xs.getD i 0) = true) ∨ (z = -1 ∧ ∀ i, i < xs.length → oddC (xs.getD i 0) = false))) ∧ w = w' := by
  have Hr := Lib.hid hr; clear hr
  go_enter Try.func38, Try.ntmps38
  go_wp2
  go_loop [8] (fun i => ∃ k : Nat, k ≤ xs.length ∧ i = .int .i64 k ∧ Hid (∀ j, j < k → oddC (xs.getD j 0) = false)) (fun i => xs.length - (intOf i).toNat)
  case atStart => exact ⟨0, by omega, rfl, fun j hj => absurd hj (Nat.not_lt_zero _)⟩
  case round =>
    obtain ⟨k, hk, rfl, hj⟩ := hrel
    by_cases hlt : k < xs.length
    · obtain ⟨a, rfl, h1⟩ := Hr.out.int hlt
      have f1 := Lib.hid (fun w => oddC_any (xs.getD k 0) w)
      have HX : Hid (∀ t, oddC (xs.getD k 0) = t → oddC (xs.getD k 0) = t) := fun t h => h
      generalize ho : oddC (xs.getD k 0) = t at f1
      have Ho := Lib.hid ho; clear ho HX
      generalize hx : xs.getD k 0 = x at *
      have Hx := Lib.hid hx; clear hx
      cases t with
      | true =>
        go_wp2_with (refine (f1.out _).mono ?_; rintro e w' ⟨rfl, rfl⟩)
        go_ret
        exact ⟨⟨k, rfl, .inl ⟨by omega, k, hlt, by rw [Hx.out]; exact Ho.out⟩⟩, rfl⟩
      | false =>
        go_wp2_with (refine (f1.out _).mono ?_; rintro e w' ⟨rfl, rfl⟩)
        go_round
        case rel =>
          refine ⟨k + 1, by omega, by go_num, fun j hj' => ?_⟩
          by_cases he : j = k
          · subst he; rw [Hx.out]; exact Ho.out
          · exact hj.out j (by omega)
        case measure => simp [intOf]; omega
    · obtain rfl : k = xs.length := by omega
      go_wp2
      go_ret
      exact ⟨⟨-1, rfl, .inr ⟨rfl, hj.out⟩⟩, rfl⟩

theorem containsOddC_yes (A : Option Addr) (xs : List Int) (c : Nat) (w : World) (hl : xs.length ≤ 549755813888) (hr : Rd w A (xs.map (.int .i64))) (t : Bool)
    (ht : (t = true ∧ ∃ i, i < xs.length ∧ oddC (xs.getD i 0) = true) ∨ (t = false ∧ ∀ i, i < xs.length → oddC (xs.getD i 0) = false)) :
    Calls Try.prog 24 #[.slice A xs.length c, .func (.func 23) #[] #[]] w fun e w' => e = .returned (.bool t) ∧ w = w' := by
  have f1 := Lib.hid (fun w hr => indexOddC_any A xs c w hl hr)
  have Hr := Lib.hid hr; clear hr
  have Ht := Lib.hid ht; clear ht
  go_enter Try.func24, Try.ntmps24
  go_wp2_with fail
  refine (f1.out _ Hr.out).mono ?_
  rintro e w' ⟨⟨z, rfl, hz⟩, rfl⟩
  have Hz := Lib.hid hz; clear hz
  go_wp2_with fail
  go_ret
  refine ⟨ret_bool ?_, rfl⟩
  rcases Ht.out with ⟨rfl, i, hi, ho⟩ | ⟨rfl, h⟩
  · rcases Hz.out with ⟨h0, _⟩ | ⟨_, h⟩
    · simp [h0]
    · rw [h i hi] at ho; cases ho
  · rcases Hz.out with ⟨_, i, hi, ho⟩ | ⟨rfl, _⟩
    · rw [h i hi] at ho; cases ho
    · rfl


theorem sl_mutex : SlK Try.prog 103 107 3 24 := SlK.mk' (z := .agg #[.int .i64 0, .bool false, .int .i64 0]) Try.underlying103 (by kernel_rfl) rfl (by decide)
set_option maxHeartbeats 2000000 in
theorem ceil_new (l : List Int) (hl : l.length ≤ 16) (hp : ∀ x ∈ l, 0 ≤ x ∧ x ≤ 63) (A : Option Addr) (c : Nat) (w : World) (hr : Rd w A (l.map (.int .i64))) :
    Calls Try.prog 15 #[.slice A l.length c] w (RetP 0 w) := by
  have hn1 : ¬ (16 : Int) < l.length := by omega
  have f1 := Lib.hid (fun w hr => containsOddC_yes A l c w (by omega) hr false (.inr ⟨rfl, fun i hi => by
    have := hp (l.getD i 0) (by simp [List.getD, hi])
    unfold oddC
    rw [decide_eq_false (by omega), decide_eq_false (by omega)]
    rfl⟩))
  have Hr := Lib.hid hr
  clear hr hp
  go_enter Try.func15, Try.ntmps15
  go_wp2_with (refine (f1.out _ Hr.out).mono ?_; rintro e w' ⟨rfl, rfl⟩)
  go_loopw [20] (fun i wr => ∃ (k : Nat) (A1 : Option Addr) (c1 : Nat) (rows : List Value), k ≤ l.length ∧ i = .int .i64 k ∧
    wr.heap[w.heap.size]? = some (.cells #[.slice A1 k c1] 105 (0, 0)) ∧ wr.ownsRow (w.heap.size + 1) 107 3 (.slice A1 k c1) k rows ∧ Below w.heap.size w wr) (fun i _ => l.length - (intOf i).toNat)
  case atStart => exact ⟨0, none, 0, [], by omega, rfl, heap_alloc_new w _, own_nilK _ _ _ _, (Below.refl _ _).alloc (Nat.le_refl _) _⟩
  case round =>
    obtain ⟨k, A1, c1, rows, hk, rfl, hq, ho1, hB⟩ := hrel
    have HQ := Lib.hid hq; have HO1 := Lib.hid ho1; have HB := Lib.hid hB
    have lq := box_lt HQ.out
    obtain ⟨hqx, hqy⟩ := box_rules HQ.out
    clear hq ho1 hB
    by_cases hlt : k < l.length
    · obtain ⟨a, rfl, h1⟩ := (Hr.out.below HB.out).int hlt
      generalize hx : l.getD k 0 = x at *
      clear hx
      have Hlen := Lib.hid HB.out.size
      go_wp2_with (at_builtin; refine wp_appK rfl _ _ sl_mutex (by decide) rfl (own_allocK HO1.out _) rfl (by omega) (by simp; omega) wr.heap.size [.int .i64 x, .bool false, .int .i64 0] rfl rfl (fun j u hu => new_cell hu) rfl ?_; intro A3 c3 w3 ho3 hg3 _; have G3 := Lib.hid (grown_step HO1.out hg3); have HQ3 := Lib.hid (G3.out.low HQ.out (Nat.lt_succ_self _)); have HO3 := Lib.hid ho3; obtain ⟨gqx, gqy⟩ := box_rules HQ3.out; clear ho3 hg3 hqx hqy)
      go_roundw
      case rel =>
        exact ⟨k + 1, A3, c3, _, by omega, by go_num, box_set HQ3.out _, own_setK HO3.out (own_low HO3.out (Nat.lt_succ_self _)) _, (G3.out.below HB.out (Nat.le_succ _) Hlen.out).setCell (p := ⟨w.heap.size, 0, none⟩) (Nat.le_refl _) _⟩
      case measure => simp [intOf]; omega
    · obtain rfl : k = l.length := by omega
      go_wp2
      go_ret2
      exact RetP.good rfl HB.out
theorem kodd_any (x : Tk) (sw : Int) (h : TkIn x sw) (w : World) : Calls Try.prog 22 #[tkv x] w fun e w' => e = .returned (.bool false) ∧ Below w.heap.size w w' := by
  have h1 := h.prio; have h2 := h.room; have h3 := h.lock; have h4 := h.held; have h5 := h.cost; have h6 := h.deadline; have h7 := h.period
  clear h
  obtain ⟨x0, x1, x2, x3, x4, x5, x6, x7, x8, x9⟩ := x
  unfold tkv
  dsimp only at *
  obtain ⟨p1, p2⟩ := h1
  obtain ⟨r1, r2⟩ := h2
  by_cases hx : x7 < 0
  · clear h4
    go_enter Try.func22, Try.ntmps22
    go_wp2
    go_ret
    exact ⟨rfl, (Below.refl _ _).alloc (Nat.le_refl _) _⟩
  · obtain ⟨q1, q2, q3⟩ := h4 (by omega)
    have q4 : x9 ≤ 1099511627776 := by omega
    have hx0 : 0 ≤ x7 := by omega
    clear h4 h5 h6 h7
    go_enter Try.func22, Try.ntmps22
    go_wp2
    go_ret
    exact ⟨by (first | rfl | (simp; done) | (simp; omega)), (Below.refl _ _).alloc (Nat.le_refl _) _⟩
set_option maxHeartbeats 4000000 in
set_option maxRecDepth 100000 in
theorem kcheck_any (ts : List Tk) (sw : Int) (h1 : 1 ≤ ts.length ∧ ts.length ≤ 32) (hts : ∀ x ∈ ts, TkIn x sw) (hnd : (ts.map (·.prio)).Nodup) (A : Option Addr) (c : Nat) (w : World) (hr : Rd w A (ts.flatMap tkc)) :
    Calls Try.prog 14 #[.slice A ts.length c] w fun e w' => e = .returned (.int .i64 0) ∧ Below w.heap.size w w' := by
  have Hr := Lib.hid hr
  have HT : Hid (∀ k, k < ts.length → TkIn (ts.getD k tk0) sw) := Lib.hid (fun k hk => hts _ (by simp [List.getD, hk]))
  have HN : Hid (∀ k, k < ts.length → ¬ ((ts.map (·.prio)).getD k 0 ∈ ((ts.map (·.prio)).take k).reverse)) := Lib.hid (fun k hk hm => by
    have hk2 : k < (ts.map (·.prio)).length := by rw [List.length_map]; exact hk
    have e : (ts.map (·.prio)).getD k 0 = (ts.map (·.prio))[k] := by simp [List.getD, hk]
    rw [e, List.mem_reverse] at hm
    obtain ⟨j, hj, ej⟩ := List.getElem_of_mem hm
    rw [List.length_take] at hj
    rw [List.getElem_take] at ej
    exact (List.pairwise_iff_getElem.1 hnd j k (by omega) hk2 (by omega)) ej)
  obtain ⟨n1, n2⟩ := h1
  have hn0 : ((ts.length : Int) == 0) = false := beq_eq_false_iff_ne.2 (by omega)
  have hn2 : ¬ (32 : Int) < ts.length := by omega
  have hmm := @run_makeMap Try.prog
  clear hr hts hnd
  generalize hq : ts.map (·.prio) = q at *
  have HQ : Hid (∀ k, k < ts.length → q.getD k 0 = (ts.getD k tk0).prio) := Lib.hid (fun k hk => by rw [← hq]; simp [List.getD, hk])
  have HQl : Hid (q.length = ts.length) := Lib.hid (by rw [← hq, List.length_map])
  clear hq
  go_enter Try.func14, Try.ntmps14
  go_wp2
  go_loopw [3, 18] (fun y i wr => ∃ k : Nat, k ≤ ts.length ∧ i = .int .i64 k ∧ y = .int .i64 0 ∧ MapB wr w.heap.size k (q.take k).reverse ∧ Below w.heap.size w wr) (fun _ i _ => ts.length - (intOf i).toNat)
  case atStart => exact ⟨0, by omega, rfl, rfl, MapB.made w, (Below.refl _ _).alloc (Nat.le_refl _) _⟩
  case round =>
    obtain ⟨k, hk, rfl, rfl, hm, hB⟩ := hrel
    have HM := Lib.hid hm; have HB := Lib.hid hB
    clear hm hB
    by_cases hlt : k < ts.length
    · obtain ⟨a, x, rfl, hx, ⟨z0, z1, z2, z3⟩, z4, z5, z6, z7, z8, z9⟩ := (Hr.out.below HB.out).tkAt hlt
      have hT := HT.out k hlt
      have hqk := HQ.out k hlt
      rw [hx] at hT hqk
      have fo := Lib.hid (fun w => kodd_any x sw hT w)
      have hp := hT.prio
      have hno := HN.out k hlt
      rw [hqk] at hno
      have Hno := Lib.hid hno
      have Hqk := Lib.hid hqk
      clear hx hT hqk hno
      obtain ⟨x0, x1, x2, x3, x4, x5, x6, x7, x8, x9⟩ := x
      unfold tkv at fo
      dsimp only at *
      go_upto_region 8 with fail
      refine name_world fun U hU => ?_
      have hbu : Below wr.heap.size wr U := by rw [hU]; exact (Below.refl _ _).alloc (Nat.le_refl _) _
      have HX : Hid (U.heap[wr.heap.size]? = some (.cells #[.int .u8 x0, .int .i64 x1, .int .i64 x2, .int .i64 x3, .int .i64 x4, .int .i64 x5, .int .i64 x6, .int .i64 x7, .int .i64 x8, .int .i64 x9] 44 (0, 0))) := Lib.hid (by rw [hU]; exact heap_alloc_new _ _)
      have HMu := Lib.hid (HM.out.kept (below_grown hbu) (by simp))
      have HBu := Lib.hid (HB.out.trans (hbu.mono HB.out.size))
      clear hU hbu z0 z1 z2 z3 z4 z5 z6 z7 z8 z9 HM HB
      generalize wr.heap.size = bx at *
      obtain ⟨xx, xy⟩ := box_rules HX.out
      go_wp2_with fail
      refine (fo.out _).mono ?_
      rintro e w3 ⟨rfl, hb3⟩
      have HX3 := Lib.hid (box_keep HX.out hb3)
      have HM3 := Lib.hid (HMu.out.kept (below_grown hb3) (by simp))
      have HB3 := Lib.hid (HBu.out.trans (hb3.mono HBu.out.size))
      clear hb3 xx xy HX HMu HBu fo
      obtain ⟨xx, xy⟩ := box_rules HX3.out
      have i64 : -9223372036854775808 ≤ x1 ∧ x1 ≤ 9223372036854775807 := by omega
      have hlook := HM3.out.look i64
      rw [decide_eq_false Hno.out] at hlook
      obtain ⟨w4, hrun, hm4, hg4⟩ := HM3.out.put (by unfold maxLen; omega) i64
      have HM4 := Lib.hid hm4
      have HB4 := Lib.hid (HB3.out.grown hg4 HB3.out.size (fun k e => by cases e; exact Nat.le_refl _))
      have HE : Hid ((x1 :: (q.take k).reverse) = (q.take (k + 1)).reverse) := Lib.hid (by
        have hk2 : k < q.length := by rw [HQl.out]; exact hlt
        have e : q[k] = x1 := by have := Hqk.out; simpa [List.getD, hk2] using this
        rw [List.take_succ_eq_append_getElem hk2, List.reverse_append, e]
        rfl)
      clear hm4 hg4 i64
      go_wp2
      refine ⟨⟨k + 1, hlt, by go_num, rfl, by rw [← HE.out]; exact HM4.out, HB4.out⟩, ?_⟩
      simp [intOf]; omega
    · obtain rfl : k = ts.length := by omega
      go_wp2
      go_ret
      exact ⟨rfl, HB.out⟩
end Go.Proofs.Ytgampofpabllbaa

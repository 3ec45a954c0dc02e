/- Packages vergeref19 and vergeref27: the walks of New and of line. Conditions: lists that read. -/
import Derived.Test.YtgampofpabllbaaGreatRefVC
namespace Go.Proofs.YtgampofpabllbaaGreat
open Go.RowKit Go.Shelf

theorem sl_one : SlK Tryz.prog 143 185 15 128 := SlK.mk' (z := .agg #[.int .i64 0, .int .i64 0, .int .i64 0, .int .i64 0, .int .i64 0, .int .i64 0, .slice none 0 0, .int .i64 0, .int .i64 0, .bool false, .bool false, .int .i64 0, .int .i64 0, .int .i64 0, .int .i64 0]) Tryz.underlying143 (by kernel_rfl) rfl (by decide)
def Ret19 (y : Bool) (w : World) (e : Ending) (w' : World) : Prop := (∃ (A0 : Option Addr) (n0 c0 : Nat) (A1 : Option Addr) (n1 c1 : Nat) (z : Int), e = .returned (.tuple #[.agg #[.slice A0 n0 c0, .slice A1 n1 c1, .int .i64 z], .bool y])) ∧ Below w.heap.size w w'
/-- Whether lines are made. -/
def irqOk (ls : List Ln) : Bool := ls.all lnOk && decide (ls.length ≤ 64)
theorem irqOk_no {ls : List Ln} {k : Nat} (hk : k < ls.length) (h : lnOk (ls.getD k ⟨0, 0, 0, 0⟩) = false) : irqOk ls = false := by
  have : ls.all lnOk = false := by
    rw [List.all_eq_false]
    refine ⟨_, List.getElem_mem hk, ?_⟩
    simp [List.getD, hk] at h
    simp [h]
  unfold irqOk
  simp [this]
theorem irqOk_all {ls : List Ln} (h : ∀ j, j < ls.length → lnOk (ls.getD j ⟨0, 0, 0, 0⟩) = true) : irqOk ls = decide (ls.length ≤ 64) := by
  have : ls.all lnOk = true := by
    rw [List.all_eq_true]
    intro x hx
    obtain ⟨i, hi, rfl⟩ := List.getElem_of_mem hx
    simpa [List.getD, hi] using h i hi
  unfold irqOk
  rw [this, Bool.true_and]
theorem lnOk_st {prio top many window : Int} (h : stOk many window = false) : lnOk ⟨prio, top, many, window⟩ = false := by
  unfold stOk at h
  unfold lnOk
  rw [Bool.and_assoc, Bool.and_assoc, ← Bool.and_assoc, h]
  rfl
theorem lnOk_yes {prio top many window : Int} (h : stOk many window = true) (h1 : ¬ prio < 1) (h2 : ¬ 15 < prio) (h3 : ¬ top < 1) (h4 : ¬ 1099511627776 < top) : lnOk ⟨prio, top, many, window⟩ = true := by
  unfold stOk at h
  unfold lnOk
  rw [Bool.and_assoc, Bool.and_assoc, ← Bool.and_assoc, h]
  simp; omega
set_option maxHeartbeats 4000000 in
set_option maxRecDepth 100000 in
theorem new19_any (ls : List Ln) (hl : ls.length ≤ 1048576) (A : Option Addr) (c : Nat) (w : World) (hr : Rd w A (ls.flatMap lnc)) :
    Calls Tryz.prog 94 #[.slice A ls.length c] w (Ret19 (irqOk ls) w) := by
  have Hr := Lib.hid hr; clear hr
  go_enter Tryz.func94, Tryz.ntmps94
  go_wp2
  go_loopw [11] (fun i wr => ∃ (k : Nat) (A1 : Option Addr) (c1 : Nat) (rows : List Value), k ≤ ls.length ∧ i = .int .i64 k ∧
    wr.heap[w.heap.size]? = some (.cells #[.slice none 0 0, .slice none 0 0, .int .i64 0] 146 (0, 0)) ∧
    wr.heap[w.heap.size + 1]? = some (.cells #[.slice A1 k c1, .slice none 0 0, .int .i64 0] 146 (0, 0)) ∧ wr.ownsRow (w.heap.size + 2) 185 15 (.slice A1 k c1) k rows ∧
    Below w.heap.size w wr ∧ Hid (∀ j, j < k → lnOk (ls.getD j ⟨0, 0, 0, 0⟩) = true)) (fun i _ => ls.length - (intOf i).toNat)
  case atStart =>
    exact ⟨0, none, 0, [], by omega, rfl, box_alloc (heap_alloc_new w _) _, heap_new_at _ (by simp), own_nilK _ _ _ _, ((Below.refl _ _).alloc (Nat.le_refl _) _).alloc (by simp) _, fun j hj => absurd hj (Nat.not_lt_zero _)⟩
  case round =>
    obtain ⟨k, A1, c1, rows, hk, rfl, hq0, hq, ho1, hB, hm⟩ := hrel
    by_cases hlt : k < ls.length
    · obtain ⟨a, x, rfl, hx, h0, h1, h2, h3⟩ := (Hr.out.below hB).lnAt hlt
      have Hx := Lib.hid hx; clear hx
      obtain ⟨prio, top, many, window⟩ := x
      dsimp only at h0 h1 h2 h3
      have f1 := Lib.hid (fun w => new16_any many window w)
      generalize hs' : stOk many window = sv at *
      have Hs := Lib.hid hs'; clear hs'
      have s0 := hB.size
      go_wp2_with fail
      refine (f1.out _).mono ?_
      rintro e w2 ⟨rfl, hb⟩
      have HX := Lib.hid (box_new hb)
      have HQ0 := Lib.hid (box_keep (box_alloc hq0 (.cells #[.int .i64 prio, .int .i64 top, .int .i64 many, .int .i64 window] 58)) hb)
      have HQ := Lib.hid (box_keep (box_alloc hq (.cells #[.int .i64 prio, .int .i64 top, .int .i64 many, .int .i64 window] 58)) hb)
      have HO1 := Lib.hid (own_belowK (own_allocK ho1 (.cells #[.int .i64 prio, .int .i64 top, .int .i64 many, .int .i64 window] 58)) hb)
      have HB := Lib.hid ((hB.alloc s0 (.cells #[.int .i64 prio, .int .i64 top, .int .i64 many, .int .i64 window] 58)).trans (hb.mono (by simp; omega)))
      have s2 := hb.size
      simp at s2
      have Hlq := box_lt hq
      have lx2 := box_lt HX.out
      have lq2 := box_lt HQ.out
      have lq02 := box_lt HQ0.out
      clear hb hq hq0 ho1 hB h0 h1 h2 h3
      obtain ⟨hx, hy⟩ := box_rules HX.out
      obtain ⟨hqx, hqy⟩ := box_rules HQ.out
      obtain ⟨hq0x, hq0y⟩ := box_rules HQ0.out
      cases sv with
      | false =>
        go_wp2
        have hz := (box_rules (box_alloc (box_set (i := 2) (box_set (i := 1) (box_set (i := 0) HQ0.out (.slice none 0 0)) (.slice none 0 0)) (.int .i64 0)) (.cells #[.int .i64 many, .int .i64 window, .slice none 0 0, .int .i64 0, .int .i64 0] 181))).1
        refine bodyPost_ret (v := .tuple #[.agg #[.slice none 0 0, .slice none 0 0, .int .i64 0], .bool false]) (by simp [results, Tryz.f94, go_sem, hz]) rfl ?_
        refine ⟨⟨_, _, _, _, _, _, _, by rw [irqOk_no hlt (by rw [Hx.out]; exact lnOk_st Hs.out)]⟩, ?_⟩
        have bR : w.heap.size ≤ w.heap.size := Nat.le_refl _
        refine Below.alloc ?_ (by have := HB.out.size; simp; omega) _
        repeat (with_reducible first | refine Below.setCell ?_ bR _ | refine Below.drew ?_ | exact HB.out)
      | true =>
        by_cases t1 : prio < 1
        · go_wp2
          have hz := (box_rules (box_alloc (box_set (i := 2) (box_set (i := 1) (box_set (i := 0) HQ0.out (.slice none 0 0)) (.slice none 0 0)) (.int .i64 0)) (.cells #[.int .i64 many, .int .i64 window, .slice none 0 0, .int .i64 0, .int .i64 0] 181))).1
          refine bodyPost_ret (v := .tuple #[.agg #[.slice none 0 0, .slice none 0 0, .int .i64 0], .bool false]) (by simp [results, Tryz.f94, go_sem, hz]) rfl ?_
          refine ⟨⟨_, _, _, _, _, _, _, by rw [irqOk_no hlt (by rw [Hx.out]; simp [lnOk]; omega)]⟩, ?_⟩
          have bR : w.heap.size ≤ w.heap.size := Nat.le_refl _
          refine Below.alloc ?_ (by have := HB.out.size; simp; omega) _
          repeat (with_reducible first | refine Below.setCell ?_ bR _ | refine Below.drew ?_ | exact HB.out)
        · by_cases t2 : 15 < prio
          · go_wp2
            have hz := (box_rules (box_alloc (box_set (i := 2) (box_set (i := 1) (box_set (i := 0) HQ0.out (.slice none 0 0)) (.slice none 0 0)) (.int .i64 0)) (.cells #[.int .i64 many, .int .i64 window, .slice none 0 0, .int .i64 0, .int .i64 0] 181))).1
            refine bodyPost_ret (v := .tuple #[.agg #[.slice none 0 0, .slice none 0 0, .int .i64 0], .bool false]) (by simp [results, Tryz.f94, go_sem, hz]) rfl ?_
            refine ⟨⟨_, _, _, _, _, _, _, by rw [irqOk_no hlt (by rw [Hx.out]; simp [lnOk]; omega)]⟩, ?_⟩
            have bR : w.heap.size ≤ w.heap.size := Nat.le_refl _
            refine Below.alloc ?_ (by have := HB.out.size; simp; omega) _
            repeat (with_reducible first | refine Below.setCell ?_ bR _ | refine Below.drew ?_ | exact HB.out)
          · by_cases t3 : top < 1
            · go_wp2
              have hz := (box_rules (box_alloc (box_set (i := 2) (box_set (i := 1) (box_set (i := 0) HQ0.out (.slice none 0 0)) (.slice none 0 0)) (.int .i64 0)) (.cells #[.int .i64 many, .int .i64 window, .slice none 0 0, .int .i64 0, .int .i64 0] 181))).1
              refine bodyPost_ret (v := .tuple #[.agg #[.slice none 0 0, .slice none 0 0, .int .i64 0], .bool false]) (by simp [results, Tryz.f94, go_sem, hz]) rfl ?_
              refine ⟨⟨_, _, _, _, _, _, _, by rw [irqOk_no hlt (by rw [Hx.out]; simp [lnOk]; omega)]⟩, ?_⟩
              have bR : w.heap.size ≤ w.heap.size := Nat.le_refl _
              refine Below.alloc ?_ (by have := HB.out.size; simp; omega) _
              repeat (with_reducible first | refine Below.setCell ?_ bR _ | refine Below.drew ?_ | exact HB.out)
            · by_cases t4 : 1099511627776 < top
              · go_wp2
                have hz := (box_rules (box_alloc (box_set (i := 2) (box_set (i := 1) (box_set (i := 0) HQ0.out (.slice none 0 0)) (.slice none 0 0)) (.int .i64 0)) (.cells #[.int .i64 many, .int .i64 window, .slice none 0 0, .int .i64 0, .int .i64 0] 181))).1
                refine bodyPost_ret (v := .tuple #[.agg #[.slice none 0 0, .slice none 0 0, .int .i64 0], .bool false]) (by simp [results, Tryz.f94, go_sem, hz]) rfl ?_
                refine ⟨⟨_, _, _, _, _, _, _, by rw [irqOk_no hlt (by rw [Hx.out]; simp [lnOk]; omega)]⟩, ?_⟩
                have bR : w.heap.size ≤ w.heap.size := Nat.le_refl _
                refine Below.alloc ?_ (by have := HB.out.size; simp; omega) _
                repeat (with_reducible first | refine Below.setCell ?_ bR _ | refine Below.drew ?_ | exact HB.out)
              · have Hlen := Lib.hid HB.out.size
                have HK := Lib.hid (lnOk_yes Hs.out t1 t2 t3 t4)
                go_wp2_with (at_builtin; go_loud (refine wp_appK rfl _ _ sl_one (by decide) rfl (own_allocK (own_allocK HO1.out _) _) rfl (by omega) (by simp; omega) _ [.int .i64 prio, .int .i64 top, .int .i64 many, .int .i64 window, .int .i64 many, .int .i64 window, .slice none 0 0, .int .i64 0, .int .i64 0, .bool false, .bool false, .int .i64 0, .int .i64 0, .int .i64 0, .int .i64 0] rfl rfl (fun j u hu => new_cell2 hu) rfl ?_); intro A3 c3 w3 ho3 hg3 _; have G3 := Lib.hid (grown_step (own_allocK HO1.out _) hg3); have HQ3 := Lib.hid (G3.out.low (box_alloc HQ.out _) (Nat.lt_succ_self _)); have HQ03 := Lib.hid (G3.out.low (box_alloc HQ0.out _) (by omega)); have HO3 := Lib.hid ho3; have s3 := G3.out.size; simp at s3; clear ho3 hg3; obtain ⟨hqx3, hqy3⟩ := box_rules HQ3.out)
                go_roundw
                case rel =>
                  have b3 := G3.out.below (HB.out.alloc Hlen.out _) (by omega) (by simp; omega)
                  refine ⟨k + 1, A3, c3, _, by omega, by go_num, box_far HQ03.out (p := ⟨w.heap.size + 1, 0, none⟩) (by show w.heap.size ≠ w.heap.size + 1; omega) _, box_set HQ3.out _, own_setK HO3.out (own_low HO3.out (Nat.lt_succ_self _)) _, b3.setCell (p := ⟨w.heap.size + 1, 0, none⟩) (by show w.heap.size ≤ w.heap.size + 1; omega) _, ?_⟩
                  intro j hj
                  by_cases he : j = k
                  · subst he
                    rw [Hx.out]
                    exact HK.out
                  · exact hm.out j (by omega)
                case measure => simp [intOf]; omega
    · obtain rfl : k = ls.length := by omega
      have HQ := Lib.hid hq; have HQ0 := Lib.hid hq0; have HB := Lib.hid hB
      clear hq hq0 hB
      obtain ⟨hqx, hqy⟩ := box_rules HQ.out
      obtain ⟨hq0x, hq0y⟩ := box_rules HQ0.out
      have HY := Lib.hid (irqOk_all hm.out)
      have bR : w.heap.size ≤ w.heap.size := Nat.le_refl _
      go_wp2
      have hz := (box_rules (box_set (i := 2) (box_set (i := 1) (box_set (i := 0) HQ0.out (.slice A1 ls.length c1)) (.slice none 0 0)) (.int .i64 0))).1
      refine bodyPost_ret (v := .tuple #[.agg #[.slice A1 ls.length c1, .slice none 0 0, .int .i64 0], .bool (decide (ls.length ≤ 64))]) (by simp [results, Tryz.f94, go_sem, hz]; omega) rfl ?_
      refine ⟨⟨_, _, _, _, _, _, _, by rw [HY.out]⟩, ?_⟩
      repeat (with_reducible first | refine Below.setCell ?_ bR _ | refine Below.drew ?_ | exact HB.out)

theorem irqOk_one (x : Ln) : irqOk [x] = lnOk x := by unfold irqOk; simp
theorem botOk_one (x : Th) : botOk [x] = thOk x := by unfold botOk thOk thMade svOk dpOk; simp
theorem lnOk_in {x : Ln} (h : lnOk x = true) : (1 ≤ x.many ∧ x.many ≤ 64) ∧ (1 ≤ x.top ∧ x.top ≤ 1099511627776) := by
  unfold lnOk at h
  simp only [Bool.and_eq_true, decide_eq_true_eq] at h
  exact ⟨h.1.1.1, h.1.2⟩
set_option maxHeartbeats 1000000 in
theorem line27_any (x : Ln) (w : World) : Calls Tryz.prog 54 #[lnv x] w fun e w' => e = .returned (.int .i64 (lnWhy x)) ∧ Below w.heap.size w w' := by
  have f1 : Hid (∀ A c w, Rd w A (lnc x) → Calls Tryz.prog 94 #[.slice A 1 c] w (Ret19 (irqOk [x]) w)) := Lib.hid (fun A c w hr => new19_any [x] (by simp) A c w (by simpa using hr))
  rw [irqOk_one] at f1
  have HW : Hid (lnWhy x = if lnOk x then (if 1099511627776 < x.many * x.top then 10 else 0) else 1) := Lib.hid rfl
  have HK : Hid (lnOk x = true → (1 ≤ x.many ∧ x.many ≤ 64) ∧ (1 ≤ x.top ∧ x.top ≤ 1099511627776)) := Lib.hid lnOk_in
  generalize lnWhy x = y at *
  generalize lnOk x = k at *
  obtain ⟨prio, top, many, window⟩ := x
  unfold lnc Ret19 at f1
  unfold lnv
  dsimp only at f1 HW HK ⊢
  cases k with
  | true =>
    obtain ⟨⟨m1, m2⟩, m3, m4⟩ := HK.out rfl
    have hm := Lib.hid (mul_in m1 m2 m3 m4)
    have hz : Hid (y = if 1099511627776 < many * top then 10 else 0) := Lib.hid (by rw [HW.out]; rfl)
    clear HK HW m1 m2 m3 m4
    go_enter Tryz.func54, Tryz.ntmps54
    go_wp2_with fail
    refine (f1.out _ _ _ ?_).mono ?_
    · intro j u hu
      exact ⟨_, rfl, by rw [add_zero_lit, Nat.zero_add]; exact new_cell2 hu⟩
    rintro e w2 ⟨⟨A0, n0, c0, A1, n1, c1, z, rfl⟩, hb⟩
    have HX := Lib.hid (box_keep (box_alloc (heap_alloc_new w (.cells #[.int .i64 prio, .int .i64 top, .int .i64 many, .int .i64 window] 58)) _) hb)
    obtain ⟨hx, hy⟩ := box_rules HX.out
    have lx := box_lt HX.out
    have HB := Lib.hid ((((Below.refl w.heap.size w).alloc (Nat.le_refl _) _).alloc (by simp) _).trans (hb.mono (by simp; omega)))
    have s2 := HB.out.size
    clear hb
    by_cases ht : 1099511627776 < many * top
    · go_wp2_with (rw [hm.out])
      go_ret
      exact ⟨ret_int (by rw [hz.out, if_pos ht]), HB.out.alloc s2 _⟩
    · go_wp2_with (rw [hm.out])
      go_ret
      exact ⟨ret_int (by rw [hz.out, if_neg (by omega)]), HB.out.alloc s2 _⟩
  | false =>
    have hz : Hid (y = 1) := Lib.hid (by rw [HW.out]; rfl)
    clear HK HW
    go_enter Tryz.func54, Tryz.ntmps54
    go_wp2_with fail
    refine (f1.out _ _ _ ?_).mono ?_
    · intro j u hu
      exact ⟨_, rfl, by rw [add_zero_lit, Nat.zero_add]; exact new_cell2 hu⟩
    rintro e w2 ⟨⟨A0, n0, c0, A1, n1, c1, z, rfl⟩, hb⟩
    have HB := Lib.hid ((((Below.refl w.heap.size w).alloc (Nat.le_refl _) _).alloc (by simp) _).trans (hb.mono (by simp; omega)))
    have s2 := HB.out.size
    clear hb
    go_wp2
    go_ret
    exact ⟨ret_int hz.out.symm, HB.out.alloc s2 _⟩
end Go.Proofs.YtgampofpabllbaaGreat

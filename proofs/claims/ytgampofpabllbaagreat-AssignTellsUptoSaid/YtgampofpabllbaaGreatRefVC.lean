/- Package vergeref18: the walk of New. Conditions: lists that read. -/
import Derived.Test.YtgampofpabllbaaGreatRefVB
namespace Go.Proofs.YtgampofpabllbaaGreat
open Go.RowKit Go.Shelf

theorem sl_th : SlK Tryz.prog 26 60 4 32 := SlK.mk' (z := .agg #[.int .i64 0, .int .i64 0, .int .i64 0, .int .i64 0]) Tryz.underlying26 (by kernel_rfl) rfl (by decide)
theorem sl_sv15 : SlK Tryz.prog 98 151 4 48 := SlK.mk' (z := .agg #[.int .i64 0, .int .i64 0, .slice none 0 0, .int .i64 0]) Tryz.underlying98 (by kernel_rfl) rfl (by decide)
theorem thc_one (hs : List Th) : ∀ u ∈ hs.flatMap thc, u.oneCell' = true := by
  intro u hu
  obtain ⟨x, _, hx⟩ := List.mem_flatMap.1 hu
  simp [thc] at hx
  rcases hx with rfl | rfl | rfl | rfl <;> rfl
theorem thc_len (hs : List Th) : (hs.flatMap thc).length = hs.length * 4 := by
  induction hs with
  | nil => rfl
  | cons x l ih => rw [List.flatMap_cons, List.length_append, ih]; simp [thc, Nat.add_mul]; omega
/-- Whether threads are made. -/
def botOk (hs : List Th) : Bool := hs.all thMade && hs.all (fun x => dpOk x.depth) && decide (hs.length ≤ 64)
theorem botOk_why (hs : List Th) : botWhy hs = if botOk hs then 0 else 1 := rfl
def Ret18 (y : Bool) (w : World) (e : Ending) (w' : World) : Prop := (∃ (A0 : Option Addr) (n0 c0 : Nat) (A1 : Option Addr) (n1 c1 : Nat) (A2 : Option Addr) (n2 c2 : Nat), e = .returned (.tuple #[.agg #[.slice A0 n0 c0, .slice A1 n1 c1, .slice A2 n2 c2], .bool y])) ∧ Below w.heap.size w w'
theorem bot_no {hs : List Th} {k : Nat} (hk : k < hs.length) (h : thMade (hs.getD k ⟨0, 0, 0, 0⟩) = false) : botOk hs = false := by
  have := bot_bad hk h
  rw [botOk_why] at this
  cases hb : botOk hs with
  | false => rfl
  | true => rw [hb] at this; cases this
theorem bot_ok {hs : List Th} (hm : ∀ j, j < hs.length → thMade (hs.getD j ⟨0, 0, 0, 0⟩) = true) (h1 : 1 ≤ hs.length) : botOk hs = wkOk (hs.map (·.depth)) := by
  have h := bot_why hm h1
  rw [botOk_why, wkOk_why] at h
  cases ha : botOk hs <;> cases hb : wkOk (hs.map (·.depth)) <;> simp_all
set_option maxHeartbeats 4000000 in
set_option maxRecDepth 100000 in
theorem new18_any (hs : List Th) (hl : hs.length ≤ 1048576) (A : Option Addr) (c : Nat) (w : World) (hr : Rd w A (hs.flatMap thc)) :
    Calls Tryz.prog 55 #[.slice A hs.length c] w (Ret18 (botOk hs) w) := by
  have Hr := Lib.hid hr; clear hr
  have H1 := Lib.hid (thc_one hs)
  have H2 := Lib.hid (thc_len hs)
  have hE : Hid (∀ o, ((w.alloc o).alloc (.cells #[] 60)).ownsRow (w.heap.size + 1) 60 4 (.slice (some ⟨w.heap.size + 1, 0, none⟩) 0 0) 0 []) := Lib.hid (fun o => by
    have h := own_emptyK (w.alloc o) 60 (k := 4) (base := w.heap.size + 1) (by simp)
    simpa using h)
  go_enter Tryz.func55, Tryz.ntmps55
  go_wp2_with (at_builtin; go_loud (refine wp_appNK rfl _ _ sl_th (by decide) rfl (hE.out _) rfl (by simp) A hs.length c _ rfl H2.out ((Hr.out.alloc _).alloc _) H1.out (by omega) ?_); intro A0 c0 w1 ho1 hb1; clear ho1)
  refine name_world fun V hV => ?_
  have hs1 := hb1.size
  simp at hs1
  have HB0 : Hid (V.heap[w.heap.size]? = some (.cells #[.slice none 0 0, .slice none 0 0, .slice none 0 0] 102 (0, 0))) := Lib.hid (by
    rw [hV]
    exact box_alloc ((hb1.block w.heap.size (by omega)).trans (box_alloc (heap_alloc_new w _) _)) _)
  have HB4 : Hid (V.heap[w1.heap.size]? = some (.cells #[.slice A0 hs.length c0, .slice none 0 0, .slice none 0 0] 102 (0, 0))) := Lib.hid (by rw [hV]; exact heap_alloc_new _ _)
  have HV : Hid (Below w.heap.size w V) := Lib.hid (by
    rw [hV]
    exact ((((Below.refl _ _).alloc (Nat.le_refl _) _).alloc (by simp) _).trans (hb1.mono (by omega))).alloc (by omega) _)
  clear hV hb1 hE
  generalize w1.heap.size = b4 at *
  have S0 := HV.out.size
  go_loopw [5, 18] (fun s i wr => ∃ (k : Nat) (A1 : Option Addr) (c1 : Nat) (A2 : Option Addr) (c2 : Nat) (rows : List Value), k ≤ hs.length ∧ i = .int .i64 k ∧ s = .slice A2 k c2 ∧
    wr.heap[w.heap.size]? = some (.cells #[.slice none 0 0, .slice none 0 0, .slice none 0 0] 102 (0, 0)) ∧
    wr.heap[b4]? = some (.cells #[.slice A0 hs.length c0, .slice A1 k c1, .slice none 0 0] 102 (0, 0)) ∧ wr.ownsRow (b4 + 1) 151 4 (.slice A1 k c1) k rows ∧
    wr.ownsRow (b4 + 1) 3 1 (.slice A2 k c2) k (thDepths hs k) ∧ Below w.heap.size w wr ∧ Hid (∀ j, j < k → thMade (hs.getD j ⟨0, 0, 0, 0⟩) = true)) (fun _ i _ => hs.length - (intOf i).toNat)
  case atStart =>
    exact ⟨0, none, 0, none, 0, [], by omega, rfl, rfl, HB0.out, HB4.out, own_nilK _ _ _ _, own_nilK _ _ _ _, HV.out, fun j hj => absurd hj (Nat.not_lt_zero _)⟩
  case round =>
    clear HB0 HB4 HV
    obtain ⟨k, A1, c1, A2, c2, rows, hk, rfl, rfl, hq0, hq, ho1, ho2, hB, hm⟩ := hrel
    by_cases hlt : k < hs.length
    · obtain ⟨a, x, rfl, hx, h0, h1, h2, h3⟩ := (Hr.out.below hB).thAt hlt
      have Hx := Lib.hid hx; clear hx
      obtain ⟨prio, budget, period, depth⟩ := x
      dsimp only at h0 h1 h2 h3
      have f1 := Lib.hid (fun w => new15_any budget period w)
      have hsv : Hid (∀ y, svOk budget period = y → svOk budget period = y) := Lib.hid (fun _ h => h)
      generalize hs' : svOk budget period = sv at *
      have Hs := Lib.hid hs'; clear hs' hsv
      have s0 := hB.size
      go_wp2_with fail
      refine (f1.out _).mono ?_
      rintro e w2 ⟨rfl, hb⟩
      have HX := Lib.hid (box_new hb)
      have HQ0 := Lib.hid (box_keep (box_alloc hq0 (.cells #[.int .i64 prio, .int .i64 budget, .int .i64 period, .int .i64 depth] 60)) hb)
      have HQ := Lib.hid (box_keep (box_alloc hq (.cells #[.int .i64 prio, .int .i64 budget, .int .i64 period, .int .i64 depth] 60)) hb)
      have HO1 := Lib.hid (own_belowK (own_allocK ho1 (.cells #[.int .i64 prio, .int .i64 budget, .int .i64 period, .int .i64 depth] 60)) hb)
      have HO2 := Lib.hid (own_belowK (own_allocK ho2 (.cells #[.int .i64 prio, .int .i64 budget, .int .i64 period, .int .i64 depth] 60)) hb)
      have HB := Lib.hid ((hB.alloc s0 (.cells #[.int .i64 prio, .int .i64 budget, .int .i64 period, .int .i64 depth] 60)).trans (hb.mono (by simp; omega)))
      have s2 := hb.size
      simp at s2
      have Hlq := box_lt hq
      have lx2 := box_lt HX.out
      have lq2 := box_lt HQ.out
      have lq02 := box_lt HQ0.out
      clear hb hq hq0 ho1 ho2 hB h0 h1 h2 h3
      obtain ⟨hx, hy⟩ := box_rules HX.out
      obtain ⟨hqx, hqy⟩ := box_rules HQ.out
      obtain ⟨hq0x, hq0y⟩ := box_rules HQ0.out
      cases sv with
      | false =>
        go_wp2
        have hz := (box_rules (box_alloc (box_set (i := 2) (box_set (i := 1) (box_set (i := 0) HQ0.out (.slice none 0 0)) (.slice none 0 0)) (.slice none 0 0)) (.cells #[.int .i64 budget, .int .i64 period, .slice none 0 0, .int .i64 0] 151))).1
        refine bodyPost_ret (v := .tuple #[.agg #[.slice none 0 0, .slice none 0 0, .slice none 0 0], .bool false]) (by simp [results, Tryz.f55, go_sem, hz]) rfl ?_
        refine ⟨⟨_, _, _, _, _, _, _, _, _, by rw [bot_no hlt (by rw [Hx.out]; simp [thMade, Hs.out])]⟩, ?_⟩
        have bR : w.heap.size ≤ w.heap.size := Nat.le_refl _
        refine Below.alloc ?_ (by have := HB.out.size; simp; omega) _
        repeat (with_reducible first | refine Below.setCell ?_ bR _ | refine Below.drew ?_ | exact HB.out)
      | true =>
        by_cases t1 : prio < 0
        · go_wp2
          have hz := (box_rules (box_alloc (box_set (i := 2) (box_set (i := 1) (box_set (i := 0) HQ0.out (.slice none 0 0)) (.slice none 0 0)) (.slice none 0 0)) (.cells #[.int .i64 budget, .int .i64 period, .slice none 0 0, .int .i64 0] 151))).1
          refine bodyPost_ret (v := .tuple #[.agg #[.slice none 0 0, .slice none 0 0, .slice none 0 0], .bool false]) (by simp [results, Tryz.f55, go_sem, hz]) rfl ?_
          refine ⟨⟨_, _, _, _, _, _, _, _, _, by rw [bot_no hlt (by rw [Hx.out]; simp [thMade]; omega)]⟩, ?_⟩
          have bR : w.heap.size ≤ w.heap.size := Nat.le_refl _
          refine Below.alloc ?_ (by have := HB.out.size; simp; omega) _
          repeat (with_reducible first | refine Below.setCell ?_ bR _ | refine Below.drew ?_ | exact HB.out)
        · by_cases t2 : 63 < prio
          · go_wp2
            have hz := (box_rules (box_alloc (box_set (i := 2) (box_set (i := 1) (box_set (i := 0) HQ0.out (.slice none 0 0)) (.slice none 0 0)) (.slice none 0 0)) (.cells #[.int .i64 budget, .int .i64 period, .slice none 0 0, .int .i64 0] 151))).1
            refine bodyPost_ret (v := .tuple #[.agg #[.slice none 0 0, .slice none 0 0, .slice none 0 0], .bool false]) (by simp [results, Tryz.f55, go_sem, hz]) rfl ?_
            refine ⟨⟨_, _, _, _, _, _, _, _, _, by rw [bot_no hlt (by rw [Hx.out]; simp [thMade]; omega)]⟩, ?_⟩
            have bR : w.heap.size ≤ w.heap.size := Nat.le_refl _
            refine Below.alloc ?_ (by have := HB.out.size; simp; omega) _
            repeat (with_reducible first | refine Below.setCell ?_ bR _ | refine Below.drew ?_ | exact HB.out)
          · have Hlen := Lib.hid HB.out.size
            go_wp2_with (at_builtin; first | (refine wp_appK rfl _ _ sl_sv15 (by decide) rfl (own_allocK (own_allocK HO1.out _) _) rfl (by omega) (by simp; omega) _ [.int .i64 budget, .int .i64 period, .slice none 0 0, .int .i64 0] rfl rfl (fun j u hu => new_cell2 hu) rfl ?_; intro A3 c3 w3 ho3 hg3 _; have G3 := Lib.hid (grown_step (own_allocK HO1.out _) hg3); have HX3 := Lib.hid (G3.out.other (box_alloc HX.out _) (by decide)); have HQ3 := Lib.hid (G3.out.low (box_alloc HQ.out _) (Nat.lt_succ_self _)); have HQ03 := Lib.hid (G3.out.low (box_alloc HQ0.out _) (by omega)); have HO3 := Lib.hid ho3; have s3 := G3.out.size; simp at s3; clear ho3 hg3; obtain ⟨hx3, hy3⟩ := box_rules HX3.out; obtain ⟨hqx3, hqy3⟩ := box_rules HQ3.out) | (refine wp_app1g rfl _ _ sl_int (by decide) rfl (own_allocK (own_setK (G3.out.row (own_allocK HO2.out _) (by decide)) (own_low HO2.out (Nat.lt_succ_self _)) _) _) rfl (by omega) (by simp; omega) _ (.int .i64 depth) rfl (by go_simp) rfl ?_; intro A4 c4 w4 ho4 hg4 _; have G4 := Lib.hid (grown_step (own_setK (G3.out.row (own_allocK HO2.out _) (by decide)) (own_low HO2.out (Nat.lt_succ_self _)) _) hg4); have HO4 := Lib.hid ho4; clear ho4 hg4))
            go_roundw
            case rel =>
              have b3 := G3.out.below (HB.out.alloc Hlen.out _) (by omega) (by simp; omega)
              refine ⟨k + 1, A3, c3, A4, c4, _, by omega, by go_num, rfl, ?_, ?_, G4.out.row (own_setK HO3.out (own_low HO3.out (Nat.lt_succ_self _)) _) (by decide), ?_, G4.out.below (b3.setCell (p := ⟨b4, 1, none⟩) (by show w.heap.size ≤ b4; omega) _) (by omega) (by simp; omega), ?_⟩
              · exact G4.out.low (box_far HQ03.out (p := ⟨b4, 1, none⟩) (by show w.heap.size ≠ b4; omega) _) (by omega)
              · exact G4.out.low (box_set HQ3.out _) (Nat.lt_succ_self _)
              · rw [thDepths_succ hlt, Hx.out]; exact HO4.out
              · intro j hj
                by_cases he : j = k
                · subst he
                  rw [Hx.out]
                  simp [thMade, Hs.out]; omega
                · exact hm.out j (by omega)
            case measure => simp [intOf]; omega
    · obtain rfl : k = hs.length := by omega
      have HQ := Lib.hid hq; have HQ0 := Lib.hid hq0; have HB := Lib.hid hB
      clear hq hq0 hB
      obtain ⟨hqx, hqy⟩ := box_rules HQ.out
      obtain ⟨hq0x, hq0y⟩ := box_rules HQ0.out
      have lq2 := box_lt HQ.out
      have lq02 := box_lt HQ0.out
      by_cases hn : hs.length = 0
      · have hn0 : ((hs.length : Int) == 0) = true := beq_iff_eq.2 (by omega)
        have hy := Lib.hid (show botOk hs = true by rw [List.eq_nil_of_length_eq_zero hn]; rfl)
        clear hn
        go_wp2
        have hz := (box_rules (box_set (i := 2) (box_set (i := 1) (box_set (i := 0) HQ0.out (.slice A0 hs.length c0)) (.slice A1 hs.length c1)) (.slice none 0 0))).1
        refine bodyPost_ret (v := .tuple #[.agg #[.slice A0 hs.length c0, .slice A1 hs.length c1, .slice none 0 0], .bool true]) (by simp [results, Tryz.f55, go_sem, hz]) rfl ?_
        have bR : w.heap.size ≤ w.heap.size := Nat.le_refl _
        refine ⟨⟨_, _, _, _, _, _, _, _, _, by rw [hy.out]⟩, ?_⟩
        repeat (with_reducible first | refine Below.setCell ?_ bR _ | refine Below.drew ?_ | exact HB.out)
      · have hn0 : ((hs.length : Int) == 0) = false := beq_eq_false_iff_ne.2 (by omega)
        have f2 := Lib.hid (fun A c w hr => new17_any (hs.map (·.depth)) (by rw [List.length_map]; omega) A c w hr)
        have P2 : Hid (Rd wr A2 ((hs.map (·.depth)).map (.int .i64))) := by
          have h := own_rdK ho2
          rw [thDepths, List.take_length] at h
          rw [List.map_map]
          exact h
        rw [List.length_map] at f2
        have HY := Lib.hid (bot_ok hm.out (by omega : 1 ≤ hs.length))
        generalize wkOk (hs.map (·.depth)) = y at *
        go_wp2_with fail
        refine (f2.out _ _ _ P2.out).mono ?_
        rintro e w6 ⟨⟨A', n', c', rfl⟩, hb⟩
        have HQ6 := Lib.hid (box_keep HQ.out hb)
        have HQ06 := Lib.hid (box_keep HQ0.out hb)
        have HB6 := Lib.hid (HB.out.trans (hb.mono HB.out.size))
        clear hb
        obtain ⟨hx6, hy6⟩ := box_rules HQ6.out
        obtain ⟨hx06, hy06⟩ := box_rules HQ06.out
        have lq6 := box_lt HQ6.out
        have lq06 := box_lt HQ06.out
        go_wp2
        have hne : w.heap.size ≠ b4 := by omega
        have hz := (box_rules (box_set (i := 2) (box_set (i := 1) (box_set (i := 0) (box_far HQ06.out (p := ⟨b4, 2, none⟩) hne (.slice A' n' c')) (.slice A0 hs.length c0)) (.slice A1 hs.length c1)) (.slice A' n' c'))).1
        refine bodyPost_ret (v := .tuple #[.agg #[.slice A0 hs.length c0, .slice A1 hs.length c1, .slice A' n' c'], .bool y]) (by simp [results, Tryz.f55, go_sem, hz]) rfl ?_
        have bR : w.heap.size ≤ w.heap.size := Nat.le_refl _
        have b4R : w.heap.size ≤ b4 := by omega
        refine ⟨⟨_, _, _, _, _, _, _, _, _, by rw [HY.out]⟩, ?_⟩
        repeat (with_reducible first | refine Below.setCell ?_ bR _ | refine Below.setCell ?_ b4R _ | refine Below.drew ?_ | exact HB6.out)
end Go.Proofs.YtgampofpabllbaaGreat

/- Package vergeref08: the walks of Cancel, Next, New and Same. Conditions: lists that read. -/
import Derived.Test.YtiblpnadninmbaaGreatDoorRhAY
namespace Go.Proofs.YtiblpnadninmbaaGreatDoor
open Go.RowKit Go.Shelf
attribute [local go_sem] Oper.semAt_some

theorem can_none {L : List Du} {id : Int} (h : hasD L id = false) : canL L id = L := by
  unfold canL
  rw [List.filter_eq_self]
  intro x hx
  unfold hasD at h
  rw [List.any_eq_false] at h
  have := h x hx
  simpa using this
theorem take_fil {L : List Du} {id : Int} {k : Nat} (h : k < L.length) : canL (L.take (k + 1)) id = canL (L.take k) id ++ (if (L.getD k du0).id = id then [] else [L.getD k du0]) := by
  unfold canL
  rw [List.take_add_one, List.filter_append]
  congr 1
  rw [show L[k]? = some (L.getD k du0) from by simp [List.getD, h]]
  generalize L.getD k du0 = y
  simp only [Option.toList, List.filter]
  by_cases e : y.id = id <;> simp [e]
theorem can_len (L : List Du) (id : Int) (k : Nat) : (canL (L.take k) id).length ≤ k := by
  unfold canL
  have h1 := List.length_filter_le (fun x : Du => decide (x.id ≠ id)) (L.take k)
  have h2 := List.length_take_le k L
  omega
set_option maxHeartbeats 4000000 in
set_option maxRecDepth 100000 in
theorem rcan_any (now : Int) (room : Nat) (id : Int) (L : List Du) (A : Option Addr) (c : Nat) (w : World) (hl : L.length ≤ 1048576) (hr : Rd w A (L.flatMap duc)) :
    Calls Tryz.prog 61 #[rwv now room A L.length c, .int .i64 id] w (RetRw now room (canL L id) (canC L id) A w) := by
  have HR := Lib.hid hr
  have f2 : Hid (∀ X, Below w.heap.size w X → Calls Tryz.prog 85 #[.agg #[.int .i64 now, .int .i64 room, .slice A L.length c], .int .i64 id] X fun e w' => e = .returned (.tuple #[.int .i64 (atD L id), .int .i64 (canC L id)]) ∧ Below X.heap.size X w') := Lib.hid (fun X hX => rat_any now room id L A c X hl (hr.below hX))
  clear hr
  generalize atD L id = ad at *
  obtain ⟨ic, hic⟩ : ∃ ic, canC L id = ic := ⟨_, rfl⟩
  obtain ⟨il, hil⟩ : ∃ il, canL L id = il := ⟨_, rfl⟩
  have HIL9 := Lib.hid hil
  rw [hic] at f2
  rw [hic, hil]
  unfold rwv
  go_enter Tryz.func61, Tryz.ntmps61
  go_upto_region 1 with fail
  refine name_world fun V hV => ?_
  have hb0 : V.heap[w.heap.size]? = some (.cells #[.int .i64 now, .int .i64 room, .slice A L.length c] 32 (0, 0)) := by rw [hV]; exact box_alloc (heap_alloc_new _ _) _
  have hb1 : V.heap[w.heap.size + 1]? = some (.cells #[.int .i64 0, .int .i64 0, .slice none 0 0] 32 (0, 0)) := by rw [hV]; exact heap_new_at _ (by simp)
  have HB0 := Lib.hid hb0; have HB1 := Lib.hid hb1
  have HBV : Hid (Below w.heap.size w V) := Lib.hid (by rw [hV]; exact ((Below.refl _ _).alloc (Nat.le_refl _) _).alloc (by simp) _)
  clear hV
  obtain ⟨x0, y0⟩ := box_rules hb0
  obtain ⟨x1, y1⟩ := box_rules hb1
  have l1 := box_lt hb1
  clear hb0 hb1
  by_cases hh : hasD L id = true
  · have HIC2 : Hid (ic = 0) := Lib.hid (by rw [← hic]; unfold canC; rw [if_pos hh])
    have HCL : Hid (canL (L.take L.length) id = il) := Lib.hid (by rw [List.take_length]; exact hil)
    rw [HIC2.out] at f2
    clear hh hic hil
    go_upto_region 5 with (go_at_call 85; (with_reducible refine (f2.out _ HBV.out).mono ?_); rintro e w2 ⟨rfl, hb2⟩; have HW0 := Lib.hid (HBV.out.trans (hb2.mono HBV.out.size)); have HW1 := Lib.hid (box_keep HB0.out hb2); have HW2 := Lib.hid (box_keep HB1.out hb2); clear hb2 x0 y0 x1 y1 l1)
    obtain ⟨x0, y0⟩ := box_rules HW1.out
    go_wp2
    go_loopw [8, 24] (fun o i wr => ∃ (k : Nat) (l : List Du) (P : Option Addr) (cp : Nat), k ≤ L.length ∧ l.length ≤ k ∧ i = .int .i64 k ∧ o = .slice P l.length cp ∧ Hid (l = canL (L.take k) id) ∧
      Hid (wr.ownsRow (w.heap.size + 2) 140 2 (.slice P l.length cp) l.length (l.flatMap duc)) ∧
      Hid (wr.heap[w.heap.size]? = some (.cells #[.int .i64 now, .int .i64 room, .slice A L.length c] 32 (0, 0))) ∧ Hid (wr.heap[w.heap.size + 1]? = some (.cells #[.int .i64 0, .int .i64 0, .slice none 0 0] 32 (0, 0))) ∧ Hid (Below w.heap.size w wr)) (fun _ i _ => L.length - (intOf i).toNat)
    case atStart => exact ⟨0, [], none, 0, by omega, by simp, rfl, rfl, Lib.hid rfl, Lib.hid (own_nilK _ _ _ _), HW1, HW2, HW0⟩
    case round =>
      obtain ⟨k, l, P, cp, hk, hlk, rfl, rfl, HE, HOr, HC0, HC1, HBr⟩ := hrel
      clear HW0 HW1 HW2 x0 y0
      have HL1 := Lib.hid (box_lt HC1.out)
      by_cases hlt : k < L.length
      · obtain ⟨a, x, rfl, hx, g0, g1⟩ := (HR.out.below HBr.out).duAt hlt
        have HS := Lib.hid (take_fil (id := id) hlt)
        rw [hx] at HS
        clear hx
        obtain ⟨d0, d1⟩ := x
        dsimp only at *
        go_upto_region 8 with fail
        refine name_world fun U hU => ?_
        have hbu : Below wr.heap.size wr U := by rw [hU]; exact (Below.refl _ _).alloc (Nat.le_refl _) _
        have HX : Hid (U.heap[wr.heap.size]? = some (.cells #[.int .i64 d0, .int .i64 d1] 140 (0, 0))) := Lib.hid (by rw [hU]; exact heap_alloc_new _ _)
        have HOu := Lib.hid (own_belowK HOr.out hbu)
        have HCu0 := Lib.hid (box_keep HC0.out hbu)
        have HCu1 := Lib.hid (box_keep HC1.out hbu)
        have HBu := Lib.hid (HBr.out.trans (hbu.mono HBr.out.size))
        have lc := box_lt HCu1.out
        clear hU hbu g0 g1 HOr HC0 HC1 HBr HL1
        generalize wr.heap.size = bx at *
        obtain ⟨xx, xy⟩ := box_rules HX.out
        by_cases he : d0 = id
        · rw [if_pos he] at HS
          have he2 : (d0 != id) = false := by simpa using he
          have HE3 : Hid (l = canL (L.take (k + 1)) id) := Lib.hid (by rw [HS.out, HE.out, List.append_nil])
          clear HS HE he
          go_wp2
          refine ⟨⟨k + 1, l, P, cp, hlt, by omega, by go_num, rfl, HE3, HOu, HCu0, HCu1, HBu⟩, ?_⟩
          simp [intOf]; omega
        · rw [if_neg he] at HS
          have he2 : (d0 != id) = true := by simpa using he
          have HE3 : Hid (l ++ [⟨d0, d1⟩] = canL (L.take (k + 1)) id) := Lib.hid (by rw [HS.out, HE.out])
          clear HS HE he
          go_wp2_with (at_builtin; go_loud (refine wp_appK rfl _ _ skc_du (by decide) rfl (own_allocK HOu.out _) rfl (by omega) (by simp; omega) U.heap.size [.int .i64 d0, .int .i64 d1] rfl rfl (fun j u hu => new_cell hu) rfl ?_); intro P4 c4 w4 ho4 hg4 hat4; have S4 := Lib.hid (grown_step HOu.out hg4))
          refine ⟨⟨k + 1, l ++ [⟨d0, d1⟩], P4, c4, hlt, by rw [List.length_append]; show l.length + 1 ≤ _; omega, by go_num, by rw [List.length_append]; rfl, HE3, Lib.hid ?_, Lib.hid (S4.out.low HCu0.out (by omega)), Lib.hid (S4.out.low HCu1.out (by omega)), Lib.hid (S4.out.below HBu.out (by omega) HBu.out.size)⟩, ?_⟩
          · rw [List.length_append, List.flatMap_append]; exact ho4
          · simp [intOf]; omega
      · obtain rfl : k = L.length := by omega
        have HNL : Hid (il = l) := Lib.hid (by rw [HE.out, HCL.out])
        obtain ⟨x0, y0⟩ := box_rules HC0.out
        clear hlt HCL HE
        have l0 := box_lt HC0.out
        go_upto_region 12 with fail
        refine name_world fun U hU => ?_
        have HU0 : Hid (U.heap[w.heap.size]? = some (.cells #[.int .i64 now, .int .i64 room, .slice P l.length cp] 32 (0, 0))) := Lib.hid (by rw [hU]; exact box_set (i := 2) HC0.out _)
        have HU1 : Hid (U.heap[w.heap.size + 1]? = some (.cells #[.int .i64 0, .int .i64 0, .slice none 0 0] 32 (0, 0))) := Lib.hid (by rw [hU]; exact box_far HC1.out (Nat.succ_ne_self _) _)
        have HUR : Hid (U.ownsRow (w.heap.size + 2) 140 2 (.slice P l.length cp) l.length (il.flatMap duc)) := Lib.hid (by
          rw [hU, HNL.out]
          exact own_setK HOr.out (own_low HOr.out (show w.heap.size < w.heap.size + 2 by omega)) _)
        have HUB : Hid (Below w.heap.size w U) := Lib.hid (by rw [hU]; exact HBr.out.setCell (Nat.le_refl _) _)
        have HN3 : Hid (∀ b, P = some b → A = some b ∨ w.heap.size ≤ b.block) := Lib.hid (fun b hb => by
          subst hb
          exact .inr (Nat.le_trans (Nat.le_add_right _ 2) (own_blockK HOr.out rfl).1))
        clear hU x0 y0 HOr HC0 HC1 HBr HL1
        obtain ⟨x0, y0⟩ := box_rules HU0.out
        obtain ⟨x1, y1⟩ := box_rules HU1.out
        go_wp2
        refine name_post fun V4 hV4 => ?_
        have HB4 : Hid (Below w.heap.size w V4) := Lib.hid (by rw [hV4]; exact ((HUB.out.setCell (p := ⟨w.heap.size + 1, 0, none⟩) (Nat.le_succ _) _).setCell (p := ⟨w.heap.size + 1, 1, none⟩) (Nat.le_succ _) _).setCell (p := ⟨w.heap.size + 1, 2, none⟩) (Nat.le_succ _) _)
        have hE4 : V4.heap[w.heap.size + 1]? = some (.cells #[.int .i64 now, .int .i64 room, .slice P l.length cp] 32 (0, 0)) := by rw [hV4]; exact box_set (i := 2) (box_set (i := 1) (box_set (i := 0) HU1.out _) _) _
        have HO4 : Hid (V4.ownsRow (w.heap.size + 2) 140 2 (.slice P l.length cp) l.length (il.flatMap duc)) := Lib.hid (by
          rw [hV4]
          exact own_setK (own_setK (own_setK HUR.out (own_low HUR.out (Nat.lt_succ_self _)) _) (own_low HUR.out (Nat.lt_succ_self _)) _) (own_low HUR.out (Nat.lt_succ_self _)) _)
        have HR4 : Hid (Rd V4 P (il.flatMap duc)) := Lib.hid (own_rdK HO4.out)
        obtain ⟨vx, vy⟩ := box_rules hE4
        clear hV4
        refine bodyPost_ret (v := .tuple #[.agg #[.int .i64 now, .int .i64 room, .slice P l.length cp], .int .i64 0]) (by simp [results, Tryz.f61, go_sem, vx]) rfl ?_
        exact ⟨P, cp, by rw [HIC2.out, HNL.out]; rfl, HR4.out, fun b hb => (HN3.out b hb).imp (fun h8 => h8) (fun h9 => ⟨h9, by subst hb; exact (own_blockK HO4.out rfl).2.1⟩), HB4.out⟩
  · have hh2 : hasD L id = false := by simpa using hh
    have HIC2 : Hid (ic = 3) := Lib.hid (by rw [← hic]; unfold canC; rw [if_neg hh])
    have HIL2 : Hid (il = L) := Lib.hid (by rw [← hil]; exact can_none hh2)
    rw [HIC2.out] at f2
    have t3 : ((3 : Int) != 0) = true := by decide
    clear hh hic hil
    go_upto_region 2 with (go_at_call 85; (with_reducible refine (f2.out _ HBV.out).mono ?_); rintro e w2 ⟨rfl, hb2⟩; have HW : Below w.heap.size w w2 ∧ w2.heap[w.heap.size]? = some (.cells #[.int .i64 now, .int .i64 room, .slice A L.length c] 32 (0, 0)) ∧ w2.heap[w.heap.size + 1]? = some (.cells #[.int .i64 0, .int .i64 0, .slice none 0 0] 32 (0, 0)) := ⟨HBV.out.trans (hb2.mono HBV.out.size), box_keep HB0.out hb2, box_keep HB1.out hb2⟩; clear hb2 x0 y0 x1 y1 l1)
    have hq0 := HW.2.1; have hq1 := HW.2.2
    obtain ⟨x0, y0⟩ := box_rules hq0
    obtain ⟨x1, y1⟩ := box_rules hq1
    have l1 := box_lt hq1
    have HQ := Lib.hid HW
    clear hq0 hq1
    go_wp2
    refine name_post fun V4 hV4 => ?_
    have HB4 : Hid (Below w.heap.size w V4) := Lib.hid (by rw [hV4]; exact ((HQ.out.1.setCell (p := ⟨w.heap.size + 1, 0, none⟩) (Nat.le_succ _) _).setCell (p := ⟨w.heap.size + 1, 1, none⟩) (Nat.le_succ _) _).setCell (p := ⟨w.heap.size + 1, 2, none⟩) (Nat.le_succ _) _)
    have hE4 : V4.heap[w.heap.size + 1]? = some (.cells #[.int .i64 now, .int .i64 room, .slice A (L).length c] 32 (0, 0)) := by rw [hV4]; exact box_set (i := 2) (box_set (i := 1) (box_set (i := 0) HQ.out.2.2 _) _) _
    have HR4 : Hid (Rd V4 A ((L).flatMap duc)) := Lib.hid (by rw [hV4]; exact (HR.out.below (((HQ.out.1.setCell (p := ⟨w.heap.size + 1, 0, none⟩) (Nat.le_succ _) _).setCell (p := ⟨w.heap.size + 1, 1, none⟩) (Nat.le_succ _) _).setCell (p := ⟨w.heap.size + 1, 2, none⟩) (Nat.le_succ _) _)))
    obtain ⟨vx, vy⟩ := box_rules hE4
    clear hV4
    refine bodyPost_ret (v := .tuple #[.agg #[.int .i64 now, .int .i64 room, .slice A (L).length c], .int .i64 3]) (by simp [results, Tryz.f61, go_sem, vx]) rfl ?_
    exact ⟨A, c, by rw [HIC2.out, HIL2.out]; rfl, by rw [HIL2.out]; exact HR4.out, fun a h => .inl h, HB4.out⟩
end Go.Proofs.YtiblpnadninmbaaGreatDoor

/- Package vergelaw08: the walk of WheelOnce. Conditions: a list that reads, the de Bruijn table. -/
import Derived.Test.YtiblpnadninmbaaDoorWlD
import Derived.Test.YtiblpnadninmbaaDoorWlC
import Derived.Test.YtiblpnadninmbaaDoorWlG
namespace Go.Proofs.YtiblpnadninmbaaDoor
open Go.RowKit Go.Shelf
attribute [local go_sem] Oper.semAt_some
set_option maxHeartbeats 4000000 in
set_option maxRecDepth 100000 in
theorem wheelOnce_any (now room : Int) (l : List Du) (A : Option Addr) (c : Nat) (cancel tt : Int) (w : World) (hr : Rd w A (l.flatMap duc)) (hid : ∀ x ∈ l, I64N x.id) (hcn : I64N cancel) (hT : Tab w) :
    Calls Tryd.prog 10 #[.int .i64 now, .int .i64 room, .slice A l.length c, .int .i64 cancel, .int .i64 tt] w fun e w' => e = .returned (.bool true) ∧ Below w.heap.size w w' := by
  have HR := Lib.hid hr; have HI := Lib.hid hid; have HT := Lib.hid hT
  have Hlt := Lib.hid hT.lt
  have f1 := Lib.hid (lives08_any w hT)
  by_cases hg : (0 ≤ now ∧ now ≤ 4503599627370496 ∧ 1 ≤ room ∧ room ≤ 4096) ∧ l.length ≤ 200
  · obtain ⟨⟨h0, h1, h2, h3⟩, h4⟩ := hg
    obtain ⟨r, rfl⟩ : ∃ r : Nat, room = r := ⟨room.toNat, by omega⟩
    have f2 := Lib.hid (fun X (hX : Below w.heap.size w X) => filled_ok now r l A c X h4 (hr.below hX) hid h0 h1 (by omega) (by omega))
    unfold RetFi at f2
    clear hr hid hT h0 h1 h2 h3
    go_enter Tryd.func10, Tryd.ntmps10
    go_upto_region 3 with (go_at_call 39; (with_reducible refine f1.out.mono ?_); rintro e w1 ⟨rfl, hb1⟩; have HB1 := Lib.hid hb1; clear hb1)
    go_upto_region 6 with (go_at_call 52; (with_reducible refine (f2.out _ HB1.out).mono ?_); rintro e w2 ⟨f, rfl, hf2, hw2, hb2⟩; have HF := Lib.hid hf2; have HWf := Lib.hid hw2; have HB2 := Lib.hid (HB1.out.trans (hb2.mono HB1.out.size)); have HS1 := Lib.hid HB1.out.size; clear hf2 hw2 hb2 HB1)
    have HGt : Hid (0 ∉ f.l) := Lib.hid (fun hm => by have h8 := HF.out _ hm; have h7 := HS1.out; have h9 := Hlt.out; omega)
    have HTw : Hid (Tab w2) := Lib.hid (HT.out.below HB2.out Hlt.out)
    have HFB : Hid (∀ b ∈ f.l, w.heap.size ≤ b) := Lib.hid (fun b hb => Nat.le_trans HS1.out (HF.out b hb))
    have hOn : OnI (filL r l) cancel tt := OnI.mk' HWf.out.ids.1 HWf.out.ids.2 HWf.out.at0
    have HOt := Lib.hid hOn.told
    have HOu := Lib.hid hOn.up
    have HOx := Lib.hid hOn.next
    have HOl := Lib.hid hOn.len
    have Hfl : Hid ((filL r l).length ≤ 4096) := Lib.hid (by have := HWf.out.n0; omega)
    have f3 := Lib.hid (fun X (hX : Whl X f r now (filL r l) l.length) => whl_len f r now (filL r l) l.length X hX)
    have f4 := Lib.hid (fun X (hX : Whl X f r now (filL r l) l.length) => whl_cancel f r now (filL r l) l.length X cancel hX hcn)
    clear f1 f2 HR HI hOn
    generalize canL (filL r l) cancel = L1 at *
    by_cases hcc : canC (filL r l) cancel = 0
    · rw [if_pos hcc] at HOl
      rw [hcc] at f4
      obtain ⟨n0, hn0⟩ : ∃ n0, (filL r l).length = n0 := ⟨_, rfl⟩
      rw [hn0] at HOl f3 Hfl
      clear hcc hn0
      go_upto_region 8 with (first
        | (go_at_call 29; (with_reducible refine (f3.out _ HWf.out).mono ?_); rintro e w3 ⟨rfl, rfl⟩)
        | (go_at_call 46; (with_reducible refine (f4.out _ HWf.out).mono ?_); rintro e w4 ⟨rfl, hw4, ht4⟩; have HW4 := Lib.hid hw4; have HT4 := Lib.hid ht4; clear hw4 ht4))
      have HB4 : Hid (Tab w4) := Lib.hid (HTw.out.tn HT4.out HGt.out)
      by_cases hto : now ≤ tt ∧ tt ≤ 4503599627370496
      · have f5 := Lib.hid (whl_move f r now L1 l.length w4 tt HW4.out HB4.out HGt.out)
        unfold RetMv at f5
        simp only [if_pos hto] at f5
        have HTo := Lib.hid hto
        generalize mvD tt L1 = M at *
        generalize rsD tt L1 = R at *
        have hM4 : M.length ≤ 4096 := by have := HOl.out; have := Hfl.out; omega
        clear hto
        go_upto_region 14 with (go_at_call 48; (with_reducible refine f5.out.mono ?_); rintro e w5 ⟨A5, c5, rfl, hr5, ha5, hw5, ht5⟩; have HR5 := Lib.hid hr5; have HW5 := Lib.hid hw5; have HT5 := Lib.hid (HT4.out.trans ht5); clear hr5 ha5 hw5 ht5)
        have HB5 : Hid (Tab w5) := Lib.hid (HTw.out.tn HT5.out HGt.out)
        have fA := Lib.hid (fun X id (hi : I64N id) (hX : Whl X f r tt R l.length) => whl_at f r tt R l.length X id hX hi)
        have fL := Lib.hid (fun X (hX : Whl X f r tt R l.length) => whl_len f r tt R l.length X hX)
        have fN := Lib.hid (fun X (hX : Whl X f r tt R l.length) (hT : Tab X) => whl_next f r tt R l.length X hX hT)
        clear f3 f4 f5
        go_wp2
        go_loopw [59] (fun i wr => ∃ k : Nat, i = .int .i64 k ∧ k ≤ M.length ∧ Hid (Below w5.heap.size w5 wr)) (fun i _ => M.length - (intOf i).toNat)
        case atStart => exact ⟨0, rfl, by omega, Lib.hid (Below.refl _ _)⟩
        case round =>
          obtain ⟨k, rfl, hk, HBj⟩ := hrel
          have HWj := Lib.hid (HW5.out.below HBj.out)
          by_cases hlt : k < M.length
          · obtain ⟨a, x, rfl, hx, g0, g1⟩ := (HR5.out.below HBj.out).duAt hlt
            have hxM : x ∈ M := by rw [← hx, getD_lt hlt]; exact List.getElem_mem _
            obtain ⟨q1, q2, q3, q4⟩ := HOt.out x hxM
            have hup : k = 0 ∨ ∃ k1 b1, k = k1 + 1 ∧ wr.cell? ⟨(a.add (k1 * 2)).block, (a.add (k1 * 2)).off + 1, none⟩ = some (.int .i64 b1) ∧ b1 ≤ x.at' ∧ k1 < M.length := by
              rcases Nat.eq_zero_or_pos k with h9 | h9
              · exact .inl h9
              · obtain ⟨k1, rfl⟩ : ∃ k1, k = k1 + 1 := ⟨k - 1, by omega⟩
                obtain ⟨a', y, ha', hy, _, g3⟩ := (HR5.out.below HBj.out).duAt (show k1 < M.length by omega)
                cases ha'
                have h8 := HOu.out k1 hlt
                rw [hy, hx] at h8
                exact .inr ⟨k1, y.at', rfl, g3, h8, by omega⟩
            obtain ⟨x0, x1⟩ := x
            dsimp only at *
            go_upto_region 17 with fail
            refine name_world fun V hV => ?_
            have hbV : Below wr.heap.size wr V := by rw [hV]; exact (Below.refl _ _).alloc (Nat.le_refl _) _
            have HX : Hid (V.heap[wr.heap.size]? = some (.cells #[.int .i64 x0, .int .i64 x1] 98 (0, 0))) := Lib.hid (by rw [hV]; exact heap_alloc_new _ _)
            have HWV := Lib.hid (HWj.out.below hbV)
            have HBV := Lib.hid (HBj.out.trans (hbV.mono HBj.out.size))
            have fA3 := Lib.hid (fA.out V x0 q4 HWV.out)
            rw [q3] at fA3
            obtain ⟨xx, xy⟩ := box_rules HX.out
            have lbx := box_lt HX.out
            generalize atD R x0 = ad at *
            have e1 : decide (tt < x1) = false := decide_eq_false (by omega)
            have e2 : (x0 == cancel) = false := beq_eq_false_iff_ne.2 q2
            rcases hup with rfl | ⟨k1, b1, rfl, g3, hb1, hk1⟩
            · clear hV g0 g1 hx hxM
              go_upto_region 18 with (go_at_call 50; (with_reducible refine fA3.out.mono ?_); rintro e w6 ⟨rfl, rfl⟩)
              go_big_quiet (fail)
              go_wp2
              go_roundw
              case rel => exact ⟨1, rfl, hlt, Lib.hid (HBV.out.drewsN _)⟩
              case measure => simp [intOf]; omega
            · have g3V : V.cell? ⟨(a.add (k1 * 2)).block, (a.add (k1 * 2)).off + 1, none⟩ = some (.int .i64 b1) := by
                rw [← g3]
                exact hbV.cell (World.block_lt_of_cell? wr _ g3)
              clear hV g0 g1 hx hxM g3
              have e3 : decide (x1 < b1) = false := decide_eq_false (by omega)
              have e6 : (k1 : Int) < (M.length : Int) := by omega
              have e7 : (0 : Int) ≤ (k1 : Int) := by omega
              have e8 : (k1 : Int).toNat = k1 := by omega
              have e9 : (0 : Int) < (k1 : Int) + 1 := by omega
              have e4 : decide ((0 : Int) < (k1 : Int) + 1) = true := decide_eq_true (by omega)
              have e5 : IntKind.i64.wrap ((k1 : Int) + 1 - 1) = (k1 : Int) := by rw [show (k1 : Int) + 1 - 1 = k1 by omega]; exact IntWalk.i64_in _ (by omega)
              go_upto_region 18 with (go_at_call 50; (with_reducible refine fA3.out.mono ?_); rintro e w6 ⟨rfl, rfl⟩)
              go_big_quiet (fail)
              go_wp2
              go_roundw
              case rel => exact ⟨k1 + 2, by go_num, by omega, Lib.hid (HBV.out.drewsN _)⟩
              case measure => simp [intOf]; omega
          · obtain rfl : k = M.length := by omega
            have HTj := Lib.hid (HB5.out.below HBj.out HB5.out.lt)
            by_cases hRn : R = []
            · subst hRn
              have fN2 := Lib.hid (fN.out wr HWj.out HTj.out)
              rw [if_pos rfl] at fN2
              simp only [decide_true, Bool.not_true] at fN2
              have hl0 : ([] : List Du).length = 0 := rfl
              rw [hl0] at fL HOl
              have hq : (M.length : Int) + 1 = n0 := by have := HOl.out; omega
              have hq' : ((M.length : Int) + 1 == n0) = true := beq_iff_eq.2 hq
              go_wp2_with (first
                | (go_at_call 27; (with_reducible refine fN2.out.mono ?_); rintro e w6 ⟨rfl, hb6⟩; have HW6 := Lib.hid (HWj.out.below hb6); have HB6 := Lib.hid (HBj.out.trans (hb6.mono HBj.out.size)); clear hb6)
                | (go_at_call 29; (with_reducible refine (fL.out _ HW6.out).mono ?_); rintro e w7 ⟨rfl, rfl⟩))
              go_ret
              exact ⟨rfl, (HT5.out.base HB2.out HFB.out HB2.out.size).trans (HB6.out.mono (Nat.le_trans HB2.out.size HT5.out.size))⟩
            · have hgt := HOx.out hRn
              have fN2 := Lib.hid (fN.out wr HWj.out HTj.out)
              rw [if_neg hRn] at fN2
              simp only [hRn, decide_false, Bool.not_false] at fN2
              obtain ⟨n9, hn9⟩ : ∃ n9, minD 4503599627370496 R = n9 := ⟨_, rfl⟩
              rw [hn9] at fN2 hgt
              have hq : (R.length : Int) + M.length + 1 = n0 := by have := HOl.out; omega
              have hq' : ((R.length : Int) + M.length + 1 == n0) = true := beq_iff_eq.2 hq
              have hRl : R.length ≤ 4096 := by have := HOl.out; have := Hfl.out; omega
              have hgt' : decide (tt < n9) = true := decide_eq_true hgt
              go_wp2_with (first
                | (go_at_call 27; (with_reducible refine fN2.out.mono ?_); rintro e w6 ⟨rfl, hb6⟩; have HW6 := Lib.hid (HWj.out.below hb6); have HB6 := Lib.hid (HBj.out.trans (hb6.mono HBj.out.size)); clear hb6)
                | (go_at_call 29; (with_reducible refine (fL.out _ HW6.out).mono ?_); rintro e w7 ⟨rfl, rfl⟩))
              go_ret
              exact ⟨rfl, (HT5.out.base HB2.out HFB.out HB2.out.size).trans (HB6.out.mono (Nat.le_trans HB2.out.size HT5.out.size))⟩
      · have f5 := Lib.hid (whl_move f r now L1 l.length w4 tt HW4.out HB4.out HGt.out)
        unfold RetMv at f5
        simp only [if_neg hto] at f5
        have hto' : tt < now ∨ (¬ tt < now ∧ 4503599627370496 < tt) := by omega
        clear f3
        rcases hto' with hq1 | ⟨hq1, hq2⟩
        · go_wp2_with (go_at_call 48; (with_reducible refine f5.out.mono ?_); rintro e w5 ⟨rfl, hw5, ht5⟩; have HT5 := Lib.hid (HT4.out.trans ht5); clear hw5 ht5)
          go_ret
          exact ⟨rfl, HT5.out.base HB2.out HFB.out HB2.out.size⟩
        · go_wp2_with (go_at_call 48; (with_reducible refine f5.out.mono ?_); rintro e w5 ⟨rfl, hw5, ht5⟩; have HT5 := Lib.hid (HT4.out.trans ht5); clear hw5 ht5)
          go_ret
          exact ⟨rfl, HT5.out.base HB2.out HFB.out HB2.out.size⟩
    · have hcc' : canC (filL r l) cancel = 3 := by
        unfold canC at hcc ⊢
        split
        · rename_i h9; rw [if_pos h9] at hcc; exact absurd rfl hcc
        · rfl
      rw [if_neg hcc] at HOl
      rw [hcc'] at f4
      obtain ⟨n0, hn0⟩ : ∃ n0, (filL r l).length = n0 := ⟨_, rfl⟩
      rw [hn0] at HOl f3 Hfl
      clear hcc hcc' hn0
      go_upto_region 8 with (first
        | (go_at_call 29; (with_reducible refine (f3.out _ HWf.out).mono ?_); rintro e w3 ⟨rfl, rfl⟩)
        | (go_at_call 46; (with_reducible refine (f4.out _ HWf.out).mono ?_); rintro e w4 ⟨rfl, hw4, ht4⟩; have HW4 := Lib.hid hw4; have HT4 := Lib.hid ht4; clear hw4 ht4))
      have HB4 : Hid (Tab w4) := Lib.hid (HTw.out.tn HT4.out HGt.out)
      by_cases hto : now ≤ tt ∧ tt ≤ 4503599627370496
      · have f5 := Lib.hid (whl_move f r now L1 l.length w4 tt HW4.out HB4.out HGt.out)
        unfold RetMv at f5
        simp only [if_pos hto] at f5
        have HTo := Lib.hid hto
        generalize mvD tt L1 = M at *
        generalize rsD tt L1 = R at *
        have hM4 : M.length ≤ 4096 := by have := HOl.out; have := Hfl.out; omega
        clear hto
        go_upto_region 14 with (go_at_call 48; (with_reducible refine f5.out.mono ?_); rintro e w5 ⟨A5, c5, rfl, hr5, ha5, hw5, ht5⟩; have HR5 := Lib.hid hr5; have HW5 := Lib.hid hw5; have HT5 := Lib.hid (HT4.out.trans ht5); clear hr5 ha5 hw5 ht5)
        have HB5 : Hid (Tab w5) := Lib.hid (HTw.out.tn HT5.out HGt.out)
        have fA := Lib.hid (fun X id (hi : I64N id) (hX : Whl X f r tt R l.length) => whl_at f r tt R l.length X id hX hi)
        have fL := Lib.hid (fun X (hX : Whl X f r tt R l.length) => whl_len f r tt R l.length X hX)
        have fN := Lib.hid (fun X (hX : Whl X f r tt R l.length) (hT : Tab X) => whl_next f r tt R l.length X hX hT)
        clear f3 f4 f5
        go_wp2
        go_loopw [59] (fun i wr => ∃ k : Nat, i = .int .i64 k ∧ k ≤ M.length ∧ Hid (Below w5.heap.size w5 wr)) (fun i _ => M.length - (intOf i).toNat)
        case atStart => exact ⟨0, rfl, by omega, Lib.hid (Below.refl _ _)⟩
        case round =>
          obtain ⟨k, rfl, hk, HBj⟩ := hrel
          have HWj := Lib.hid (HW5.out.below HBj.out)
          by_cases hlt : k < M.length
          · obtain ⟨a, x, rfl, hx, g0, g1⟩ := (HR5.out.below HBj.out).duAt hlt
            have hxM : x ∈ M := by rw [← hx, getD_lt hlt]; exact List.getElem_mem _
            obtain ⟨q1, q2, q3, q4⟩ := HOt.out x hxM
            have hup : k = 0 ∨ ∃ k1 b1, k = k1 + 1 ∧ wr.cell? ⟨(a.add (k1 * 2)).block, (a.add (k1 * 2)).off + 1, none⟩ = some (.int .i64 b1) ∧ b1 ≤ x.at' ∧ k1 < M.length := by
              rcases Nat.eq_zero_or_pos k with h9 | h9
              · exact .inl h9
              · obtain ⟨k1, rfl⟩ : ∃ k1, k = k1 + 1 := ⟨k - 1, by omega⟩
                obtain ⟨a', y, ha', hy, _, g3⟩ := (HR5.out.below HBj.out).duAt (show k1 < M.length by omega)
                cases ha'
                have h8 := HOu.out k1 hlt
                rw [hy, hx] at h8
                exact .inr ⟨k1, y.at', rfl, g3, h8, by omega⟩
            obtain ⟨x0, x1⟩ := x
            dsimp only at *
            go_upto_region 17 with fail
            refine name_world fun V hV => ?_
            have hbV : Below wr.heap.size wr V := by rw [hV]; exact (Below.refl _ _).alloc (Nat.le_refl _) _
            have HX : Hid (V.heap[wr.heap.size]? = some (.cells #[.int .i64 x0, .int .i64 x1] 98 (0, 0))) := Lib.hid (by rw [hV]; exact heap_alloc_new _ _)
            have HWV := Lib.hid (HWj.out.below hbV)
            have HBV := Lib.hid (HBj.out.trans (hbV.mono HBj.out.size))
            have fA3 := Lib.hid (fA.out V x0 q4 HWV.out)
            rw [q3] at fA3
            obtain ⟨xx, xy⟩ := box_rules HX.out
            have lbx := box_lt HX.out
            generalize atD R x0 = ad at *
            have e1 : decide (tt < x1) = false := decide_eq_false (by omega)
            have e2 : (x0 == cancel) = false := beq_eq_false_iff_ne.2 q2
            rcases hup with rfl | ⟨k1, b1, rfl, g3, hb1, hk1⟩
            · clear hV g0 g1 hx hxM
              go_upto_region 18 with (go_at_call 50; (with_reducible refine fA3.out.mono ?_); rintro e w6 ⟨rfl, rfl⟩)
              go_big_quiet (fail)
              go_wp2
              go_roundw
              case rel => exact ⟨1, rfl, hlt, Lib.hid (HBV.out.drewsN _)⟩
              case measure => simp [intOf]; omega
            · have g3V : V.cell? ⟨(a.add (k1 * 2)).block, (a.add (k1 * 2)).off + 1, none⟩ = some (.int .i64 b1) := by
                rw [← g3]
                exact hbV.cell (World.block_lt_of_cell? wr _ g3)
              clear hV g0 g1 hx hxM g3
              have e3 : decide (x1 < b1) = false := decide_eq_false (by omega)
              have e6 : (k1 : Int) < (M.length : Int) := by omega
              have e7 : (0 : Int) ≤ (k1 : Int) := by omega
              have e8 : (k1 : Int).toNat = k1 := by omega
              have e9 : (0 : Int) < (k1 : Int) + 1 := by omega
              have e4 : decide ((0 : Int) < (k1 : Int) + 1) = true := decide_eq_true (by omega)
              have e5 : IntKind.i64.wrap ((k1 : Int) + 1 - 1) = (k1 : Int) := by rw [show (k1 : Int) + 1 - 1 = k1 by omega]; exact IntWalk.i64_in _ (by omega)
              go_upto_region 18 with (go_at_call 50; (with_reducible refine fA3.out.mono ?_); rintro e w6 ⟨rfl, rfl⟩)
              go_big_quiet (fail)
              go_wp2
              go_roundw
              case rel => exact ⟨k1 + 2, by go_num, by omega, Lib.hid (HBV.out.drewsN _)⟩
              case measure => simp [intOf]; omega
          · obtain rfl : k = M.length := by omega
            have HTj := Lib.hid (HB5.out.below HBj.out HB5.out.lt)
            by_cases hRn : R = []
            · subst hRn
              have fN2 := Lib.hid (fN.out wr HWj.out HTj.out)
              rw [if_pos rfl] at fN2
              simp only [decide_true, Bool.not_true] at fN2
              have hl0 : ([] : List Du).length = 0 := rfl
              rw [hl0] at fL HOl
              have hq : (M.length : Int) + 0 = n0 := by have := HOl.out; omega
              have hq' : ((M.length : Int) + 0 == n0) = true := beq_iff_eq.2 hq
              go_wp2_with (first
                | (go_at_call 27; (with_reducible refine fN2.out.mono ?_); rintro e w6 ⟨rfl, hb6⟩; have HW6 := Lib.hid (HWj.out.below hb6); have HB6 := Lib.hid (HBj.out.trans (hb6.mono HBj.out.size)); clear hb6)
                | (go_at_call 29; (with_reducible refine (fL.out _ HW6.out).mono ?_); rintro e w7 ⟨rfl, rfl⟩))
              go_ret
              exact ⟨rfl, (HT5.out.base HB2.out HFB.out HB2.out.size).trans (HB6.out.mono (Nat.le_trans HB2.out.size HT5.out.size))⟩
            · have hgt := HOx.out hRn
              have fN2 := Lib.hid (fN.out wr HWj.out HTj.out)
              rw [if_neg hRn] at fN2
              simp only [hRn, decide_false, Bool.not_false] at fN2
              obtain ⟨n9, hn9⟩ : ∃ n9, minD 4503599627370496 R = n9 := ⟨_, rfl⟩
              rw [hn9] at fN2 hgt
              have hq : (R.length : Int) + M.length + 0 = n0 := by have := HOl.out; omega
              have hq' : ((R.length : Int) + M.length + 0 == n0) = true := beq_iff_eq.2 hq
              have hRl : R.length ≤ 4096 := by have := HOl.out; have := Hfl.out; omega
              have hgt' : decide (tt < n9) = true := decide_eq_true hgt
              go_wp2_with (first
                | (go_at_call 27; (with_reducible refine fN2.out.mono ?_); rintro e w6 ⟨rfl, hb6⟩; have HW6 := Lib.hid (HWj.out.below hb6); have HB6 := Lib.hid (HBj.out.trans (hb6.mono HBj.out.size)); clear hb6)
                | (go_at_call 29; (with_reducible refine (fL.out _ HW6.out).mono ?_); rintro e w7 ⟨rfl, rfl⟩))
              go_ret
              exact ⟨rfl, (HT5.out.base HB2.out HFB.out HB2.out.size).trans (HB6.out.mono (Nat.le_trans HB2.out.size HT5.out.size))⟩
      · have f5 := Lib.hid (whl_move f r now L1 l.length w4 tt HW4.out HB4.out HGt.out)
        unfold RetMv at f5
        simp only [if_neg hto] at f5
        have hto' : tt < now ∨ (¬ tt < now ∧ 4503599627370496 < tt) := by omega
        clear f3
        rcases hto' with hq1 | ⟨hq1, hq2⟩
        · go_wp2_with (go_at_call 48; (with_reducible refine f5.out.mono ?_); rintro e w5 ⟨rfl, hw5, ht5⟩; have HT5 := Lib.hid (HT4.out.trans ht5); clear hw5 ht5)
          go_ret
          exact ⟨rfl, HT5.out.base HB2.out HFB.out HB2.out.size⟩
        · go_wp2_with (go_at_call 48; (with_reducible refine f5.out.mono ?_); rintro e w5 ⟨rfl, hw5, ht5⟩; have HT5 := Lib.hid (HT4.out.trans ht5); clear hw5 ht5)
          go_ret
          exact ⟨rfl, HT5.out.base HB2.out HFB.out HB2.out.size⟩
  · have f2 := Lib.hid (fun X => filled_none now room l A c X hg)
    clear hr hid hT hg
    go_enter Tryd.func10, Tryd.ntmps10
    go_upto_region 3 with (go_at_call 39; (with_reducible refine f1.out.mono ?_); rintro e w1 ⟨rfl, hb1⟩; have HB1 := Lib.hid hb1; clear hb1)
    go_wp2_with (go_at_call 52; (with_reducible refine (f2.out _).mono ?_); rintro e w2 ⟨rfl, hb2⟩; have HB2 := Lib.hid (HB1.out.trans (hb2.mono HB1.out.size)); clear hb2)
    go_ret
    exact ⟨rfl, HB2.out⟩
end Go.Proofs.YtiblpnadninmbaaDoor

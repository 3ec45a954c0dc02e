/- Package vergelaw08: the walk of WheelPlays. Conditions: a list that reads, the de Bruijn table. -/
import Derived.Test.YtiblpnadninmbaaDoorWlG
namespace Go.Proofs.YtiblpnadninmbaaDoor
open Go.RowKit Go.Shelf
attribute [local go_sem] Oper.semAt_some
set_option maxHeartbeats 8000000 in
set_option maxRecDepth 100000 in
theorem wheelPlays_any (now room : Int) (l : List Ac) (A0 : Option Addr) (c0 : Nat) (w : World) (_ : l.length ≤ 1048576) (hr : Rd w A0 (l.flatMap acc)) (hid : ∀ x ∈ l, I64N x.id) (hT : Tab w) :
    Calls Tryd.prog 7 #[.int .i64 now, .int .i64 room, .slice A0 l.length c0] w fun e w' => e = .returned (.bool true) ∧ Below w.heap.size w w' := by
  have HR := Lib.hid hr; have HI := Lib.hid hid; have HT := Lib.hid hT
  have Hlt := Lib.hid hT.lt
  have f1 := Lib.hid (lives08_any w hT)
  by_cases hg : 0 ≤ now ∧ now ≤ 4503599627370496 ∧ 1 ≤ room ∧ room ≤ 4096
  · obtain ⟨h0, h1, h2, h3⟩ := hg
    obtain ⟨r, rfl⟩ : ∃ r : Nat, room = r := ⟨room.toNat, by omega⟩
    have f2 := Lib.hid (fun X => whl_new now r X h0 h1 (by omega) (by omega))
    have f3 := Lib.hid (fun X => rnew_ok now r X h0 h1 (by omega) (by omega))
    unfold RetWhl at f2
    unfold rwv at f3
    clear hr hid hT h0 h1 h2 h3
    go_enter Tryd.func7, Tryd.ntmps7
    go_upto_region 3 with (go_at_call 39; (with_reducible refine f1.out.mono ?_); rintro e w1 ⟨rfl, hb1⟩; have HB1 := Lib.hid hb1; clear hb1)
    go_upto_region 4 with (go_at_call 40; (with_reducible refine (f2.out w1).mono ?_); rintro e w2 ⟨f, rfl, hf, hw2, hb2⟩; have HF := Lib.hid hf; have HW2 := Lib.hid hw2; have HB2 := Lib.hid (HB1.out.trans (hb2.mono HB1.out.size)); clear hf hw2 hb2)
    go_upto_region 5 with (go_at_call 41; (with_reducible refine (f3.out w2).mono ?_); rintro e w3 ⟨rfl, hb3⟩; have HW3 := Lib.hid (HW2.out.below hb3); have HB3 := Lib.hid (HB2.out.trans (hb3.mono HB2.out.size)); have HS3 := Lib.hid hb3.size; clear hb3)
    refine name_world fun V hV => ?_
    have hbV : Below w3.heap.size w3 V := by rw [hV]; exact (Below.refl _ _).alloc (Nat.le_refl _) _
    have HX : Hid (V.heap[w3.heap.size]? = some (.cells #[.int .i64 now, .int .i64 r, .slice none 0 0] 30 (0, 0))) := Lib.hid (by rw [hV]; exact heap_alloc_new _ _)
    have hsz : w3.heap.size < V.heap.size := box_lt HX.out
    have HB0 : Hid (WpB w f w3.heap.size V.heap.size) := Lib.hid ⟨fun b hb => ⟨Nat.le_trans HB1.out.size (HF.out b hb), Nat.lt_of_lt_of_le (HW2.out.lt b hb) HS3.out⟩, ⟨HB3.out.size, hsz⟩, Hlt.out⟩
    have HI0 : Hid (WpI w V f r w3.heap.size V.heap.size 0 now [] none 0) := Lib.hid ⟨HX.out, HW3.out.below hbV, Rd.nil _ _, fun a ha => (by cases ha), HB3.out.trans (hbV.mono HB3.out.size), Nat.le_refl _⟩
    clear hV hbV HX HW3 HB3 HB2 HB1 HS3 HF HW2 f1 f2 f3
    generalize w3.heap.size = b9 at *
    generalize hB0q : V.heap.size = B0 at *
    clear hB0q
    by_cases h60 : l.length ≤ 60
    · go_wp2
      go_loopw [71] (fun i wr => ∃ (k : Nat) (now' : Int) (L : List Du) (A : Option Addr) (c : Nat), i = .int .i64 k ∧ k ≤ l.length ∧ Hid (WpI w wr f r b9 B0 k now' L A c)) (fun i _ => l.length - (intOf i).toNat)
      case atStart => exact ⟨0, now, [], none, 0, rfl, by omega, HI0⟩
      case round =>
        obtain ⟨k, now', L, A, c, rfl, hk, HIj⟩ := hrel
        by_cases hlt : k < l.length
        · obtain ⟨a0, x, rfl, hx, g0, g1, g2⟩ := (HR.out.below HIj.out.bel).acAt hlt
          have HId : Hid (I64N x.id) := Lib.hid (HI.out x (by rw [← hx, getD_lt hlt]; exact List.getElem_mem _))
          obtain ⟨kd, id, a⟩ := x
          dsimp only at *
          clear hx
          go_upto_region 12 with fail
          refine name_world fun U hU => ?_
          have hbU : Below wr.heap.size wr U := by rw [hU]; exact (Below.refl _ _).alloc (Nat.le_refl _) _
          have HBx : Hid (U.heap[wr.heap.size]? = some (.cells #[.int .i64 kd, .int .i64 id, .int .i64 a] 85 (0, 0))) := Lib.hid (by rw [hU]; exact heap_alloc_new _ _)
          have HIU := Lib.hid (HIj.out.below hbU)
          have hb12 : B0 ≤ wr.heap.size := HIj.out.sz
          have hbU9 := Lib.hid hbU
          clear hU hbU g0 g1 g2
          generalize hq : wr.heap.size = b12 at *
          have Hq := Lib.hid hq
          clear hq
          obtain ⟨xx, xy⟩ := box_rules HBx.out
          obtain ⟨qx, qy⟩ := box_rules HIU.out.box
          have lx := box_lt HBx.out
          have lq := box_lt HIU.out.box
          have hne : b9 ≠ b12 := by have := HB0.out.b9.2; omega
          go_upto_block 2 with fail
          go_cut [12] (fun s wx => s = .pointer (some ⟨b12, 0, none⟩) ∧ ∃ kd2 a2, wx.heap[b12]? = some (.cells #[.int .i64 kd2, .int .i64 id, .int .i64 a2] 85 (0, 0)) ∧ Below b12 U wx)
          case first =>
            by_cases h3 : kd = 3
            · subst h3
              go_wp2_with (go_at_call 42; (with_reducible refine (by08_any _ _ _).mono ?_); rintro e w5 ⟨⟨z5, rfl⟩, rfl⟩)
              go_meet
              exact ⟨rfl, 0, z5, box_set (i := 2) (box_set (i := 0) HBx.out _) _, ((Below.refl b12 U).setCell (p := ⟨b12, 0, none⟩) (Nat.le_refl _) _).setCell (p := ⟨b12, 2, none⟩) (Nat.le_refl _) _⟩
            · by_cases h4 : kd = 4
              · subst h4
                go_wp2_with (go_at_call 42; (with_reducible refine (by08_any _ _ _).mono ?_); rintro e w5 ⟨⟨z5, rfl⟩, rfl⟩)
                go_meet
                exact ⟨rfl, 2, z5, box_set (i := 2) (box_set (i := 0) HBx.out _) _, ((Below.refl b12 U).setCell (p := ⟨b12, 0, none⟩) (Nat.le_refl _) _).setCell (p := ⟨b12, 2, none⟩) (Nat.le_refl _) _⟩
              · go_wp2
                go_meet
                exact ⟨rfl, kd, a, HBx.out, Below.refl _ _⟩
          case rest =>
          obtain ⟨rfl, kd2, a2, hbx2, hbw2⟩ := hcut
          have HBx2 := Lib.hid hbx2
          have HIc : Hid (WpI w wc f r b9 B0 k now' L A c) := Lib.hid (HIj.out.below (by rw [Hq.out]; exact hbU9.out.trans hbw2))
          have hsl : L.length ≤ 1048576 := by have := HIc.out.whl.n0; omega
          clear xx xy qx qy lx lq hbx2 hbw2 HBx HIU hbU9
          obtain ⟨xx, xy⟩ := box_rules HBx2.out
          obtain ⟨qx, qy⟩ := box_rules HIc.out.box
          have lx := box_lt HBx2.out
          have lq := box_lt HIc.out.box
          go_upto_block 3 with fail
          go_cut [12] (fun s wx => s = .pointer (some ⟨b12, 0, none⟩) ∧ ∃ kd2 a2 now2 L2 A2 c2, wx.heap[b12]? = some (.cells #[.int .i64 kd2, .int .i64 id, .int .i64 a2] 85 (0, 0)) ∧ WpI w wx f r b9 B0 (k + 1) now2 L2 A2 c2)
          case first =>
            have hb12f : ∀ b ∈ f.l, b ≠ b12 := fun b hb => by have := (HB0.out.fl b hb).2; have := HB0.out.b9.2; omega
            by_cases h3 : kd2 = 0
            · subst h3
              have fa := Lib.hid (rins_any now' r id a2 L A c wc hsl HIc.out.rd)
              have fb := Lib.hid (fun X (hX : Whl X f r now' L k) => whl_insert f r now' L k X id a2 hX HId.out (by omega))
              unfold RetRw rwv at fa
              generalize insC r L id a2 = cc at *
              generalize insL r L id a2 = L2 at *
              go_upto_region 20 with (go_at_call 43; (with_reducible refine fa.out.mono ?_); rintro e w5 ⟨A5, c5, rfl, hr5, ho5, hb5⟩; have HR5 := Lib.hid hr5; have HO5 := Lib.hid ho5; have HB5 := Lib.hid hb5; clear hr5 ho5 hb5)
              refine name_world fun V hV => ?_
              have hbV : Below w5.heap.size w5 V := by rw [hV]; exact (Below.refl _ _).alloc (Nat.le_refl _) _
              have HX5 : Hid (V.heap[w5.heap.size]? = some (.cells #[.int .i64 now', .int .i64 r, .slice A5 L2.length c5] 30 (0, 0))) := Lib.hid (by rw [hV]; exact heap_alloc_new _ _)
              have HBm := Lib.hid (HB5.out.trans (hbV.mono HB5.out.size))
              have HIm := Lib.hid (HIc.out.below HBm.out)
              have HBy : Hid (V.heap[b12]? = some _) := Lib.hid ((HBm.out.block b12 (box_lt HBx2.out)).trans HBx2.out)
              have HRm := Lib.hid (HR5.out.below hbV)
              have h13 : b12 < w5.heap.size := Nat.lt_of_lt_of_le (box_lt HBx2.out) HB5.out.size
              have HBv := Lib.hid (fun A vs (h : Rd w5 A vs) => h.below hbV)
              clear hV hbV xx xy qx qy lx lq
              generalize w5.heap.size = b13 at *
              obtain ⟨xx, xy⟩ := box_rules HBy.out
              obtain ⟨qx, qy⟩ := box_rules HIm.out.box
              obtain ⟨zx, zy⟩ := box_rules HX5.out
              have lx := box_lt HBy.out
              have lq := box_lt HIm.out.box
              have lz := box_lt HX5.out
              go_upto_region 22 with (go_at_call 44; (with_reducible refine (fb.out _ HIm.out.whl).mono ?_); rintro e w6 ⟨rfl, hw6, ht6⟩; have HW6 := Lib.hid hw6; have HT6 := Lib.hid ht6; clear hw6 ht6)
              have H13f : Hid (b13 ∉ f.l) := Lib.hid (fun hm => by have := (HB0.out.fl _ hm).2; have := HB0.out.b9.2; omega)
              have H9f : Hid (b9 ∉ f.l) := Lib.hid (fun hm => by have := (HB0.out.fl _ hm).2; omega)
              have HX6 := Lib.hid (HT6.out.box HX5.out H13f.out)
              have HB6 := Lib.hid (HT6.out.box HBy.out (fun hm => hb12f _ hm rfl))
              have HQ6 := Lib.hid (HT6.out.box HIm.out.box H9f.out)
              clear xx xy qx qy zx zy lx lq lz
              obtain ⟨zx, zy⟩ := box_rules HX6.out
              have lz := box_lt HX6.out
              obtain ⟨qx, qy⟩ := box_rules HQ6.out
              have lq := box_lt HQ6.out
              go_wp2
              go_meet
              have HWk := Lib.hid (HW6.out.mono (tn' := k + 1) (by omega))
              have HF9 := Lib.hid (WpI.turn (c' := c5) HB0.out HIc.out HBm.out HT6.out HWk.out HRm.out HO5.out)
              have HFx := Lib.hid (box_far (p := ⟨b9, 2, none⟩) (box_far (p := ⟨b9, 1, none⟩) (box_far (p := ⟨b9, 0, none⟩) HB6.out hne.symm (.int .i64 now')) hne.symm (.int .i64 r)) hne.symm (.slice A5 L2.length c5))
              refine ⟨rfl, _, a2, now', L2, A5, c5, HFx.out, HF9.out⟩
            · by_cases h4 : kd2 = 1
              · subst h4
                have fa := Lib.hid (rcan_any now' r id L A c wc hsl HIc.out.rd)
                have fb := Lib.hid (fun X (hX : Whl X f r now' L k) => whl_cancel f r now' L k X id hX HId.out)
                unfold RetRw rwv at fa
                generalize canC L id = cc at *
                generalize canL L id = L2 at *
                go_upto_region 25 with (go_at_call 45; (with_reducible refine fa.out.mono ?_); rintro e w5 ⟨A5, c5, rfl, hr5, ho5, hb5⟩; have HR5 := Lib.hid hr5; have HO5 := Lib.hid ho5; have HB5 := Lib.hid hb5; clear hr5 ho5 hb5)
                refine name_world fun V hV => ?_
                have hbV : Below w5.heap.size w5 V := by rw [hV]; exact (Below.refl _ _).alloc (Nat.le_refl _) _
                have HX5 : Hid (V.heap[w5.heap.size]? = some (.cells #[.int .i64 now', .int .i64 r, .slice A5 L2.length c5] 30 (0, 0))) := Lib.hid (by rw [hV]; exact heap_alloc_new _ _)
                have HBm := Lib.hid (HB5.out.trans (hbV.mono HB5.out.size))
                have HIm := Lib.hid (HIc.out.below HBm.out)
                have HBy : Hid (V.heap[b12]? = some _) := Lib.hid ((HBm.out.block b12 (box_lt HBx2.out)).trans HBx2.out)
                have HRm := Lib.hid (HR5.out.below hbV)
                have h13 : b12 < w5.heap.size := Nat.lt_of_lt_of_le (box_lt HBx2.out) HB5.out.size
                have HBv := Lib.hid (fun A vs (h : Rd w5 A vs) => h.below hbV)
                clear hV hbV xx xy qx qy lx lq
                generalize w5.heap.size = b13 at *
                obtain ⟨xx, xy⟩ := box_rules HBy.out
                obtain ⟨qx, qy⟩ := box_rules HIm.out.box
                obtain ⟨zx, zy⟩ := box_rules HX5.out
                have lx := box_lt HBy.out
                have lq := box_lt HIm.out.box
                have lz := box_lt HX5.out
                go_upto_region 27 with (go_at_call 46; (with_reducible refine (fb.out _ HIm.out.whl).mono ?_); rintro e w6 ⟨rfl, hw6, ht6⟩; have HW6 := Lib.hid hw6; have HT6 := Lib.hid ht6; clear hw6 ht6)
                have H13f : Hid (b13 ∉ f.l) := Lib.hid (fun hm => by have := (HB0.out.fl _ hm).2; have := HB0.out.b9.2; omega)
                have H9f : Hid (b9 ∉ f.l) := Lib.hid (fun hm => by have := (HB0.out.fl _ hm).2; omega)
                have HX6 := Lib.hid (HT6.out.box HX5.out H13f.out)
                have HB6 := Lib.hid (HT6.out.box HBy.out (fun hm => hb12f _ hm rfl))
                have HQ6 := Lib.hid (HT6.out.box HIm.out.box H9f.out)
                clear xx xy qx qy zx zy lx lq lz
                obtain ⟨zx, zy⟩ := box_rules HX6.out
                have lz := box_lt HX6.out
                obtain ⟨qx, qy⟩ := box_rules HQ6.out
                have lq := box_lt HQ6.out
                go_wp2
                go_meet
                have HWk := Lib.hid (HW6.out.mono (tn' := k + 1) (by omega))
                have HF9 := Lib.hid (WpI.turn (c' := c5) HB0.out HIc.out HBm.out HT6.out HWk.out HRm.out HO5.out)
                have HFx := Lib.hid (box_far (p := ⟨b9, 2, none⟩) (box_far (p := ⟨b9, 1, none⟩) (box_far (p := ⟨b9, 0, none⟩) HB6.out hne.symm (.int .i64 now')) hne.symm (.int .i64 r)) hne.symm (.slice A5 L2.length c5))
                refine ⟨rfl, _, a2, now', L2, A5, c5, HFx.out, HF9.out⟩
              · by_cases h5 : kd2 = 2
                · subst h5
                  have fa := Lib.hid (rmove_any now' r a2 L A c wc hsl HIc.out.rd)
                  have fb := Lib.hid (fun X (hX : Whl X f r now' L k) (hT : Tab X) => whl_move f r now' L k X a2 hX hT (fun hm => by have := (HB0.out.fl _ hm).1; have := Hlt.out; omega))
                  unfold RetRm rwv at fa
                  unfold RetMv at fb
                  by_cases hc : now' ≤ a2 ∧ a2 ≤ 4503599627370496
                  · have hc' : (0 ≤ a2 ∧ a2 ≤ 4503599627370496) ∧ now' ≤ a2 := by have := HIc.out.whl.n0; omega
                    simp only [if_pos hc'] at fa
                    simp only [if_pos hc] at fb
                    have hm4 : (mvD a2 L).length ≤ 4096 := by have := mv_len a2 L; have := HIc.out.whl.n0; omega
                    generalize mvD a2 L = M2 at *
                    generalize rsD a2 L = L2 at *
                    clear hc hc'
                    go_upto_region 30 with (go_at_call 47; (with_reducible refine fa.out.mono ?_); rintro e w5 ⟨A5, c5, D5, d5, rfl, hr5, hd5, ho5, hp5, hb5⟩; have HR5 := Lib.hid hr5; have HO5 : Hid (∀ a, A5 = some a → A = some a ∨ wc.heap.size ≤ a.block) := Lib.hid (fun a ha => .inr (ho5 a ha)); have HD5 := Lib.hid hd5; have HP5 := Lib.hid hp5; have HB5 := Lib.hid hb5; clear hr5 ho5 hb5 hd5 hp5)
                    refine name_world fun V hV => ?_
                    have hbV : Below w5.heap.size w5 V := by rw [hV]; exact (Below.refl _ _).alloc (Nat.le_refl _) _
                    have HX5 : Hid (V.heap[w5.heap.size]? = some (.cells #[.int .i64 a2, .int .i64 r, .slice A5 L2.length c5] 30 (0, 0))) := Lib.hid (by rw [hV]; exact heap_alloc_new _ _)
                    have HBm := Lib.hid (HB5.out.trans (hbV.mono HB5.out.size))
                    have HIm := Lib.hid (HIc.out.below HBm.out)
                    have HBy : Hid (V.heap[b12]? = some _) := Lib.hid ((HBm.out.block b12 (box_lt HBx2.out)).trans HBx2.out)
                    have HRm := Lib.hid (HR5.out.below hbV)
                    have h13 : b12 < w5.heap.size := Nat.lt_of_lt_of_le (box_lt HBx2.out) HB5.out.size
                    have HBv := Lib.hid (fun A vs (h : Rd w5 A vs) => h.below hbV)
                    clear hV hbV xx xy qx qy lx lq
                    generalize w5.heap.size = b13 at *
                    obtain ⟨xx, xy⟩ := box_rules HBy.out
                    obtain ⟨qx, qy⟩ := box_rules HIm.out.box
                    obtain ⟨zx, zy⟩ := box_rules HX5.out
                    have lx := box_lt HBy.out
                    have lq := box_lt HIm.out.box
                    have lz := box_lt HX5.out
                    have HDm := Lib.hid (HBv.out _ _ HD5.out)
                    go_upto_region 31 with (go_at_call 48; (with_reducible refine (fb.out _ HIm.out.whl (HT.out.below HIm.out.bel Hlt.out)).mono ?_); rintro e w6 ⟨E6, e6, rfl, he6, hp6, hw6, ht6⟩; have HE6 := Lib.hid he6; have HW6 := Lib.hid hw6; have HT6 := Lib.hid ht6; clear hw6 ht6 he6 hp6)
                    have HD6 := Lib.hid (HDm.out.tn HT6.out (fun a ha hm => by have h9 := HP5.out a ha; have h8 := (HB0.out.fl _ hm).2; have h7 := HB0.out.b9.2; have h6 := HIc.out.sz; omega))
                    have fs := Lib.hid (rsame_one M2 (by omega) E6 e6 D5 d5 w6 HE6.out HD6.out)
                    go_upto_region 33 with (go_at_call 49; (with_reducible refine fs.out.mono ?_); rintro e w7 ⟨rfl, n7, rfl⟩)
                    have HT6' := HT6
                    have HW6' := HW6
                    clear HT6 HW6
                    have HT6 := Lib.hid (HT6'.out.drewN n7)
                    have HW6 := Lib.hid (HW6'.out.tn' (F := []) ((Tn.refl _ _).drewN n7) (fun _ _ => by simp))
                    have H13f : Hid (b13 ∉ f.l) := Lib.hid (fun hm => by have := (HB0.out.fl _ hm).2; have := HB0.out.b9.2; omega)
                    have H9f : Hid (b9 ∉ f.l) := Lib.hid (fun hm => by have := (HB0.out.fl _ hm).2; omega)
                    have HX6 := Lib.hid (HT6.out.box HX5.out H13f.out)
                    have HB6 := Lib.hid (HT6.out.box HBy.out (fun hm => hb12f _ hm rfl))
                    have HQ6 := Lib.hid (HT6.out.box HIm.out.box H9f.out)
                    clear xx xy qx qy zx zy lx lq lz
                    obtain ⟨zx, zy⟩ := box_rules HX6.out
                    have lz := box_lt HX6.out
                    obtain ⟨qx, qy⟩ := box_rules HQ6.out
                    have lq := box_lt HQ6.out
                    go_wp2
                    go_meet
                    have HWk := Lib.hid (HW6.out.mono (tn' := k + 1) (by omega))
                    have HF9 := Lib.hid (WpI.turn (c' := c5) HB0.out HIc.out HBm.out HT6.out HWk.out HRm.out HO5.out)
                    have HFx := Lib.hid (box_far (p := ⟨b9, 2, none⟩) (box_far (p := ⟨b9, 1, none⟩) (box_far (p := ⟨b9, 0, none⟩) HB6.out hne.symm (.int .i64 a2)) hne.symm (.int .i64 r)) hne.symm (.slice A5 L2.length c5))
                    refine ⟨rfl, _, a2, a2, L2, A5, c5, HFx.out, HF9.out⟩
                  · have hc' : ¬ ((0 ≤ a2 ∧ a2 ≤ 4503599627370496) ∧ now' ≤ a2) := by omega
                    simp only [if_neg hc'] at fa
                    simp only [if_neg hc] at fb
                    clear hc hc'
                    have fa2 := Lib.hid (fa.out.mono fun e w' ⟨q1, q2⟩ => (show ∃ (A5 : Option Addr) (c5 : Nat) (L2 : List Du), L2 = L ∧ e = Ending.returned (.tuple #[.agg #[.int .i64 now', .int .i64 r, .slice A5 L2.length c5], .slice none 0 0, .int .i64 1]) ∧ Rd w' A5 (L2.flatMap duc) ∧ (∀ a, A5 = some a → A = some a ∨ wc.heap.size ≤ a.block) ∧ Below wc.heap.size wc w' from ⟨A, c, L, rfl, q1, HIc.out.rd.below q2, fun a ha => .inl ha, q2⟩))
                    have fs := Lib.hid (fun X => rsame_one [] (by simp) none 0 none 0 X (Rd.nil _ _) (Rd.nil _ _))
                    rw [show (([] : List Du).length) = 0 from rfl] at fs
                    clear fa
                    go_upto_region 30 with (go_at_call 47; (with_reducible refine fa2.out.mono ?_); rintro e w5 ⟨A5, c5, L2, hL2, rfl, hr5, ho5, hb5⟩; have HL2 := Lib.hid hL2; have HR5 := Lib.hid hr5; have HO5 := Lib.hid ho5; have HB5 := Lib.hid hb5; clear hr5 ho5 hb5 hL2)
                    refine name_world fun V hV => ?_
                    have hbV : Below w5.heap.size w5 V := by rw [hV]; exact (Below.refl _ _).alloc (Nat.le_refl _) _
                    have HX5 : Hid (V.heap[w5.heap.size]? = some (.cells #[.int .i64 now', .int .i64 r, .slice A5 L2.length c5] 30 (0, 0))) := Lib.hid (by rw [hV]; exact heap_alloc_new _ _)
                    have HBm := Lib.hid (HB5.out.trans (hbV.mono HB5.out.size))
                    have HIm := Lib.hid (HIc.out.below HBm.out)
                    have HBy : Hid (V.heap[b12]? = some _) := Lib.hid ((HBm.out.block b12 (box_lt HBx2.out)).trans HBx2.out)
                    have HRm := Lib.hid (HR5.out.below hbV)
                    have h13 : b12 < w5.heap.size := Nat.lt_of_lt_of_le (box_lt HBx2.out) HB5.out.size
                    have HBv := Lib.hid (fun A vs (h : Rd w5 A vs) => h.below hbV)
                    clear hV hbV xx xy qx qy lx lq
                    generalize w5.heap.size = b13 at *
                    obtain ⟨xx, xy⟩ := box_rules HBy.out
                    obtain ⟨qx, qy⟩ := box_rules HIm.out.box
                    obtain ⟨zx, zy⟩ := box_rules HX5.out
                    have lx := box_lt HBy.out
                    have lq := box_lt HIm.out.box
                    have lz := box_lt HX5.out
                    go_upto_region 33 with (first
                      | (go_at_call 48; (with_reducible refine (fb.out _ HIm.out.whl (HT.out.below HIm.out.bel Hlt.out)).mono ?_); rintro e w6 ⟨rfl, hw6, ht6⟩; have HW6' := Lib.hid hw6; have HT6' := Lib.hid ht6; clear hw6 ht6)
                      | (go_at_call 49; (with_reducible refine (fs.out _).mono ?_); rintro e w7 ⟨rfl, n7, rfl⟩))
                    have HT6 := Lib.hid (HT6'.out.drewN n7)
                    have HW6 : Hid (Whl (w6.drewN n7) f r now' L2 k) := Lib.hid (by rw [HL2.out]; exact HW6'.out.tn' (F := []) ((Tn.refl _ _).drewN n7) (fun _ _ => by simp))
                    clear HT6' HW6'
                    have H13f : Hid (b13 ∉ f.l) := Lib.hid (fun hm => by have := (HB0.out.fl _ hm).2; have := HB0.out.b9.2; omega)
                    have H9f : Hid (b9 ∉ f.l) := Lib.hid (fun hm => by have := (HB0.out.fl _ hm).2; omega)
                    have HX6 := Lib.hid (HT6.out.box HX5.out H13f.out)
                    have HB6 := Lib.hid (HT6.out.box HBy.out (fun hm => hb12f _ hm rfl))
                    have HQ6 := Lib.hid (HT6.out.box HIm.out.box H9f.out)
                    clear xx xy qx qy zx zy lx lq lz
                    obtain ⟨zx, zy⟩ := box_rules HX6.out
                    have lz := box_lt HX6.out
                    obtain ⟨qx, qy⟩ := box_rules HQ6.out
                    have lq := box_lt HQ6.out
                    go_wp2
                    go_meet
                    have HWk := Lib.hid (HW6.out.mono (tn' := k + 1) (by omega))
                    have HF9 := Lib.hid (WpI.turn (c' := c5) HB0.out HIc.out HBm.out HT6.out HWk.out HRm.out HO5.out)
                    have HFx := Lib.hid (box_far (p := ⟨b9, 2, none⟩) (box_far (p := ⟨b9, 1, none⟩) (box_far (p := ⟨b9, 0, none⟩) HB6.out hne.symm (.int .i64 now')) hne.symm (.int .i64 r)) hne.symm (.slice A5 L2.length c5))
                    refine ⟨rfl, _, a2, now', L2, A5, c5, HFx.out, HF9.out⟩
                · go_wp2
                  go_meet
                  exact ⟨rfl, kd2, a2, now', L, A, c, HBx2.out, HIc.out.box, HIc.out.whl.mono (Nat.le_succ _), HIc.out.rd, HIc.out.off, HIc.out.bel, HIc.out.sz⟩
          case rest =>
          obtain ⟨rfl, kd3, a3, now2, L2, A2, c2, hbx3, hwp3⟩ := hcut
          have HBx3 := Lib.hid hbx3
          have HI3 := Lib.hid hwp3
          have HT3 := Lib.hid (HT.out.below HI3.out.bel Hlt.out)
          have hsl2 : L2.length ≤ 1048576 := by have := HI3.out.whl.n0; omega
          obtain ⟨nv, bv, hn1, hn2⟩ := next_both A2 c2 HI3.out.whl
          have f1 := Lib.hid (fun X (hX : Whl X f r now2 L2 (k + 1)) => whl_at f r now2 L2 (k + 1) X id hX HId.out)
          have f2 := Lib.hid (fun X (hX : Rd X A2 (L2.flatMap duc)) => rat_any now2 r id L2 A2 c2 X hsl2 hX)
          have f3 := Lib.hid hn1
          have f4 := Lib.hid hn2
          have f5 := Lib.hid (fun X (hX : Whl X f r now2 L2 (k + 1)) => whl_len f r now2 L2 (k + 1) X hX)
          have f6 := Lib.hid (fun X (hX : Whl X f r now2 L2 (k + 1)) => whl_now f r now2 L2 (k + 1) X hX)
          unfold rwv at f2
          clear xx xy qx qy lx lq hbx3 hwp3 hn1 hn2 HBx2 HIc
          generalize atD L2 id = av at *
          generalize canC L2 id = cv at *
          obtain ⟨xx, xy⟩ := box_rules HBx3.out
          obtain ⟨qx, qy⟩ := box_rules HI3.out.box
          have lx := box_lt HBx3.out
          have lq := box_lt HI3.out.box
          go_upto_region 36 with (first
            | (go_at_call 50; (with_reducible refine (f1.out _ HI3.out.whl).mono ?_); rintro e w4 ⟨rfl, rfl⟩)
            | (go_at_call 51; (with_reducible refine (f2.out _ HI3.out.rd).mono ?_); rintro e w5 ⟨rfl, hb5⟩; have HI5 := Lib.hid (HI3.out.below hb5); have HT5 := Lib.hid (HT3.out.below hb5 (Nat.lt_of_lt_of_le Hlt.out HI3.out.bel.size)); clear hb5))
          go_upto_region 37 with (go_at_call 27; (with_reducible refine (f3.out _ HI5.out.whl HT5.out).mono ?_); rintro e w6 ⟨rfl, hb6⟩; have HI6 := Lib.hid (HI5.out.below hb6); clear hb6)
          clear xx xy qx qy lx lq
          obtain ⟨qx, qy⟩ := box_rules HI6.out.box
          have lq := box_lt HI6.out.box
          go_upto_region 38 with (go_at_call 28; (with_reducible refine (f4.out _ HI6.out.rd).mono ?_); rintro e w7 ⟨rfl, hb7⟩; have HI7 := Lib.hid (HI6.out.below hb7); clear hb7)
          clear qx qy lq
          obtain ⟨qx, qy⟩ := box_rules HI7.out.box
          have lq := box_lt HI7.out.box
          have HI8 := Lib.hid (fun q => HI7.out.whl.tn' (F := []) ((Tn.refl _ _).drewN q) (fun _ _ => by simp))
          go_big_quiet (first
            | (go_at_call 29; (with_reducible exact (f5.out _ (HI8.out _)).mono fun _ _ ⟨a, b⟩ => ⟨a, _, b.symm⟩))
            | (go_at_call 30; (with_reducible exact (f6.out _ (HI8.out _)).mono fun _ _ ⟨a, b⟩ => ⟨a, _, b.symm⟩)))
          go_wp2
          go_roundw
          case rel => exact ⟨k + 1, now2, L2, A2, c2, by go_num, hlt, Lib.hid ⟨HI7.out.box, HI8.out _, HI7.out.rd.drewN _, HI7.out.off, HI7.out.bel.drewsN _, HI7.out.sz⟩⟩
          case measure => simp [intOf]; omega
        · obtain rfl : k = l.length := by omega
          go_wp2
          go_ret
          exact ⟨rfl, HIj.out.bel⟩
    · have h61 : decide ((60 : Int) < (l.length : Int)) = true := decide_eq_true (by omega)
      go_wp2
      go_ret
      exact ⟨rfl, HI0.out.bel⟩
  · have f2 := Lib.hid (fun X => whl_bad now room X hg)
    have f3 := Lib.hid (fun X => rnew_bad now room X (fun h9 => hg ⟨h9.1.1, h9.1.2, h9.2.1, h9.2.2⟩))
    unfold rwv at f3
    clear hr hid hT hg
    go_enter Tryd.func7, Tryd.ntmps7
    go_upto_region 3 with (go_at_call 39; (with_reducible refine f1.out.mono ?_); rintro e w1 ⟨rfl, hb1⟩; have HB1 := Lib.hid hb1; clear hb1)
    go_upto_region 4 with (go_at_call 40; (with_reducible refine (f2.out w1).mono ?_); rintro e w2 ⟨rfl, rfl⟩)
    go_wp2_with (go_at_call 41; (with_reducible refine (f3.out w1).mono ?_); rintro e w3 ⟨rfl, hb3⟩; have HB3 := Lib.hid (HB1.out.trans (hb3.mono HB1.out.size)); clear hb3)
    go_ret
    exact ⟨rfl, HB3.out.alloc HB3.out.size _⟩
end Go.Proofs.YtiblpnadninmbaaDoor

/- Package vergelaw09: the walk of TimersPlay. Conditions: a list that reads, the de Bruijn table. -/
import Derived.Test.YtiblpnadninmbaaDoorTlR
namespace Go.Proofs.YtiblpnadninmbaaDoor
open Go.RowKit Go.Shelf
attribute [local go_sem] Oper.semAt_some
set_option maxHeartbeats 16000000 in
set_option maxRecDepth 100000 in
theorem timersPlay_any (now room : Int) (l : List At) (A0 : Option Addr) (c0 : Nat) (w : World) (hr : Rd w A0 (l.flatMap atc)) (hid : ∀ x ∈ l, I64N x.id) (hT : Tab w) :
    Calls Tryd.prog 3 #[.int .i64 now, .int .i64 room, .slice A0 l.length c0] w fun e w' => e = .returned (.bool true) ∧ Below w.heap.size w w' := by
  have HR := Lib.hid hr; have HI := Lib.hid hid; have HT := Lib.hid hT
  have Hlt := Lib.hid hT.lt
  have f1 := Lib.hid (lives09_any w hT)
  by_cases hg : 0 ≤ now ∧ now ≤ 4503599627370496 ∧ 1 ≤ room ∧ room ≤ 4096
  · obtain ⟨h0, h1, h2, h3⟩ := hg
    obtain ⟨r, rfl⟩ : ∃ r : Nat, room = r := ⟨room.toNat, by omega⟩
    have f2 := Lib.hid (fun X => tnew_ok now r X h0 h1 (by omega) (by omega))
    have f3 := Lib.hid (fun X => rtnew_ok now r X h0 h1 (by omega) (by omega))
    unfold RetTms at f2
    unfold rtv at f3
    have hrm : r ≤ 4096 := by omega
    clear hr hid hT h0 h1 h2 h3
    go_enter Tryd.func3, Tryd.ntmps3
    go_upto_region 3 with (go_at_call 11; (with_reducible refine f1.out.mono ?_); rintro e w1 ⟨rfl, hb1⟩; have HB1 := Lib.hid hb1; clear hb1)
    go_upto_region 4 with (go_at_call 12; (with_reducible refine (f2.out w1).mono ?_); rintro e w2 ⟨g, rfl, hf, hw2, hb2⟩; have HF := Lib.hid hf; have HW2 := Lib.hid hw2; have HB2 := Lib.hid (HB1.out.trans (hb2.mono HB1.out.size)); clear hf hw2 hb2)
    go_upto_region 5 with (go_at_call 13; (with_reducible refine (f3.out w2).mono ?_); rintro e w3 ⟨rfl, hb3⟩; have HW3 := Lib.hid (HW2.out.below hb3); have HB3 := Lib.hid (HB2.out.trans (hb3.mono HB2.out.size)); have HS3 := Lib.hid hb3.size; clear hb3)
    refine name_world fun V hV => ?_
    have hbV : Below w3.heap.size w3 V := by rw [hV]; exact (Below.refl _ _).alloc (Nat.le_refl _) _
    have HX : Hid (V.heap[w3.heap.size]? = some (.cells #[.int .i64 now, .int .i64 r, .slice none 0 0, .slice none 0 0] 33 (0, 0))) := Lib.hid (by rw [hV]; exact heap_alloc_new _ _)
    have hsz : w3.heap.size < V.heap.size := box_lt HX.out
    have HB0 : Hid (TpB w g w3.heap.size V.heap.size) := Lib.hid ⟨fun b hb => ⟨Nat.le_trans HB1.out.size (HF.out b hb), Nat.lt_of_lt_of_le (HW2.out.lt b hb) HS3.out⟩, ⟨HB3.out.size, hsz⟩, Hlt.out⟩
    have HI0 : Hid (TpI w V g r w3.heap.size V.heap.size 0 now [] [] none 0 none 0) := Lib.hid ⟨HX.out, HW3.out.below hbV, Rd.nil _ _, Rd.nil _ _, fun a ha => (by cases ha), fun a ha => (by cases ha), PI.zero _, by simp, HB3.out.trans (hbV.mono HB3.out.size), Nat.le_refl _⟩
    clear hV hbV HX HW3 HB3 HB2 HB1 HS3 HF HW2 f1 f2 f3
    generalize w3.heap.size = b9 at *
    generalize hB0q : V.heap.size = B0 at *
    clear hB0q
    by_cases h40 : l.length ≤ 40
    · go_wp2
      go_loopw [73] (fun i wr => ∃ (k : Nat) (now' : Int) (L : List Du) (P : List Pe) (A : Option Addr) (c : Nat) (Q : Option Addr) (d : Nat), i = .int .i64 k ∧ k ≤ l.length ∧ Hid (TpI w wr g r b9 B0 k now' L P A c Q d)) (fun i _ => l.length - (intOf i).toNat)
      case atStart => exact ⟨0, now, [], [], none, 0, none, 0, rfl, by omega, HI0⟩
      case round =>
        as_aux_lemma =>
        obtain ⟨k, now', L, P, A, c, Q, d, rfl, hk, HIj⟩ := hrel
        by_cases hlt : k < l.length
        · obtain ⟨a0, x, rfl, hx, g0, g1, g2, g3⟩ := (HR.out.below HIj.out.bel).atAt hlt
          have HId : Hid (I64N x.id) := Lib.hid (HI.out x (by rw [← hx, getD_lt hlt]; exact List.getElem_mem _))
          obtain ⟨kd, id, a, e2⟩ := x
          dsimp only at *
          clear hx
          go_upto_region 12 with fail
          refine name_world fun U hU => ?_
          have hbU : Below wr.heap.size wr U := by rw [hU]; exact (Below.refl _ _).alloc (Nat.le_refl _) _
          have HBx : Hid (U.heap[wr.heap.size]? = some (.cells #[.int .i64 kd, .int .i64 id, .int .i64 a, .int .i64 e2] 37 (0, 0))) := Lib.hid (by rw [hU]; exact heap_alloc_new _ _)
          have HIU := Lib.hid (HIj.out.below hbU)
          have hb12 : B0 ≤ wr.heap.size := HIj.out.sz
          have hbU9 := Lib.hid hbU
          clear hU hbU g0 g1 g2 g3
          generalize hq : wr.heap.size = b12 at *
          have Hq := Lib.hid hq
          clear hq
          obtain ⟨xx, xy⟩ := box_rules HBx.out
          obtain ⟨qx, qy⟩ := box_rules HIU.out.box
          have lx := box_lt HBx.out
          have lq := box_lt HIU.out.box
          have hne : b9 ≠ b12 := by have := HB0.out.b9.2; omega
          go_cut [12, 89] (fun s v wx => s = .pointer (some ⟨b12, 0, none⟩) ∧ ∃ b, v = .bool b ∧ U = wx)
          case first =>
            as_aux_lemma =>
            by_cases h3 : kd = 0
            · subst h3
              go_wp2
              go_meet
              exact ⟨rfl, _, rfl, rfl⟩
            · have q0 : (kd == 0) = false := beq_eq_false_iff_ne.2 h3
              by_cases h4 : kd = 1
              · subst h4
                go_wp2
                go_meet
                exact ⟨rfl, _, rfl, rfl⟩
              · have q1 : (kd == 1) = false := beq_eq_false_iff_ne.2 h4
                go_wp2
                go_meet
                exact ⟨rfl, _, rfl, rfl⟩
          case rest =>
          as_aux_lemma =>
          obtain ⟨rfl, bb, rfl, rfl⟩ := hcut
          go_upto_if 89 with fail
          go_cut [12] (fun s wx => s = .pointer (some ⟨b12, 0, none⟩) ∧ ∃ a2, wx.heap[b12]? = some (.cells #[.int .i64 kd, .int .i64 id, .int .i64 a2, .int .i64 e2] 37 (0, 0)) ∧ Below b12 U wx)
          case first =>
            as_aux_lemma =>
            cases bb
            · go_wp2
              go_meet
              exact ⟨rfl, a, HBx.out, Below.refl _ _⟩
            · go_wp2_with (go_at_call 14; (with_reducible refine (by09_any _ _ _).mono ?_); rintro e w5 ⟨⟨z5, rfl⟩, rfl⟩)
              go_meet
              exact ⟨rfl, z5, box_set (i := 2) HBx.out _, (Below.refl b12 U).setCell (p := ⟨b12, 2, none⟩) (Nat.le_refl _) _⟩
          case rest =>
          as_aux_lemma =>
          obtain ⟨rfl, a2, hbx2, hbw2⟩ := hcut
          have HBx2 := Lib.hid hbx2
          have HIc : Hid (TpI w wc g r b9 B0 k now' L P A c Q d) := Lib.hid (HIj.out.below (by rw [Hq.out]; exact hbU9.out.trans hbw2))
          have hsl : L.length ≤ 4096 := by have := HIc.out.tms.whl.n0; omega
          have hpl : P.length ≤ 40 := by have := HIc.out.pl; omega
          clear xx xy qx qy lx lq hbx2 hbw2 HBx HIU hbU9
          obtain ⟨xx, xy⟩ := box_rules HBx2.out
          obtain ⟨qx, qy⟩ := box_rules HIc.out.box
          have lx := box_lt HBx2.out
          have lq := box_lt HIc.out.box
          go_upto_block 2 with fail
          go_cut [12] (fun s wx => s = .pointer (some ⟨b12, 0, none⟩) ∧ ∃ kd2 a2 e2 now2 L2 P2 A2 c2 Q2 d2, wx.heap[b12]? = some (.cells #[.int .i64 kd2, .int .i64 id, .int .i64 a2, .int .i64 e2] 37 (0, 0)) ∧ TpI w wx g r b9 B0 (k + 1) now2 L2 P2 A2 c2 Q2 d2)
          case first =>
            have hb12f : ∀ b ∈ g.l, b ≠ b12 := fun b hb => by have := (HB0.out.fl b hb).2; have := HB0.out.b9.2; omega
            go_upto_if 99 with fail
            go_cut [99] (fun v wx => ∃ bq, v = .bool bq ∧ wc = wx)
            case first =>
              as_aux_lemma =>
              cases hk9 : (kd == 0)
              · go_wp2
                go_meet
                exact ⟨_, rfl, rfl⟩
              · go_wp2
                go_meet
                exact ⟨_, rfl, rfl⟩
            case rest =>
            obtain ⟨bq, rfl, rfl⟩ := hcut
            go_upto_if 99 with fail
            cases bq
            · go_upto_if 120 with fail
              go_cut [120] (fun v wx => ∃ bq, v = .bool bq ∧ wc = wx)
              case first =>
                as_aux_lemma =>
                cases hk9 : (kd == 1)
                · go_wp2
                  go_meet
                  exact ⟨_, rfl, rfl⟩
                · go_wp2
                  go_meet
                  exact ⟨_, rfl, rfl⟩
              case rest =>
              obtain ⟨bq, rfl, rfl⟩ := hcut
              go_upto_if 120 with fail
              cases bq
              · go_upto_if 145 with fail
                cases hk8 : (kd == 2)
                · go_upto_if 161 with fail
                  go_cut [161] (fun v wx => ∃ bq, v = .bool bq ∧ wc = wx)
                  case first =>
                    as_aux_lemma =>
                    cases hk9 : (kd == 3)
                    · go_wp2
                      go_meet
                      exact ⟨_, rfl, rfl⟩
                    · go_wp2
                      go_meet
                      exact ⟨_, rfl, rfl⟩
                  case rest =>
                  obtain ⟨bq, rfl, rfl⟩ := hcut
                  go_upto_if 161 with fail
                  cases bq
                  · as_aux_lemma =>
                    go_wp2
                    go_meet
                    exact ⟨rfl, kd, a2, e2, now', L, P, A, c, Q, d, HBx2.out, HIc.out.up⟩
                  · as_aux_lemma =>
                    have fh := Lib.hid (fun T => heavy_any now' r T L A c P Q d wc (by omega) (by omega) HIc.out.tms.long HIc.out.ra HIc.out.rq)
                    unfold rtv at fh
                    go_upto_if 168 with (go_at_call 21; (with_reducible refine (fh.out _).mono ?_); rintro e w4 ⟨⟨b4, rfl⟩, hb4⟩; have HB4 := Lib.hid hb4; have HI4 := Lib.hid (HIc.out.below hb4); clear hb4)
                    cases b4
                    · have HBx4 := Lib.hid ((HB4.out.block b12 (box_lt HBx2.out)).trans HBx2.out)
                      clear xx xy qx qy lx lq
                      obtain ⟨xx, xy⟩ := box_rules HBx4.out
                      obtain ⟨qx, qy⟩ := box_rules HI4.out.box
                      have lx := box_lt HBx4.out
                      have lq := box_lt HI4.out.box
                      have hgt : 0 ∉ g.f.l := fun hm => by have := (HB0.out.fl _ (show 0 ∈ g.l by simp [TmF.l, hm])).1; have := Hlt.out; omega
                      by_cases hc : now' ≤ a2 ∧ a2 ≤ 4503599627370496
                      · obtain ⟨M2, L2, P2, q1, q2, q3, fb0, fa0⟩ := run_both g r now' L P (1024 * k) a2 A c Q d w4 hgt (by omega) hc hrm (by omega) (by omega) HI4.out.tms.whl.n0.1 HI4.out.tms.whl.at0 HI4.out.tms.long HI4.out.ra HI4.out.rq (fun a ha => (HI4.out.oa a ha).2) (fun a ha => (HI4.out.oq a ha).2) HI4.out.pi
                        unfold RunOk at fb0
                        unfold RefOk at fa0
                        have fa := Lib.hid fa0
                        have fb := Lib.hid fb0
                        have HPi := Lib.hid q1
                        have HPl : Hid (P2.length ≤ k + 1) := Lib.hid (by have := HIc.out.pl; omega)
                        clear hc q1 q2 fa0 fb0 hgt
                        go_upto_region 37 with (go_at_call 22; (with_reducible refine fa.out.mono ?_); rintro e w5 ⟨A5, c5, Q5, d5, D5, dd, rfl, hr5, hq5, hd5, ho5, hp5, hdo5, hb5⟩; have HR5 := Lib.hid hr5; have HQ5 := Lib.hid hq5; have HO5 := Lib.hid ho5; have HP5 := Lib.hid hp5; have HB5 := Lib.hid hb5; have HD5 := Lib.hid hd5; have HDo := Lib.hid hdo5; clear hr5 hq5 ho5 hp5 hb5 hd5 hdo5)
                        refine name_world fun V hV => ?_
                        have hbV : Below w5.heap.size w5 V := by rw [hV]; exact (Below.refl _ _).alloc (Nat.le_refl _) _
                        have HX5 : Hid (V.heap[w5.heap.size]? = some (.cells #[.int .i64 a2, .int .i64 r, .slice A5 L2.length c5, .slice Q5 (P2).length d5] 33 (0, 0))) := Lib.hid (by rw [hV]; exact heap_alloc_new _ _)
                        have HBm := Lib.hid (HB5.out.trans (hbV.mono HB5.out.size))
                        have HIm := Lib.hid (HI4.out.below HBm.out)
                        have HBy : Hid (V.heap[b12]? = some _) := Lib.hid ((HBm.out.block b12 (box_lt HBx4.out)).trans HBx4.out)
                        have HRm := Lib.hid (HR5.out.below hbV)
                        have HQm := Lib.hid (HQ5.out.below hbV)
                        have HOm : Hid (∀ a, A5 = some a → A = some a ∨ ((w4).heap.size ≤ a.block ∧ a.block < V.heap.size)) := Lib.hid (fun a ha => (HO5.out a ha).imp (fun h => h) (fun h => ⟨h.1, Nat.lt_of_lt_of_le h.2 hbV.size⟩))
                        have HPm : Hid (∀ a, Q5 = some a → Q = some a ∨ ((w4).heap.size ≤ a.block ∧ a.block < V.heap.size)) := Lib.hid (fun a ha => (HP5.out a ha).imp (fun h => h) (fun h => ⟨h.1, Nat.lt_of_lt_of_le h.2 hbV.size⟩))
                        have HBv := Lib.hid (fun A vs (h : Rd w5 A vs) => h.below hbV)
                        have h13 : b12 < w5.heap.size := Nat.lt_of_lt_of_le (box_lt HBx4.out) HB5.out.size
                        clear hV hbV xx xy qx qy lx lq
                        generalize w5.heap.size = b13 at *
                        obtain ⟨xx, xy⟩ := box_rules HBy.out
                        obtain ⟨qx, qy⟩ := box_rules HIm.out.box
                        obtain ⟨zx, zy⟩ := box_rules HX5.out
                        have lx := box_lt HBy.out
                        have lq := box_lt HIm.out.box
                        have lz := box_lt HX5.out
                        have HDm := Lib.hid (HBv.out _ _ HD5.out)
                        go_upto_region 38 with (go_at_call 23; (with_reducible refine (fb.out _ HIm.out.tms (HT.out.below HIm.out.bel Hlt.out)).mono ?_); rintro e w6 ⟨E6, e6, rfl, he6, hp6, hw6, ht6⟩; have HE6 := Lib.hid he6; have HW6' := Lib.hid hw6; have HT6' := Lib.hid ht6; clear hw6 ht6 he6 hp6)
                        have HD6 := Lib.hid (HDm.out.tn HT6'.out (fun a ha hm => by have h9 := HDo.out a ha; have h8 := (HB0.out.fl _ hm).2; have h7 := HB0.out.b9.2; have h6 := HI4.out.sz; omega))
                        have fs := Lib.hid (rtsame_one M2 (by omega) E6 e6 D5 dd w6 HE6.out HD6.out)
                        go_upto_region 40 with (go_at_call 24; (with_reducible refine fs.out.mono ?_); rintro e w7 ⟨rfl, n7, rfl⟩)
                        have HT6 := Lib.hid (HT6'.out.drewN n7)
                        have HW6 := Lib.hid ((HW6'.out.drewN n7).mono (tn' := 1024 * (k + 1)) (by omega))
                        clear HT6' HW6'
                        have H13f : Hid (b13 ∉ g.l) := Lib.hid (fun hm => by have := (HB0.out.fl _ hm).2; have := HB0.out.b9.2; omega)
                        have H9f : Hid (b9 ∉ g.l) := Lib.hid (fun hm => by have := (HB0.out.fl _ hm).2; omega)
                        have HX6 := Lib.hid (HT6.out.box HX5.out H13f.out)
                        have HB6 := Lib.hid (HT6.out.box HBy.out (fun hm => hb12f _ hm rfl))
                        have HQ6 := Lib.hid (HT6.out.box HIm.out.box H9f.out)
                        clear xx xy qx qy zx zy lx lq lz
                        obtain ⟨zx, zy⟩ := box_rules HX6.out
                        have lz := box_lt HX6.out
                        obtain ⟨qx, qy⟩ := box_rules HQ6.out
                        have lq := box_lt HQ6.out
                        have HF9 := Lib.hid (TpI.turn (c' := c5) (d' := d5) HB0.out HI4.out HBm.out HT6.out HW6.out HRm.out HQm.out HOm.out HPm.out HPi.out HPl.out)
                        have HFx := Lib.hid ((set4 HQ6.out rfl (.int .i64 a2) (.int .i64 r) (.slice A5 L2.length c5) (.slice Q5 (P2).length d5)).2.box HB6.out (by simp; exact hne.symm))
                        go_wp2
                        go_meet
                        refine ⟨rfl, _, a2, e2, a2, L2, P2, A5, c5, Q5, d5, HFx.out, HF9.out⟩
                      · obtain ⟨fb0, fa0⟩ := run_neither g r now' L P (1024 * k) a2 A c Q d w4 hgt (by omega) hc hrm (by omega) (by omega) HI4.out.tms.whl.at0 HI4.out.tms.long HI4.out.ra HI4.out.rq (fun a ha => (HI4.out.oa a ha).2) (fun a ha => (HI4.out.oq a ha).2)
                        have fa2 := Lib.hid fa0
                        have fb := Lib.hid fb0
                        clear hc fa0 fb0 hgt
                        have fs := Lib.hid (fun X => rtsame_one [] (by simp) none 0 none 0 X (Rd.nil _ _) (Rd.nil _ _))
                        rw [show (([] : List Fi).length) = 0 from rfl] at fs
                        go_upto_region 37 with (go_at_call 22; (with_reducible refine fa2.out.mono ?_); rintro e w5 ⟨A5, c5, Q5, d5, L2, hL2, rfl, hr5, hq5, ho5, hp5, hb5⟩; have HL2 := Lib.hid hL2; have HR5 := Lib.hid hr5; have HQ5 := Lib.hid hq5; have HO5 := Lib.hid ho5; have HP5 := Lib.hid hp5; have HB5 := Lib.hid hb5; clear hr5 hq5 ho5 hp5 hb5 hL2)
                        refine name_world fun V hV => ?_
                        have hbV : Below w5.heap.size w5 V := by rw [hV]; exact (Below.refl _ _).alloc (Nat.le_refl _) _
                        have HX5 : Hid (V.heap[w5.heap.size]? = some (.cells #[.int .i64 now', .int .i64 r, .slice A5 L2.length c5, .slice Q5 (P).length d5] 33 (0, 0))) := Lib.hid (by rw [hV]; exact heap_alloc_new _ _)
                        have HBm := Lib.hid (HB5.out.trans (hbV.mono HB5.out.size))
                        have HIm := Lib.hid (HI4.out.below HBm.out)
                        have HBy : Hid (V.heap[b12]? = some _) := Lib.hid ((HBm.out.block b12 (box_lt HBx4.out)).trans HBx4.out)
                        have HRm := Lib.hid (HR5.out.below hbV)
                        have HQm := Lib.hid (HQ5.out.below hbV)
                        have HOm : Hid (∀ a, A5 = some a → A = some a ∨ ((w4).heap.size ≤ a.block ∧ a.block < V.heap.size)) := Lib.hid (fun a ha => (HO5.out a ha).imp (fun h => h) (fun h => ⟨h.1, Nat.lt_of_lt_of_le h.2 hbV.size⟩))
                        have HPm : Hid (∀ a, Q5 = some a → Q = some a ∨ ((w4).heap.size ≤ a.block ∧ a.block < V.heap.size)) := Lib.hid (fun a ha => (HP5.out a ha).imp (fun h => h) (fun h => ⟨h.1, Nat.lt_of_lt_of_le h.2 hbV.size⟩))
                        have HBv := Lib.hid (fun A vs (h : Rd w5 A vs) => h.below hbV)
                        have h13 : b12 < w5.heap.size := Nat.lt_of_lt_of_le (box_lt HBx4.out) HB5.out.size
                        clear hV hbV xx xy qx qy lx lq
                        generalize w5.heap.size = b13 at *
                        obtain ⟨xx, xy⟩ := box_rules HBy.out
                        obtain ⟨qx, qy⟩ := box_rules HIm.out.box
                        obtain ⟨zx, zy⟩ := box_rules HX5.out
                        have lx := box_lt HBy.out
                        have lq := box_lt HIm.out.box
                        have lz := box_lt HX5.out
                        have HPi : Hid (PI L2 P) := Lib.hid (by rw [HL2.out]; exact HI4.out.pi)
                        have HPl : Hid (P.length ≤ k + 1) := Lib.hid (Nat.le_succ_of_le HIc.out.pl)
                        go_upto_region 40 with (first
                          | (go_at_call 23; (with_reducible refine (fb.out _ HIm.out.tms (HT.out.below HIm.out.bel Hlt.out)).mono ?_); rintro e w6 ⟨rfl, hw6, ht6⟩; have HW6' := Lib.hid hw6; have HT6' := Lib.hid ht6; clear hw6 ht6)
                          | (go_at_call 24; (with_reducible refine (fs.out _).mono ?_); rintro e w7 ⟨rfl, n7, rfl⟩))
                        have HT6 := Lib.hid (HT6'.out.drewN n7)
                        have HW6 : Hid (Tms (w6.drewN n7) g r now' L2 P (1024 * (k + 1))) := Lib.hid (by rw [HL2.out]; exact (HW6'.out.drewN n7).mono (by omega))
                        clear HT6' HW6'
                        have H13f : Hid (b13 ∉ g.l) := Lib.hid (fun hm => by have := (HB0.out.fl _ hm).2; have := HB0.out.b9.2; omega)
                        have H9f : Hid (b9 ∉ g.l) := Lib.hid (fun hm => by have := (HB0.out.fl _ hm).2; omega)
                        have HX6 := Lib.hid (HT6.out.box HX5.out H13f.out)
                        have HB6 := Lib.hid (HT6.out.box HBy.out (fun hm => hb12f _ hm rfl))
                        have HQ6 := Lib.hid (HT6.out.box HIm.out.box H9f.out)
                        clear xx xy qx qy zx zy lx lq lz
                        obtain ⟨zx, zy⟩ := box_rules HX6.out
                        have lz := box_lt HX6.out
                        obtain ⟨qx, qy⟩ := box_rules HQ6.out
                        have lq := box_lt HQ6.out
                        have HF9 := Lib.hid (TpI.turn (c' := c5) (d' := d5) HB0.out HI4.out HBm.out HT6.out HW6.out HRm.out HQm.out HOm.out HPm.out HPi.out HPl.out)
                        have HFx := Lib.hid ((set4 HQ6.out rfl (.int .i64 now') (.int .i64 r) (.slice A5 L2.length c5) (.slice Q5 (P).length d5)).2.box HB6.out (by simp; exact hne.symm))
                        go_wp2
                        go_meet
                        refine ⟨rfl, _, a2, e2, now', L2, P, A5, c5, Q5, d5, HFx.out, HF9.out⟩
                    · go_wp2
                      go_ret
                      exact ⟨rfl, HI4.out.bel⟩
                · as_aux_lemma =>
                  have fa := Lib.hid (rstop_any now' r id L A c P Q d wc (by omega) (by omega) HIc.out.ra HIc.out.rq (fun a ha => (HIc.out.oa a ha).2) (fun a ha => (HIc.out.oq a ha).2) HIc.out.pi)
                  have fb := Lib.hid (fun X (hX : Tms X g r now' L P (1024 * k)) => tstop_any g r now' L P (1024 * k) X id hX HIc.out.pi HId.out)
                  unfold RetRt rtv at fa
                  have HPi := Lib.hid (HIc.out.pi.stop id)
                  have HPl : Hid ((woD P id).length ≤ k + 1) := Lib.hid (by have := wo_le P id; have := HIc.out.pl; omega)
                  generalize canC L id = cc at *
                  generalize canL L id = L2 at *
                  generalize woD P id = P2 at *
                  go_upto_region 29 with (go_at_call 19; (with_reducible refine fa.out.mono ?_); rintro e w5 ⟨A5, c5, Q5, d5, rfl, hr5, hq5, ho5, hp5, hb5⟩; have HR5 := Lib.hid hr5; have HQ5 := Lib.hid hq5; have HO5 := Lib.hid ho5; have HP5 := Lib.hid hp5; have HB5 := Lib.hid hb5; clear hr5 hq5 ho5 hp5 hb5)
                  refine name_world fun V hV => ?_
                  have hbV : Below w5.heap.size w5 V := by rw [hV]; exact (Below.refl _ _).alloc (Nat.le_refl _) _
                  have HX5 : Hid (V.heap[w5.heap.size]? = some (.cells #[.int .i64 now', .int .i64 r, .slice A5 L2.length c5, .slice Q5 (P2).length d5] 33 (0, 0))) := Lib.hid (by rw [hV]; exact heap_alloc_new _ _)
                  have HBm := Lib.hid (HB5.out.trans (hbV.mono HB5.out.size))
                  have HIm := Lib.hid (HIc.out.below HBm.out)
                  have HBy : Hid (V.heap[b12]? = some _) := Lib.hid ((HBm.out.block b12 (box_lt HBx2.out)).trans HBx2.out)
                  have HRm := Lib.hid (HR5.out.below hbV)
                  have HQm := Lib.hid (HQ5.out.below hbV)
                  have HOm : Hid (∀ a, A5 = some a → A = some a ∨ ((wc).heap.size ≤ a.block ∧ a.block < V.heap.size)) := Lib.hid (fun a ha => (HO5.out a ha).imp (fun h => h) (fun h => ⟨h.1, Nat.lt_of_lt_of_le h.2 hbV.size⟩))
                  have HPm : Hid (∀ a, Q5 = some a → Q = some a ∨ ((wc).heap.size ≤ a.block ∧ a.block < V.heap.size)) := Lib.hid (fun a ha => (HP5.out a ha).imp (fun h => h) (fun h => ⟨h.1, Nat.lt_of_lt_of_le h.2 hbV.size⟩))
                  have HBv := Lib.hid (fun A vs (h : Rd w5 A vs) => h.below hbV)
                  have h13 : b12 < w5.heap.size := Nat.lt_of_lt_of_le (box_lt HBx2.out) HB5.out.size
                  clear hV hbV xx xy qx qy lx lq
                  generalize w5.heap.size = b13 at *
                  obtain ⟨xx, xy⟩ := box_rules HBy.out
                  obtain ⟨qx, qy⟩ := box_rules HIm.out.box
                  obtain ⟨zx, zy⟩ := box_rules HX5.out
                  have lx := box_lt HBy.out
                  have lq := box_lt HIm.out.box
                  have lz := box_lt HX5.out
                  go_upto_region 31 with (go_at_call 20; (with_reducible refine (fb.out _ HIm.out.tms).mono ?_); rintro e w6 ⟨rfl, hw6, ht6⟩; have HW6 := Lib.hid (hw6.mono (tn' := 1024 * (k + 1)) (by omega)); have HT6 := Lib.hid ht6; clear hw6 ht6)
                  have H13f : Hid (b13 ∉ g.l) := Lib.hid (fun hm => by have := (HB0.out.fl _ hm).2; have := HB0.out.b9.2; omega)
                  have H9f : Hid (b9 ∉ g.l) := Lib.hid (fun hm => by have := (HB0.out.fl _ hm).2; omega)
                  have HX6 := Lib.hid (HT6.out.box HX5.out H13f.out)
                  have HB6 := Lib.hid (HT6.out.box HBy.out (fun hm => hb12f _ hm rfl))
                  have HQ6 := Lib.hid (HT6.out.box HIm.out.box H9f.out)
                  clear xx xy qx qy zx zy lx lq lz
                  obtain ⟨zx, zy⟩ := box_rules HX6.out
                  have lz := box_lt HX6.out
                  obtain ⟨qx, qy⟩ := box_rules HQ6.out
                  have lq := box_lt HQ6.out
                  have HF9 := Lib.hid (TpI.turn (c' := c5) (d' := d5) HB0.out HIc.out HBm.out HT6.out HW6.out HRm.out HQm.out HOm.out HPm.out HPi.out HPl.out)
                  have HFx := Lib.hid ((set4 HQ6.out rfl (.int .i64 now') (.int .i64 r) (.slice A5 L2.length c5) (.slice Q5 (P2).length d5)).2.box HB6.out (by simp; exact hne.symm))
                  go_wp2
                  go_meet
                  refine ⟨rfl, _, a2, e2, now', L2, P2, A5, c5, Q5, d5, HFx.out, HF9.out⟩
              · as_aux_lemma =>
                have fa := Lib.hid (revery_any now' r id a2 e2 L A c P Q d wc (by omega) (by omega) HIc.out.ra HIc.out.rq (fun a ha => (HIc.out.oa a ha).2) (fun a ha => (HIc.out.oq a ha).2))
                have fb := Lib.hid (fun X (hX : Tms X g r now' L P (1024 * k)) => tevery_any g r now' L P (1024 * k) X id a2 e2 hX HIc.out.pi HId.out (by omega))
                unfold RetRt rtv at fa
                have HPi := Lib.hid (HIc.out.pi.everyR r id a2 e2)
                have HPl : Hid ((everyP r L P id a2 e2).length ≤ k + 1) := Lib.hid (by have := everyP_le r L P id a2 e2; have := HIc.out.pl; omega)
                generalize everyC r L id a2 e2 = cc at *
                generalize everyL r L id a2 e2 = L2 at *
                generalize everyP r L P id a2 e2 = P2 at *
                go_upto_region 24 with (go_at_call 17; (with_reducible refine fa.out.mono ?_); rintro e w5 ⟨A5, c5, Q5, d5, rfl, hr5, hq5, ho5, hp5, hb5⟩; have HR5 := Lib.hid hr5; have HQ5 := Lib.hid hq5; have HO5 := Lib.hid ho5; have HP5 := Lib.hid hp5; have HB5 := Lib.hid hb5; clear hr5 hq5 ho5 hp5 hb5)
                refine name_world fun V hV => ?_
                have hbV : Below w5.heap.size w5 V := by rw [hV]; exact (Below.refl _ _).alloc (Nat.le_refl _) _
                have HX5 : Hid (V.heap[w5.heap.size]? = some (.cells #[.int .i64 now', .int .i64 r, .slice A5 L2.length c5, .slice Q5 (P2).length d5] 33 (0, 0))) := Lib.hid (by rw [hV]; exact heap_alloc_new _ _)
                have HBm := Lib.hid (HB5.out.trans (hbV.mono HB5.out.size))
                have HIm := Lib.hid (HIc.out.below HBm.out)
                have HBy : Hid (V.heap[b12]? = some _) := Lib.hid ((HBm.out.block b12 (box_lt HBx2.out)).trans HBx2.out)
                have HRm := Lib.hid (HR5.out.below hbV)
                have HQm := Lib.hid (HQ5.out.below hbV)
                have HOm : Hid (∀ a, A5 = some a → A = some a ∨ ((wc).heap.size ≤ a.block ∧ a.block < V.heap.size)) := Lib.hid (fun a ha => (HO5.out a ha).imp (fun h => h) (fun h => ⟨h.1, Nat.lt_of_lt_of_le h.2 hbV.size⟩))
                have HPm : Hid (∀ a, Q5 = some a → Q = some a ∨ ((wc).heap.size ≤ a.block ∧ a.block < V.heap.size)) := Lib.hid (fun a ha => (HP5.out a ha).imp (fun h => h) (fun h => ⟨h.1, Nat.lt_of_lt_of_le h.2 hbV.size⟩))
                have HBv := Lib.hid (fun A vs (h : Rd w5 A vs) => h.below hbV)
                have h13 : b12 < w5.heap.size := Nat.lt_of_lt_of_le (box_lt HBx2.out) HB5.out.size
                clear hV hbV xx xy qx qy lx lq
                generalize w5.heap.size = b13 at *
                obtain ⟨xx, xy⟩ := box_rules HBy.out
                obtain ⟨qx, qy⟩ := box_rules HIm.out.box
                obtain ⟨zx, zy⟩ := box_rules HX5.out
                have lx := box_lt HBy.out
                have lq := box_lt HIm.out.box
                have lz := box_lt HX5.out
                go_upto_region 26 with (go_at_call 18; (with_reducible refine (fb.out _ HIm.out.tms).mono ?_); rintro e w6 ⟨rfl, hw6, ht6⟩; have HW6 := Lib.hid (hw6.mono (tn' := 1024 * (k + 1)) (by omega)); have HT6 := Lib.hid ht6; clear hw6 ht6)
                have H13f : Hid (b13 ∉ g.l) := Lib.hid (fun hm => by have := (HB0.out.fl _ hm).2; have := HB0.out.b9.2; omega)
                have H9f : Hid (b9 ∉ g.l) := Lib.hid (fun hm => by have := (HB0.out.fl _ hm).2; omega)
                have HX6 := Lib.hid (HT6.out.box HX5.out H13f.out)
                have HB6 := Lib.hid (HT6.out.box HBy.out (fun hm => hb12f _ hm rfl))
                have HQ6 := Lib.hid (HT6.out.box HIm.out.box H9f.out)
                clear xx xy qx qy zx zy lx lq lz
                obtain ⟨zx, zy⟩ := box_rules HX6.out
                have lz := box_lt HX6.out
                obtain ⟨qx, qy⟩ := box_rules HQ6.out
                have lq := box_lt HQ6.out
                have HF9 := Lib.hid (TpI.turn (c' := c5) (d' := d5) HB0.out HIc.out HBm.out HT6.out HW6.out HRm.out HQm.out HOm.out HPm.out HPi.out HPl.out)
                have HFx := Lib.hid ((set4 HQ6.out rfl (.int .i64 now') (.int .i64 r) (.slice A5 L2.length c5) (.slice Q5 (P2).length d5)).2.box HB6.out (by simp; exact hne.symm))
                go_wp2
                go_meet
                refine ⟨rfl, _, a2, e2, now', L2, P2, A5, c5, Q5, d5, HFx.out, HF9.out⟩
            · as_aux_lemma =>
              have fa := Lib.hid (rstart_any now' r id a2 L A c P Q d wc (by omega) HIc.out.ra HIc.out.rq (fun a ha => (HIc.out.oa a ha).2) (fun a ha => (HIc.out.oq a ha).2))
              have fb := Lib.hid (fun X (hX : Tms X g r now' L P (1024 * k)) => tstart_any g r now' L P (1024 * k) X id a2 hX HId.out (by omega))
              unfold RetRt rtv at fa
              have HPi := Lib.hid (HIc.out.pi.ins r id a2)
              have HPl : Hid (P.length ≤ k + 1) := Lib.hid (Nat.le_succ_of_le HIc.out.pl)
              generalize insC r L id a2 = cc at *
              generalize insL r L id a2 = L2 at *
              go_upto_region 18 with (go_at_call 15; (with_reducible refine fa.out.mono ?_); rintro e w5 ⟨A5, c5, Q5, d5, rfl, hr5, hq5, ho5, hp5, hb5⟩; have HR5 := Lib.hid hr5; have HQ5 := Lib.hid hq5; have HO5 := Lib.hid ho5; have HP5 := Lib.hid hp5; have HB5 := Lib.hid hb5; clear hr5 hq5 ho5 hp5 hb5)
              refine name_world fun V hV => ?_
              have hbV : Below w5.heap.size w5 V := by rw [hV]; exact (Below.refl _ _).alloc (Nat.le_refl _) _
              have HX5 : Hid (V.heap[w5.heap.size]? = some (.cells #[.int .i64 now', .int .i64 r, .slice A5 L2.length c5, .slice Q5 (P).length d5] 33 (0, 0))) := Lib.hid (by rw [hV]; exact heap_alloc_new _ _)
              have HBm := Lib.hid (HB5.out.trans (hbV.mono HB5.out.size))
              have HIm := Lib.hid (HIc.out.below HBm.out)
              have HBy : Hid (V.heap[b12]? = some _) := Lib.hid ((HBm.out.block b12 (box_lt HBx2.out)).trans HBx2.out)
              have HRm := Lib.hid (HR5.out.below hbV)
              have HQm := Lib.hid (HQ5.out.below hbV)
              have HOm : Hid (∀ a, A5 = some a → A = some a ∨ ((wc).heap.size ≤ a.block ∧ a.block < V.heap.size)) := Lib.hid (fun a ha => (HO5.out a ha).imp (fun h => h) (fun h => ⟨h.1, Nat.lt_of_lt_of_le h.2 hbV.size⟩))
              have HPm : Hid (∀ a, Q5 = some a → Q = some a ∨ ((wc).heap.size ≤ a.block ∧ a.block < V.heap.size)) := Lib.hid (fun a ha => (HP5.out a ha).imp (fun h => h) (fun h => ⟨h.1, Nat.lt_of_lt_of_le h.2 hbV.size⟩))
              have HBv := Lib.hid (fun A vs (h : Rd w5 A vs) => h.below hbV)
              have h13 : b12 < w5.heap.size := Nat.lt_of_lt_of_le (box_lt HBx2.out) HB5.out.size
              clear hV hbV xx xy qx qy lx lq
              generalize w5.heap.size = b13 at *
              obtain ⟨xx, xy⟩ := box_rules HBy.out
              obtain ⟨qx, qy⟩ := box_rules HIm.out.box
              obtain ⟨zx, zy⟩ := box_rules HX5.out
              have lx := box_lt HBy.out
              have lq := box_lt HIm.out.box
              have lz := box_lt HX5.out
              go_upto_region 20 with (go_at_call 16; (with_reducible refine (fb.out _ HIm.out.tms).mono ?_); rintro e w6 ⟨rfl, hw6, ht6⟩; have HW6 := Lib.hid (hw6.mono (tn' := 1024 * (k + 1)) (by omega)); have HT6 := Lib.hid ht6; clear hw6 ht6)
              have H13f : Hid (b13 ∉ g.l) := Lib.hid (fun hm => by have := (HB0.out.fl _ hm).2; have := HB0.out.b9.2; omega)
              have H9f : Hid (b9 ∉ g.l) := Lib.hid (fun hm => by have := (HB0.out.fl _ hm).2; omega)
              have HX6 := Lib.hid (HT6.out.box HX5.out H13f.out)
              have HB6 := Lib.hid (HT6.out.box HBy.out (fun hm => hb12f _ hm rfl))
              have HQ6 := Lib.hid (HT6.out.box HIm.out.box H9f.out)
              clear xx xy qx qy zx zy lx lq lz
              obtain ⟨zx, zy⟩ := box_rules HX6.out
              have lz := box_lt HX6.out
              obtain ⟨qx, qy⟩ := box_rules HQ6.out
              have lq := box_lt HQ6.out
              have HF9 := Lib.hid (TpI.turn (c' := c5) (d' := d5) HB0.out HIc.out HBm.out HT6.out HW6.out HRm.out HQm.out HOm.out HPm.out HPi.out HPl.out)
              have HFx := Lib.hid ((set4 HQ6.out rfl (.int .i64 now') (.int .i64 r) (.slice A5 L2.length c5) (.slice Q5 (P).length d5)).2.box HB6.out (by simp; exact hne.symm))
              go_wp2
              go_meet
              refine ⟨rfl, _, a2, e2, now', L2, P, A5, c5, Q5, d5, HFx.out, HF9.out⟩
          case rest =>
          as_aux_lemma =>
          obtain ⟨rfl, kd3, a3, e3, now2, L2, P2, A2, c2, Q2, d2, hbx3, hwp3⟩ := hcut
          have HBx3 := Lib.hid hbx3
          have HI3 := Lib.hid hwp3
          have HT3 := Lib.hid (HT.out.below HI3.out.bel Hlt.out)
          have hsl2 : L2.length ≤ 1048576 := by have := HI3.out.tms.whl.n0; omega
          have hpl2 : P2.length ≤ 1048576 := by have := HI3.out.pl; omega
          obtain ⟨nv, bv, hn1, hn2⟩ := next_both9 A2 c2 HI3.out.tms
          have f1 := Lib.hid (fun X (hX : Tms X g r now2 L2 P2 (1024 * (k + 1))) => tperiod_any g r now2 L2 P2 (1024 * (k + 1)) X id hX HI3.out.pi HId.out)
          have f2 := Lib.hid (fun X (hX : Rd X A2 (L2.flatMap duc)) (hY : Rd X Q2 (P2.flatMap pec)) => rPeriod_any now2 r id L2 A2 c2 P2 Q2 d2 X hsl2 hpl2 hX hY HI3.out.pi)
          have f3 := Lib.hid hn1
          have f4 := Lib.hid hn2
          have f5 := Lib.hid (fun X (hX : Tms X g r now2 L2 P2 (1024 * (k + 1))) => whl_len g.f r now2 L2 (1024 * (k + 1)) X hX.whl)
          have f6 := Lib.hid (fun X (hX : Tms X g r now2 L2 P2 (1024 * (k + 1))) => whl_now g.f r now2 L2 (1024 * (k + 1)) X hX.whl)
          unfold rtv at f2
          clear xx xy qx qy lx lq hbx3 hwp3 hn1 hn2 HBx2 HIc
          generalize perD P2 id = av at *
          generalize canC L2 id = cv at *
          obtain ⟨xx, xy⟩ := box_rules HBx3.out
          obtain ⟨qx, qy⟩ := box_rules HI3.out.box
          have lx := box_lt HBx3.out
          have lq := box_lt HI3.out.box
          go_upto_region 42 with (go_at_call 25; (with_reducible refine (f1.out _ HI3.out.tms).mono ?_); rintro e w4 ⟨rfl, rfl⟩)
          go_upto_region 43 with (go_at_call 26; (with_reducible refine (f2.out _ HI3.out.ra HI3.out.rq).mono ?_); rintro e w5 ⟨rfl, hb5⟩; have HI5 := Lib.hid (HI3.out.below hb5); have HT5 := Lib.hid (HT3.out.below hb5 (Nat.lt_of_lt_of_le Hlt.out HI3.out.bel.size)); clear hb5)
          clear xx xy qx qy lx lq
          obtain ⟨xx, xy⟩ := box_rules HI5.out.tms.box
          have lx := box_lt HI5.out.tms.box
          go_upto_region 44 with (go_at_call 27; (with_reducible refine (f3.out _ HI5.out.tms HT5.out).mono ?_); rintro e w6 ⟨rfl, hb6⟩; have HI6 := Lib.hid (HI5.out.below hb6); clear hb6)
          as_aux_lemma =>
          clear xx xy lx
          obtain ⟨qx, qy⟩ := box_rules HI6.out.box
          have lq := box_lt HI6.out.box
          go_upto_region 45 with (go_at_call 28; (with_reducible refine (f4.out _ HI6.out.ra).mono ?_); rintro e w7 ⟨rfl, hb7⟩; have HI7 := Lib.hid (HI6.out.below hb7); clear hb7)
          as_aux_lemma =>
          clear qx qy lq
          obtain ⟨qx, qy⟩ := box_rules HI7.out.box
          have lq := box_lt HI7.out.box
          obtain ⟨xx, xy⟩ := box_rules HI7.out.tms.box
          have lx := box_lt HI7.out.tms.box
          have HI8 := Lib.hid (fun q => HI7.out.tms.drewN q)
          go_big_quiet (first
            | (go_at_call 29; (with_reducible exact (f5.out _ (HI8.out _)).mono fun _ _ ⟨a, b⟩ => ⟨a, _, b.symm⟩))
            | (go_at_call 30; (with_reducible exact (f6.out _ (HI8.out _)).mono fun _ _ ⟨a, b⟩ => ⟨a, _, b.symm⟩)))
          go_wp2
          go_roundw
          case rel => exact ⟨k + 1, now2, L2, P2, A2, c2, Q2, d2, by go_num, hlt, Lib.hid (HI7.out.drewN _)⟩
          case measure => simp [intOf]; omega
        · obtain rfl : k = l.length := by omega
          go_wp2
          go_ret
          exact ⟨rfl, HIj.out.bel⟩
    · have h41 : decide ((40 : Int) < (l.length : Int)) = true := decide_eq_true (by omega)
      go_wp2
      go_ret
      exact ⟨rfl, HI0.out.bel⟩
  · have f2 := Lib.hid (fun X => tnew_bad now room X hg)
    have f3 := Lib.hid (fun X => rtnew_bad now room X (fun h9 => hg ⟨h9.1.1, h9.1.2, h9.2.1, h9.2.2⟩))
    unfold rtv at f3
    clear hr hid hT hg
    go_enter Tryd.func3, Tryd.ntmps3
    go_upto_region 3 with (go_at_call 11; (with_reducible refine f1.out.mono ?_); rintro e w1 ⟨rfl, hb1⟩; have HB1 := Lib.hid hb1; clear hb1)
    go_upto_region 4 with (go_at_call 12; (with_reducible refine (f2.out w1).mono ?_); rintro e w2 ⟨rfl, rfl⟩)
    go_wp2_with (go_at_call 13; (with_reducible refine (f3.out w1).mono ?_); rintro e w3 ⟨rfl, hb3⟩; have HB3 := Lib.hid (HB1.out.trans (hb3.mono HB1.out.size)); clear hb3)
    go_ret
    exact ⟨rfl, HB3.out.alloc HB3.out.size _⟩
end Go.Proofs.YtiblpnadninmbaaDoor

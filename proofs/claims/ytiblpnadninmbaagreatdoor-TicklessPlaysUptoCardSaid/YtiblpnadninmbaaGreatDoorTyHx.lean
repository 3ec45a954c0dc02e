/- Package vergelaw10: the walk of plays, Every and Stop. Conditions: a service's memory, lists that read, the de Bruijn table. -/
import Derived.Test.YtiblpnadninmbaaGreatDoorTyGx
namespace Go.Proofs.YtiblpnadninmbaaGreatDoor
open Go.RowKit Go.Shelf
attribute [local go_sem] Oper.semAt_some

set_option maxHeartbeats 16000000 in
set_option maxRecDepth 100000 in
theorem plays_5 (g : SvF) (room : Nat) (mn mx : Int) (s : Sst) (tn : Nat) (A : Option Addr) (c : Nat) (Q : Option Addr) (d : Nat) (id at1 e2 : Int) (w : World) (h : PlIn w g room mn mx s tn A Q) (hid : I64N id) :
    Calls Tryz.prog 7 #[.pointer (some ⟨g.ps, 0, none⟩), rsS room mn mx s A c Q d, .agg #[.int .i64 5, .int .i64 id, .int .i64 at1, .int .i64 e2]] w (RetPl g room mn mx (everyS room mn mx s id at1 e2) (tn + 1) A Q w) := by
  have HS := Lib.hid h.sv; have HRa := Lib.hid h.ra; have HRq := Lib.hid h.rq; have HA := Lib.hid h.ha; have HQ := Lib.hid h.hq; have HT := Lib.hid h.tab; have HTg := Lib.hid h.tg; have HOk := Lib.hid h.ok; have HJ := Lib.hid h.jb; have HBd := Lib.hid h.bd; have HRm := Lib.hid h.rm; have HTn := Lib.hid h.tn
  have HGl : Hid (∀ k ∈ g.l, k < w.heap.size) := Lib.hid h.sv.lt
  have h0 := h.jb.now0
  have h1 := h.jb.now1
  have HId := Lib.hid hid
  skip
  have fR := Lib.hid (fun X (hX : Rd X A (s.L.flatMap duc)) (hY : Rd X Q (s.P.flatMap pec)) (hA : ∀ a, A = some a → a.block < X.heap.size) (hQ : ∀ a, Q = some a → a.block < X.heap.size) => rsevery_any room mn mx s id at1 e2 A c Q d X HBd.out.1 HBd.out.2.1 HJ.out (by have h7 := everyL_le room s.L id at1 e2; have h8 := HBd.out.1; omega) (every_at HBd.out.2.2 room id at1 e2) HOk.out hX hY hA hQ)
  rw [rs_every] at fR
  have fA := Lib.hid (fun X (hX : SvS X g room mn mx s.now s tn) (hTX : Tab X) => severy_any g room mn mx s id at1 e2 tn X hX HJ.out.pi HId.out (by have := HTn.out; omega) HOk.out h0 h1 hTX HTg.out)
  have hnw := every_now' room mn mx s id at1 e2
  obtain ⟨s2, hs2⟩ : ∃ s2, everyS room mn mx s id at1 e2 = s2 := ⟨_, rfl⟩
  rw [hs2] at fR fA hnw
  rw [hs2]
  clear hs2
  obtain ⟨cc, hcc⟩ : ∃ cc, everyC room s.L id at1 e2 = cc := ⟨_, rfl⟩
  rw [hcc] at fR fA
  clear hcc h hid
  obtain ⟨L, P, now, ar, goal, wk⟩ := s
  obtain ⟨L2, P2, n2, a2, g2, k2⟩ := s2
  unfold rsS at fR ⊢
  unfold RetRs RetRv at fR
  unfold rsv at fR ⊢
  dsimp only at *
  have HNw := Lib.hid hnw
  clear hnw
  go_enter Tryz.func7, Tryz.ntmps7
  go_upto_region 1 with fail
  refine name_world fun V hV => ?_
  have HP0 : Hid (PlV w V #[.int .i64 now, .int .i64 (room : Int), .slice A L.length c, .slice Q P.length d, .int .i64 mn, .int .i64 mx, .bool ar, .int .i64 goal, .int .i64 wk] #[.int .i64 5, .int .i64 id, .int .i64 at1, .int .i64 e2]) := Lib.hid (by rw [hV]; exact PlV.mk0 ..)
  clear hV
  obtain ⟨x0, y0⟩ := box_rules (HP0.out).b0
  have l0 := box_lt (HP0.out).b0
  obtain ⟨x1, y1⟩ := box_rules (HP0.out).b1
  have l1 := box_lt (HP0.out).b1
  obtain ⟨x2, y2⟩ := box_rules (HP0.out).b2
  have l2 := box_lt (HP0.out).b2
  go_upto_region 3 with fail
  have HP1 := HP0
  have HB1 := HP1.out.bel
  have hlow := HB1.size
  have frr := Lib.hid (fR.out V (HRa.out.below HB1) (HRq.out.below HB1) (fun a ha => Nat.lt_of_lt_of_le (HA.out a ha).1 hlow) (fun a ha => Nat.lt_of_lt_of_le (HQ.out a ha).1 hlow))
  clear fR HB1 hlow
  go_upto_region 11 with (go_at_call 23; (with_reducible refine frr.out.mono ?_); rintro e w5 ⟨A5, c5, Q5, d5, rfl, hr5, hq5, ho5, hp5, hb5⟩; have HR5 := Lib.hid hr5; have HQ5 := Lib.hid hq5; have HO5 := Lib.hid ho5; have HP5 := Lib.hid hp5; have HB5 := Lib.hid hb5; have HPw := Lib.hid (HP1.out.below hb5); clear hr5 hq5 ho5 hp5 hb5 x0 y0 l0 x1 y1 l1 x2 y2 l2)
  refine name_world fun U hU => ?_
  have hbU : Below w5.heap.size w5 U := by
    rw [hU]; first | exact (Below.refl _ _).alloc (Nat.le_refl _) _ | exact (((Tn.refl [] w5).alloc _).new (set9 (heap_alloc_new _ _) _ _ _ _ _ _ _ _ _).2 (fun b hb => by simp at hb; omega)).base (Below.refl _ _) (fun b hb => by cases hb) (Nat.le_refl _)
  have HU : Hid (U.heap[w5.heap.size]? = some (.cells #[.int .i64 n2, .int .i64 (room : Int), .slice A5 L2.length c5, .slice Q5 P2.length d5, .int .i64 mn, .int .i64 mx, .bool a2, .int .i64 g2, .int .i64 k2] 37 (0, 0))) := Lib.hid (by
    rw [hU]; first | exact heap_alloc_new _ _ | exact (set9 (heap_alloc_new _ _) _ _ _ _ _ _ _ _ _).1)
  have HPu := Lib.hid (HPw.out.below hbU)
  have HBU := Lib.hid (HPu.out.bel)
  have HB5u := Lib.hid (HB5.out.trans (hbU.mono HB5.out.size))
  have HRu := Lib.hid (HR5.out.below hbU)
  have HQu := Lib.hid (HQ5.out.below hbU)
  have hsU := hbU.size
  have hs5 := HB5.out.size
  have hsw := HP1.out.sz
  clear hU hbU frr HPw HP1 HR5 HQ5 HB5
  have HSu := Lib.hid (HS.out.turn (Tn.of_below [] ((HBU.out))) (fun _ _ => by simp))
  have HTu : Hid (Tab U) := Lib.hid (HT.out.below HBU.out HT.out.lt)
  have HAu : Hid (∀ a, A5 = some a → a.block ∉ g.l) := Lib.hid (fun a ha hm => by
    have h7 := HGl.out _ hm
    rcases HO5.out a ha with q | q
    · exact (HA.out a q).2 hm
    · omega)
  have HQu2 : Hid (∀ a, Q5 = some a → a.block ∉ g.l) := Lib.hid (fun a ha hm => by
    have h7 := HGl.out _ hm
    rcases HP5.out a ha with q | q
    · exact (HQ.out a q).2 hm
    · omega)
  obtain ⟨x0, y0⟩ := box_rules (HPu.out).b0
  have l0 := box_lt (HPu.out).b0
  obtain ⟨x1, y1⟩ := box_rules (HPu.out).b1
  have l1 := box_lt (HPu.out).b1
  obtain ⟨x2, y2⟩ := box_rules (HPu.out).b2
  have l2 := box_lt (HPu.out).b2
  obtain ⟨x8, y8⟩ := box_rules HU.out
  have l8 := box_lt HU.out
  go_region_with ((go_at_call 13; (with_reducible refine (fA.out _ HSu.out.drew1 (TabD HTu.out)).mono ?_); rintro e w8 ⟨rfl, hs8, ht8⟩; have HS8 := Lib.hid hs8; have HT8 := Lib.hid ht8; clear hs8 ht8; have HPb := Lib.hid (HPu.out.tn ((Tn.refl g.l U).drew.trans HT8.out) HGl.out); have HU8 := Lib.hid (((Tn.refl g.l U).drew.trans HT8.out).box HU.out (fun hm => by have := HGl.out _ hm; omega)); clear x0 y0 l0 x1 y1 l1 x2 y2 l2 x8 y8 l8; obtain ⟨x0, y0⟩ := box_rules HPb.out.1; obtain ⟨x1, y1⟩ := box_rules HPb.out.2.1; obtain ⟨x2, y2⟩ := box_rules HPb.out.2.2; have l2 := box_lt HPb.out.2.2; obtain ⟨x8, y8⟩ := box_rules HU8.out; have l8 := box_lt HU8.out))
  all_goals
    go_wp2
    refine name_post fun V4 hV4 => ?_
    obtain ⟨hE4, hT4⟩ := set9 HPb.out.2.2 (.int .i64 n2) (.int .i64 (room : Int)) (.slice A5 L2.length c5) (.slice Q5 P2.length d5) (.int .i64 mn) (.int .i64 mx) (.bool a2) (.int .i64 g2) (.int .i64 k2)
    first
      | (rw [← hV4] at hE4 hT4)
      | (have hE4 := bdrw hE4; have hT4 := hT4.drew; rw [← hV4] at hE4 hT4)
    obtain ⟨vx, vy⟩ := box_rules hE4
    clear hV4
    refine bodyPost_ret (v := .tuple #[.agg #[.int .i64 n2, .int .i64 (room : Int), .slice A5 L2.length c5, .slice Q5 P2.length d5, .int .i64 mn, .int .i64 mx, .bool a2, .int .i64 g2, .int .i64 k2], .bool true]) (by simp [results, Tryz.f7, go_sem, vx]) rfl ?_
    exact pl_end (s2 := ⟨L2, P2, n2, a2, g2, k2⟩) HGl.out HBU.out ((Below.refl _ _).drew) HT8.out hT4 (by have h7 := HS8.out; rw [← HNw.out] at h7; exact h7) HRu.out HQu.out HO5.out HP5.out HAu.out HQu2.out HA.out HQ.out hsw hsU
set_option maxHeartbeats 16000000 in
set_option maxRecDepth 100000 in
theorem plays_1 (g : SvF) (room : Nat) (mn mx : Int) (s : Sst) (tn : Nat) (A : Option Addr) (c : Nat) (Q : Option Addr) (d : Nat) (id at1 e2 : Int) (w : World) (h : PlIn w g room mn mx s tn A Q) (hid : I64N id) :
    Calls Tryz.prog 7 #[.pointer (some ⟨g.ps, 0, none⟩), rsS room mn mx s A c Q d, .agg #[.int .i64 1, .int .i64 id, .int .i64 at1, .int .i64 e2]] w (RetPl g room mn mx (everyS room mn mx s id (by10 s.now at1) e2) (tn + 1) A Q w) := by
  have HS := Lib.hid h.sv; have HRa := Lib.hid h.ra; have HRq := Lib.hid h.rq; have HA := Lib.hid h.ha; have HQ := Lib.hid h.hq; have HT := Lib.hid h.tab; have HTg := Lib.hid h.tg; have HOk := Lib.hid h.ok; have HJ := Lib.hid h.jb; have HBd := Lib.hid h.bd; have HRm := Lib.hid h.rm; have HTn := Lib.hid h.tn
  have HGl : Hid (∀ k ∈ g.l, k < w.heap.size) := Lib.hid h.sv.lt
  have h0 := h.jb.now0
  have h1 := h.jb.now1
  have HId := Lib.hid hid
  obtain ⟨bt, hbt⟩ : ∃ bt, by10 s.now at1 = bt := ⟨_, rfl⟩; have fB := Lib.hid (fun X => by10_any s.now at1 X h0 h1); rw [hbt] at fB; rw [hbt]; clear hbt
  have fR := Lib.hid (fun X (hX : Rd X A (s.L.flatMap duc)) (hY : Rd X Q (s.P.flatMap pec)) (hA : ∀ a, A = some a → a.block < X.heap.size) (hQ : ∀ a, Q = some a → a.block < X.heap.size) => rsevery_any room mn mx s id bt e2 A c Q d X HBd.out.1 HBd.out.2.1 HJ.out (by have h7 := everyL_le room s.L id bt e2; have h8 := HBd.out.1; omega) (every_at HBd.out.2.2 room id bt e2) HOk.out hX hY hA hQ)
  rw [rs_every] at fR
  have fA := Lib.hid (fun X (hX : SvS X g room mn mx s.now s tn) (hTX : Tab X) => severy_any g room mn mx s id bt e2 tn X hX HJ.out.pi HId.out (by have := HTn.out; omega) HOk.out h0 h1 hTX HTg.out)
  have hnw := every_now' room mn mx s id bt e2
  obtain ⟨s2, hs2⟩ : ∃ s2, everyS room mn mx s id bt e2 = s2 := ⟨_, rfl⟩
  rw [hs2] at fR fA hnw
  rw [hs2]
  clear hs2
  obtain ⟨cc, hcc⟩ : ∃ cc, everyC room s.L id bt e2 = cc := ⟨_, rfl⟩
  rw [hcc] at fR fA
  clear hcc h hid
  obtain ⟨L, P, now, ar, goal, wk⟩ := s
  obtain ⟨L2, P2, n2, a2, g2, k2⟩ := s2
  unfold rsS at fR ⊢
  unfold RetRs RetRv at fR
  unfold rsv at fR ⊢
  dsimp only at *
  have HNw := Lib.hid hnw
  clear hnw
  go_enter Tryz.func7, Tryz.ntmps7
  go_upto_region 1 with fail
  refine name_world fun V hV => ?_
  have HP0 : Hid (PlV w V #[.int .i64 now, .int .i64 (room : Int), .slice A L.length c, .slice Q P.length d, .int .i64 mn, .int .i64 mx, .bool ar, .int .i64 goal, .int .i64 wk] #[.int .i64 1, .int .i64 id, .int .i64 at1, .int .i64 e2]) := Lib.hid (by rw [hV]; exact PlV.mk0 ..)
  clear hV
  obtain ⟨x0, y0⟩ := box_rules (HP0.out).b0
  have l0 := box_lt (HP0.out).b0
  obtain ⟨x1, y1⟩ := box_rules (HP0.out).b1
  have l1 := box_lt (HP0.out).b1
  obtain ⟨x2, y2⟩ := box_rules (HP0.out).b2
  have l2 := box_lt (HP0.out).b2
  go_upto_region 3 with (go_at_call 21; (with_reducible refine (fB.out _).mono ?_); rintro e w7 ⟨rfl, rfl⟩)
  refine name_world fun V2 hV2 => ?_
  have HP1 : Hid (PlV w V2 #[.int .i64 now, .int .i64 (room : Int), .slice A L.length c, .slice Q P.length d, .int .i64 mn, .int .i64 mx, .bool ar, .int .i64 goal, .int .i64 wk] #[.int .i64 1, .int .i64 id, .int .i64 bt, .int .i64 e2]) := Lib.hid (by
    have hT : Tn [w.heap.size + 1] V V2 := by rw [hV2]; exact tsetR (i := 2) (Tn.refl _ _) (by simp) _
    exact ⟨hT.box HP0.out.b0 (by simp), by rw [hV2]; exact box_set (i := 2) HP0.out.b1 _, hT.box HP0.out.b2 (by simp), hT.base HP0.out.bel (fun k hk => by have := List.mem_singleton.1 hk; omega) HP0.out.bel.size, Nat.le_trans HP0.out.sz hT.size⟩)
  clear hV2 x0 y0 l0 x1 y1 l1 x2 y2 l2 HP0 fB
  obtain ⟨x0, y0⟩ := box_rules (HP1.out).b0
  have l0 := box_lt (HP1.out).b0
  obtain ⟨x1, y1⟩ := box_rules (HP1.out).b1
  have l1 := box_lt (HP1.out).b1
  obtain ⟨x2, y2⟩ := box_rules (HP1.out).b2
  have l2 := box_lt (HP1.out).b2
  have HB1 := HP1.out.bel
  have hlow := HB1.size
  have frr := Lib.hid (fR.out V2 (HRa.out.below HB1) (HRq.out.below HB1) (fun a ha => Nat.lt_of_lt_of_le (HA.out a ha).1 hlow) (fun a ha => Nat.lt_of_lt_of_le (HQ.out a ha).1 hlow))
  clear fR HB1 hlow
  go_upto_region 11 with (go_at_call 23; (with_reducible refine frr.out.mono ?_); rintro e w5 ⟨A5, c5, Q5, d5, rfl, hr5, hq5, ho5, hp5, hb5⟩; have HR5 := Lib.hid hr5; have HQ5 := Lib.hid hq5; have HO5 := Lib.hid ho5; have HP5 := Lib.hid hp5; have HB5 := Lib.hid hb5; have HPw := Lib.hid (HP1.out.below hb5); clear hr5 hq5 ho5 hp5 hb5 x0 y0 l0 x1 y1 l1 x2 y2 l2)
  refine name_world fun U hU => ?_
  have hbU : Below w5.heap.size w5 U := by
    rw [hU]; first | exact (Below.refl _ _).alloc (Nat.le_refl _) _ | exact (((Tn.refl [] w5).alloc _).new (set9 (heap_alloc_new _ _) _ _ _ _ _ _ _ _ _).2 (fun b hb => by simp at hb; omega)).base (Below.refl _ _) (fun b hb => by cases hb) (Nat.le_refl _)
  have HU : Hid (U.heap[w5.heap.size]? = some (.cells #[.int .i64 n2, .int .i64 (room : Int), .slice A5 L2.length c5, .slice Q5 P2.length d5, .int .i64 mn, .int .i64 mx, .bool a2, .int .i64 g2, .int .i64 k2] 37 (0, 0))) := Lib.hid (by
    rw [hU]; first | exact heap_alloc_new _ _ | exact (set9 (heap_alloc_new _ _) _ _ _ _ _ _ _ _ _).1)
  have HPu := Lib.hid (HPw.out.below hbU)
  have HBU := Lib.hid (HPu.out.bel)
  have HB5u := Lib.hid (HB5.out.trans (hbU.mono HB5.out.size))
  have HRu := Lib.hid (HR5.out.below hbU)
  have HQu := Lib.hid (HQ5.out.below hbU)
  have hsU := hbU.size
  have hs5 := HB5.out.size
  have hsw := HP1.out.sz
  clear hU hbU frr HPw HP1 HR5 HQ5 HB5
  have HSu := Lib.hid (HS.out.turn (Tn.of_below [] ((HBU.out))) (fun _ _ => by simp))
  have HTu : Hid (Tab U) := Lib.hid (HT.out.below HBU.out HT.out.lt)
  have HAu : Hid (∀ a, A5 = some a → a.block ∉ g.l) := Lib.hid (fun a ha hm => by
    have h7 := HGl.out _ hm
    rcases HO5.out a ha with q | q
    · exact (HA.out a q).2 hm
    · omega)
  have HQu2 : Hid (∀ a, Q5 = some a → a.block ∉ g.l) := Lib.hid (fun a ha hm => by
    have h7 := HGl.out _ hm
    rcases HP5.out a ha with q | q
    · exact (HQ.out a q).2 hm
    · omega)
  obtain ⟨x0, y0⟩ := box_rules (HPu.out).b0
  have l0 := box_lt (HPu.out).b0
  obtain ⟨x1, y1⟩ := box_rules (HPu.out).b1
  have l1 := box_lt (HPu.out).b1
  obtain ⟨x2, y2⟩ := box_rules (HPu.out).b2
  have l2 := box_lt (HPu.out).b2
  obtain ⟨x8, y8⟩ := box_rules HU.out
  have l8 := box_lt HU.out
  go_region_with ((go_at_call 13; (with_reducible refine (fA.out _ HSu.out.drew1 (TabD HTu.out)).mono ?_); rintro e w8 ⟨rfl, hs8, ht8⟩; have HS8 := Lib.hid hs8; have HT8 := Lib.hid ht8; clear hs8 ht8; have HPb := Lib.hid (HPu.out.tn ((Tn.refl g.l U).drew.trans HT8.out) HGl.out); have HU8 := Lib.hid (((Tn.refl g.l U).drew.trans HT8.out).box HU.out (fun hm => by have := HGl.out _ hm; omega)); clear x0 y0 l0 x1 y1 l1 x2 y2 l2 x8 y8 l8; obtain ⟨x0, y0⟩ := box_rules HPb.out.1; obtain ⟨x1, y1⟩ := box_rules HPb.out.2.1; obtain ⟨x2, y2⟩ := box_rules HPb.out.2.2; have l2 := box_lt HPb.out.2.2; obtain ⟨x8, y8⟩ := box_rules HU8.out; have l8 := box_lt HU8.out))
  all_goals
    go_wp2
    refine name_post fun V4 hV4 => ?_
    obtain ⟨hE4, hT4⟩ := set9 HPb.out.2.2 (.int .i64 n2) (.int .i64 (room : Int)) (.slice A5 L2.length c5) (.slice Q5 P2.length d5) (.int .i64 mn) (.int .i64 mx) (.bool a2) (.int .i64 g2) (.int .i64 k2)
    first
      | (rw [← hV4] at hE4 hT4)
      | (have hE4 := bdrw hE4; have hT4 := hT4.drew; rw [← hV4] at hE4 hT4)
    obtain ⟨vx, vy⟩ := box_rules hE4
    clear hV4
    refine bodyPost_ret (v := .tuple #[.agg #[.int .i64 n2, .int .i64 (room : Int), .slice A5 L2.length c5, .slice Q5 P2.length d5, .int .i64 mn, .int .i64 mx, .bool a2, .int .i64 g2, .int .i64 k2], .bool true]) (by simp [results, Tryz.f7, go_sem, vx]) rfl ?_
    exact pl_end (s2 := ⟨L2, P2, n2, a2, g2, k2⟩) HGl.out HBU.out ((Below.refl _ _).drew) HT8.out hT4 (by have h7 := HS8.out; rw [← HNw.out] at h7; exact h7) HRu.out HQu.out HO5.out HP5.out HAu.out HQu2.out HA.out HQ.out hsw hsU
set_option maxHeartbeats 16000000 in
set_option maxRecDepth 100000 in
theorem plays_2 (g : SvF) (room : Nat) (mn mx : Int) (s : Sst) (tn : Nat) (A : Option Addr) (c : Nat) (Q : Option Addr) (d : Nat) (id at1 e2 : Int) (w : World) (h : PlIn w g room mn mx s tn A Q) (hid : I64N id) :
    Calls Tryz.prog 7 #[.pointer (some ⟨g.ps, 0, none⟩), rsS room mn mx s A c Q d, .agg #[.int .i64 2, .int .i64 id, .int .i64 at1, .int .i64 e2]] w (RetPl g room mn mx (stopS mn mx s id) (tn) A Q w) := by
  have HS := Lib.hid h.sv; have HRa := Lib.hid h.ra; have HRq := Lib.hid h.rq; have HA := Lib.hid h.ha; have HQ := Lib.hid h.hq; have HT := Lib.hid h.tab; have HTg := Lib.hid h.tg; have HOk := Lib.hid h.ok; have HJ := Lib.hid h.jb; have HBd := Lib.hid h.bd; have HRm := Lib.hid h.rm; have HTn := Lib.hid h.tn
  have HGl : Hid (∀ k ∈ g.l, k < w.heap.size) := Lib.hid h.sv.lt
  have h0 := h.jb.now0
  have h1 := h.jb.now1
  have HId := Lib.hid hid
  skip
  have fR := Lib.hid (fun X (hX : Rd X A (s.L.flatMap duc)) (hY : Rd X Q (s.P.flatMap pec)) (hA : ∀ a, A = some a → a.block < X.heap.size) (hQ : ∀ a, Q = some a → a.block < X.heap.size) => rsstop_any room mn mx s id A c Q d X HBd.out.1 HBd.out.2.1 HJ.out (by have h7 := canL_le s.L id; have h8 := HBd.out.1; omega) (HBd.out.2.2.can id) HOk.out hX hY hA hQ)
  rw [rs_stop] at fR
  have fA := Lib.hid (fun X (hX : SvS X g room mn mx s.now s tn) (hTX : Tab X) => sstop_any g room mn mx s id tn X hX HJ.out.pi HId.out HOk.out h0 h1 hTX HTg.out)
  have hnw := stop_now' mn mx s id
  obtain ⟨s2, hs2⟩ : ∃ s2, stopS mn mx s id = s2 := ⟨_, rfl⟩
  rw [hs2] at fR fA hnw
  rw [hs2]
  clear hs2
  obtain ⟨cc, hcc⟩ : ∃ cc, canC s.L id = cc := ⟨_, rfl⟩
  rw [hcc] at fR fA
  clear hcc h hid
  obtain ⟨L, P, now, ar, goal, wk⟩ := s
  obtain ⟨L2, P2, n2, a2, g2, k2⟩ := s2
  unfold rsS at fR ⊢
  unfold RetRs RetRv at fR
  unfold rsv at fR ⊢
  dsimp only at *
  have HNw := Lib.hid hnw
  clear hnw
  go_enter Tryz.func7, Tryz.ntmps7
  go_upto_region 1 with fail
  refine name_world fun V hV => ?_
  have HP0 : Hid (PlV w V #[.int .i64 now, .int .i64 (room : Int), .slice A L.length c, .slice Q P.length d, .int .i64 mn, .int .i64 mx, .bool ar, .int .i64 goal, .int .i64 wk] #[.int .i64 2, .int .i64 id, .int .i64 at1, .int .i64 e2]) := Lib.hid (by rw [hV]; exact PlV.mk0 ..)
  clear hV
  obtain ⟨x0, y0⟩ := box_rules (HP0.out).b0
  have l0 := box_lt (HP0.out).b0
  obtain ⟨x1, y1⟩ := box_rules (HP0.out).b1
  have l1 := box_lt (HP0.out).b1
  obtain ⟨x2, y2⟩ := box_rules (HP0.out).b2
  have l2 := box_lt (HP0.out).b2
  go_upto_region 3 with fail
  have HP1 := HP0
  have HB1 := HP1.out.bel
  have hlow := HB1.size
  have frr := Lib.hid (fR.out V (HRa.out.below HB1) (HRq.out.below HB1) (fun a ha => Nat.lt_of_lt_of_le (HA.out a ha).1 hlow) (fun a ha => Nat.lt_of_lt_of_le (HQ.out a ha).1 hlow))
  clear fR HB1 hlow
  go_upto_region 14 with (go_at_call 24; (with_reducible refine frr.out.mono ?_); rintro e w5 ⟨A5, c5, Q5, d5, rfl, hr5, hq5, ho5, hp5, hb5⟩; have HR5 := Lib.hid hr5; have HQ5 := Lib.hid hq5; have HO5 := Lib.hid ho5; have HP5 := Lib.hid hp5; have HB5 := Lib.hid hb5; have HPw := Lib.hid (HP1.out.below hb5); clear hr5 hq5 ho5 hp5 hb5 x0 y0 l0 x1 y1 l1 x2 y2 l2)
  refine name_world fun U hU => ?_
  have hbU : Below w5.heap.size w5 U := by
    rw [hU]; first | exact (Below.refl _ _).alloc (Nat.le_refl _) _ | exact (((Tn.refl [] w5).alloc _).new (set9 (heap_alloc_new _ _) _ _ _ _ _ _ _ _ _).2 (fun b hb => by simp at hb; omega)).base (Below.refl _ _) (fun b hb => by cases hb) (Nat.le_refl _)
  have HU : Hid (U.heap[w5.heap.size]? = some (.cells #[.int .i64 n2, .int .i64 (room : Int), .slice A5 L2.length c5, .slice Q5 P2.length d5, .int .i64 mn, .int .i64 mx, .bool a2, .int .i64 g2, .int .i64 k2] 37 (0, 0))) := Lib.hid (by
    rw [hU]; first | exact heap_alloc_new _ _ | exact (set9 (heap_alloc_new _ _) _ _ _ _ _ _ _ _ _).1)
  have HPu := Lib.hid (HPw.out.below hbU)
  have HBU := Lib.hid (HPu.out.bel)
  have HB5u := Lib.hid (HB5.out.trans (hbU.mono HB5.out.size))
  have HRu := Lib.hid (HR5.out.below hbU)
  have HQu := Lib.hid (HQ5.out.below hbU)
  have hsU := hbU.size
  have hs5 := HB5.out.size
  have hsw := HP1.out.sz
  clear hU hbU frr HPw HP1 HR5 HQ5 HB5
  have HSu := Lib.hid (HS.out.turn (Tn.of_below [] ((HBU.out))) (fun _ _ => by simp))
  have HTu : Hid (Tab U) := Lib.hid (HT.out.below HBU.out HT.out.lt)
  have HAu : Hid (∀ a, A5 = some a → a.block ∉ g.l) := Lib.hid (fun a ha hm => by
    have h7 := HGl.out _ hm
    rcases HO5.out a ha with q | q
    · exact (HA.out a q).2 hm
    · omega)
  have HQu2 : Hid (∀ a, Q5 = some a → a.block ∉ g.l) := Lib.hid (fun a ha hm => by
    have h7 := HGl.out _ hm
    rcases HP5.out a ha with q | q
    · exact (HQ.out a q).2 hm
    · omega)
  obtain ⟨x0, y0⟩ := box_rules (HPu.out).b0
  have l0 := box_lt (HPu.out).b0
  obtain ⟨x1, y1⟩ := box_rules (HPu.out).b1
  have l1 := box_lt (HPu.out).b1
  obtain ⟨x2, y2⟩ := box_rules (HPu.out).b2
  have l2 := box_lt (HPu.out).b2
  obtain ⟨x8, y8⟩ := box_rules HU.out
  have l8 := box_lt HU.out
  go_region_with ((go_at_call 14; (with_reducible refine (fA.out _ HSu.out.drew1 (TabD HTu.out)).mono ?_); rintro e w8 ⟨rfl, hs8, ht8⟩; have HS8 := Lib.hid hs8; have HT8 := Lib.hid ht8; clear hs8 ht8; have HPb := Lib.hid (HPu.out.tn ((Tn.refl g.l U).drew.trans HT8.out) HGl.out); have HU8 := Lib.hid (((Tn.refl g.l U).drew.trans HT8.out).box HU.out (fun hm => by have := HGl.out _ hm; omega)); clear x0 y0 l0 x1 y1 l1 x2 y2 l2 x8 y8 l8; obtain ⟨x0, y0⟩ := box_rules HPb.out.1; obtain ⟨x1, y1⟩ := box_rules HPb.out.2.1; obtain ⟨x2, y2⟩ := box_rules HPb.out.2.2; have l2 := box_lt HPb.out.2.2; obtain ⟨x8, y8⟩ := box_rules HU8.out; have l8 := box_lt HU8.out))
  all_goals
    go_wp2
    refine name_post fun V4 hV4 => ?_
    obtain ⟨hE4, hT4⟩ := set9 HPb.out.2.2 (.int .i64 n2) (.int .i64 (room : Int)) (.slice A5 L2.length c5) (.slice Q5 P2.length d5) (.int .i64 mn) (.int .i64 mx) (.bool a2) (.int .i64 g2) (.int .i64 k2)
    first
      | (rw [← hV4] at hE4 hT4)
      | (have hE4 := bdrw hE4; have hT4 := hT4.drew; rw [← hV4] at hE4 hT4)
    obtain ⟨vx, vy⟩ := box_rules hE4
    clear hV4
    refine bodyPost_ret (v := .tuple #[.agg #[.int .i64 n2, .int .i64 (room : Int), .slice A5 L2.length c5, .slice Q5 P2.length d5, .int .i64 mn, .int .i64 mx, .bool a2, .int .i64 g2, .int .i64 k2], .bool true]) (by simp [results, Tryz.f7, go_sem, vx]) rfl ?_
    exact pl_end (s2 := ⟨L2, P2, n2, a2, g2, k2⟩) HGl.out HBU.out ((Below.refl _ _).drew) HT8.out hT4 (by have h7 := HS8.out; rw [← HNw.out] at h7; exact h7) HRu.out HQu.out HO5.out HP5.out HAu.out HQu2.out HA.out HQ.out hsw hsU
end Go.Proofs.YtiblpnadninmbaaGreatDoor

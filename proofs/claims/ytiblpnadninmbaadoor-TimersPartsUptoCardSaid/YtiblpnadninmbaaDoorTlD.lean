/- Package vergelaw09: the walk of TimersParts. Conditions: a list that reads, the de Bruijn table. -/
import Derived.Test.YtiblpnadninmbaaDoorTlR
namespace Go.Proofs.YtiblpnadninmbaaDoor
open Go.RowKit Go.Shelf
attribute [local go_sem] Oper.semAt_some
theorem fic_len (l : List Fi) : (l.flatMap fic).length = l.length * 3 := by
  induction l with
  | nil => rfl
  | cons x l ih => rw [List.flatMap_cons, List.length_append, ih, List.length_cons]; show 3 + _ = _; omega
theorem fic_one (l : List Fi) : ∀ u ∈ l.flatMap fic, u.oneCell' = true := fun u hu => by
  obtain ⟨x, _, hx⟩ := List.mem_flatMap.1 hu
  simp [fic] at hx
  rcases hx with rfl | rfl | rfl <;> rfl
set_option maxHeartbeats 16000000 in
set_option maxRecDepth 100000 in
theorem timersParts_any (now room : Int) (l : List At) (A0 : Option Addr) (c0 : Nat) (a b : Int) (w : World) (hr : Rd w A0 (l.flatMap atc)) (hid : ∀ x ∈ l, I64N x.id) (hT : Tab w) :
    Calls Tryd.prog 5 #[.int .i64 now, .int .i64 room, .slice A0 l.length c0, .int .i64 a, .int .i64 b] w fun e w' => e = .returned (.bool true) ∧ Below w.heap.size w w' := by
  have HR := Lib.hid hr; have HI := Lib.hid hid; have HT := Lib.hid hT
  have Hlt := Lib.hid hT.lt
  have f1 := Lib.hid (lives09_any w hT)
  by_cases hg : 0 ≤ now ∧ now ≤ 4503599627370496 ∧ 1 ≤ room ∧ room ≤ 4096
  · obtain ⟨h0, h1, h2, h3⟩ := hg
    obtain ⟨r, rfl⟩ : ∃ r : Nat, room = r := ⟨room.toNat, by omega⟩
    have f2 := Lib.hid (fun X => tnew_ok now r X h0 h1 (by omega) (by omega))
    unfold RetTms at f2
    have hrm : r ≤ 4096 := by omega
    clear hr hid hT h0 h1 h2 h3
    go_enter Tryd.func5, Tryd.ntmps5
    go_upto_region 3 with (go_at_call 11; (with_reducible refine f1.out.mono ?_); rintro e w1 ⟨rfl, hb1⟩; have HB1 := Lib.hid hb1; clear hb1)
    go_upto_region 4 with (go_at_call 12; (with_reducible refine (f2.out w1).mono ?_); rintro e w2 ⟨g, rfl, hf, hw2, hb2⟩; have HF := Lib.hid hf; have HW2 := Lib.hid hw2; have HB2 := Lib.hid (HB1.out.trans (hb2.mono HB1.out.size)); clear hf hw2 hb2)
    go_upto_region 5 with (go_at_call 12; (with_reducible refine (f2.out w2).mono ?_); rintro e w3 ⟨h, rfl, hf, hw3, hb3⟩; have HFf := Lib.hid hf; have HH3 := Lib.hid hw3; have HG3 := Lib.hid (HW2.out.below hb3); have HB3 := Lib.hid (HB2.out.trans (hb3.mono HB2.out.size)); have HS3 := Lib.hid hb3.size; clear hf hw3 hb3)
    have HFg : Hid (∀ b ∈ g.l, w.heap.size ≤ b ∧ b < w3.heap.size) := Lib.hid (fun b hb => ⟨Nat.le_trans HB1.out.size (HF.out b hb), HG3.out.lt b hb⟩)
    have HFh : Hid (∀ b ∈ h.l, w.heap.size ≤ b ∧ b < w3.heap.size) := Lib.hid (fun b hb => ⟨Nat.le_trans HB2.out.size (HFf.out b hb), HH3.out.lt b hb⟩)
    have HAp : Hid (∀ b ∈ h.l, b ∉ g.l) := Lib.hid (fun b hb hm => by have h8 := HFf.out b hb; have h9 := HW2.out.lt b hm; omega)
    clear HF HFf HW2 HB1 HB2 HS3 f1 f2
    by_cases c1 : l.length ≤ 20
    · by_cases c2 : now ≤ a
      · by_cases c3 : a ≤ b
        · by_cases c4 : b ≤ 4503599627370496
          · go_wp2
            go_loopw [79] (fun i wr => ∃ (k : Nat) (L : List Du) (P : List Pe), i = .int .i64 k ∧ k ≤ l.length ∧ Hid (Tms wr g r now L P k) ∧ Hid (Tms wr h r now L P k) ∧ Hid (PI L P) ∧ Hid (Below w.heap.size w wr)) (fun i _ => l.length - (intOf i).toNat)
            case atStart => exact ⟨0, [], [], rfl, by omega, HG3, HH3, Lib.hid (PI.zero _), HB3⟩
            case round =>
              obtain ⟨k, L, P, rfl, hk, HGj, HHj, HPj, HBj⟩ := hrel
              by_cases hlt : k < l.length
              · obtain ⟨a0, x, rfl, hx, g0, g1, g2, g3⟩ := (HR.out.below HBj.out).atAt hlt
                have HId : Hid (I64N x.id) := Lib.hid (HI.out x (by rw [← hx, getD_lt hlt]; exact List.getElem_mem _))
                obtain ⟨kd, id, at1, e2⟩ := x
                dsimp only at *
                clear hx
                go_upto_region 10 with fail
                refine name_world fun U hU => ?_
                have hbU : Below wr.heap.size wr U := by rw [hU]; exact (Below.refl _ _).alloc (Nat.le_refl _) _
                have HXu : Hid (U.heap[wr.heap.size]? = some (.cells #[.int .i64 kd, .int .i64 id, .int .i64 at1, .int .i64 e2] 37 (0, 0))) := Lib.hid (by rw [hU]; exact heap_alloc_new _ _)
                have HGu := Lib.hid (HGj.out.below hbU)
                have HHu := Lib.hid (HHj.out.below hbU)
                have HBu := Lib.hid (HBj.out.trans (hbU.mono HBj.out.size))
                have hbg : wr.heap.size ∉ g.l := fun hm => by have := HGj.out.lt _ hm; omega
                clear hU hbU g0 g1 g2 g3 HGj HHj HBj
                generalize wr.heap.size = b16 at *
                obtain ⟨xx, xy⟩ := box_rules HXu.out
                have lx := box_lt HXu.out
                go_cut [16, 106] (fun s v wx => s = .pointer (some ⟨b16, 0, none⟩) ∧ ∃ bb, v = .bool bb ∧ U = wx)
                case first =>
                  by_cases p1 : 0 < e2
                  · have p1' : (e2 == 0) = false := beq_eq_false_iff_ne.2 (by omega)
                    by_cases p2 : at1 ≤ b
                    · by_cases p3 : 0 ≤ at1
                      · go_wp2
                        go_meet
                        exact ⟨rfl, _, rfl, rfl⟩
                      · go_wp2
                        go_meet
                        exact ⟨rfl, _, rfl, rfl⟩
                    · go_wp2
                      go_meet
                      exact ⟨rfl, _, rfl, rfl⟩
                  · go_wp2
                    go_meet
                    exact ⟨rfl, _, rfl, rfl⟩
                case rest =>
                obtain ⟨rfl, bb, rfl, rfl⟩ := hcut
                go_upto_if 106 with fail
                cases bb
                · by_cases hod : kd.tmod 2 = 1
                  · have hod' : (kd.tmod 2 == 1) = true := beq_iff_eq.2 hod
                    have fg := Lib.hid (fun X (hX : Tms X g r now L P k) => tevery_any g r now L P k X id at1 e2 hX HPj.out HId.out (by omega))
                    have fh := Lib.hid (fun X (hX : Tms X h r now L P k) => tevery_any h r now L P k X id at1 e2 hX HPj.out HId.out (by omega))
                    have HPn := Lib.hid (HPj.out.everyR r id at1 e2)
                    generalize everyC r L id at1 e2 = cc at *
                    generalize everyL r L id at1 e2 = LN at *
                    generalize everyP r L P id at1 e2 = PN at *
                    go_upto_region 14 with (go_at_call 18; (with_reducible refine (fg.out _ HGu.out).mono ?_); rintro e w5 ⟨rfl, hw5, ht5⟩; have HG5 := Lib.hid hw5; have HH5 := Lib.hid (HHu.out.turn ht5 (fun b hb => HAp.out b hb)); have HX5 := Lib.hid (ht5.box HXu.out hbg); have HT5 := Lib.hid ht5; clear hw5 ht5)
                    clear xx xy lx
                    obtain ⟨xx, xy⟩ := box_rules HX5.out
                    have lx := box_lt HX5.out
                    go_wp2_with (go_at_call 18; (with_reducible refine (fh.out _ HH5.out).mono ?_); rintro e w6 ⟨rfl, hw6, ht6⟩; have HH6 := Lib.hid hw6; have HG6 := Lib.hid (HG5.out.turn ht6 (fun b hb hm => HAp.out b hm hb)); have HT6 := Lib.hid ht6; clear hw6 ht6)
                    go_roundw
                    case rel => exact ⟨k + 1, LN, PN, by go_num, by omega, HG6, HH6, HPn, Lib.hid ((HT5.out.base HBu.out (fun b hb => (HFg.out b hb).1) HBu.out.size).trans (HT6.out.toBelow (fun b hb => (HFh.out b hb).1) (Nat.le_trans HBu.out.size HT5.out.size)))⟩
                    case measure => simp [intOf]; omega
                  · have hod' : (kd.tmod 2 == 1) = false := beq_eq_false_iff_ne.2 hod
                    have fg := Lib.hid (fun X (hX : Tms X g r now L P k) => tstart_any g r now L P k X id at1 hX HId.out (by omega))
                    have fh := Lib.hid (fun X (hX : Tms X h r now L P k) => tstart_any h r now L P k X id at1 hX HId.out (by omega))
                    have HPn := Lib.hid (HPj.out.ins r id at1)
                    generalize insC r L id at1 = cc at *
                    generalize insL r L id at1 = LN at *
                    obtain ⟨PN, hPN⟩ : ∃ PN, PN = P := ⟨_, rfl⟩
                    rw [← hPN] at fg fh HPn HGu HHu
                    clear hPN
                    go_upto_region 16 with (go_at_call 16; (with_reducible refine (fg.out _ HGu.out).mono ?_); rintro e w5 ⟨rfl, hw5, ht5⟩; have HG5 := Lib.hid hw5; have HH5 := Lib.hid (HHu.out.turn ht5 (fun b hb => HAp.out b hb)); have HX5 := Lib.hid (ht5.box HXu.out hbg); have HT5 := Lib.hid ht5; clear hw5 ht5)
                    clear xx xy lx
                    obtain ⟨xx, xy⟩ := box_rules HX5.out
                    have lx := box_lt HX5.out
                    go_wp2_with (go_at_call 16; (with_reducible refine (fh.out _ HH5.out).mono ?_); rintro e w6 ⟨rfl, hw6, ht6⟩; have HH6 := Lib.hid hw6; have HG6 := Lib.hid (HG5.out.turn ht6 (fun b hb hm => HAp.out b hm hb)); have HT6 := Lib.hid ht6; clear hw6 ht6)
                    go_roundw
                    case rel => exact ⟨k + 1, LN, PN, by go_num, by omega, HG6, HH6, HPn, Lib.hid ((HT5.out.base HBu.out (fun b hb => (HFg.out b hb).1) HBu.out.size).trans (HT6.out.toBelow (fun b hb => (HFh.out b hb).1) (Nat.le_trans HBu.out.size HT5.out.size)))⟩
                    case measure => simp [intOf]; omega
                · go_wp2
                  go_ret
                  exact ⟨rfl, HBu.out⟩
              · obtain rfl : k = l.length := by omega
                have hgt : 0 ∉ g.f.l := fun hm => by have := (HFg.out _ (show 0 ∈ g.l by simp [TmF.l, hm])).1; have := Hlt.out; omega
                have hht : 0 ∉ h.f.l := fun hm => by have := (HFh.out _ (show 0 ∈ h.l by simp [TmF.l, hm])).1; have := Hlt.out; omega
                obtain ⟨M, LM, PM, N, LN, PN, K, LK, PK, hpt, m1, m2, m3, r1, r2, r3⟩ := parts_runs g h r now L P l.length a b hgt hht (by omega) c2 c3 c4 HPj.out HGj.out.whl.at0
                unfold RunOk at r1 r2 r3
                have f1 := Lib.hid r1; have f2 := Lib.hid r2; have f3 := Lib.hid r3
                have HPl := Lib.hid hpt.len; have HPa := Lib.hid hpt.at'; have HPo := Lib.hid hpt.lo
                have HTj : Hid (Tab wr) := Lib.hid (HT.out.below HBj.out Hlt.out)
                have HGs : Hid (∀ b ∈ g.l, b < wr.heap.size) := Lib.hid HGj.out.lt
                have HHs : Hid (∀ b ∈ h.l, b < wr.heap.size) := Lib.hid HHj.out.lt
                clear hgt hht hpt r1 r2 r3 HPj hk hlt
                go_upto_region 19 with (go_at_call 23; (with_reducible refine (f1.out _ HGj.out HTj.out).mono ?_); rintro e w5 ⟨A5, c5, rfl, hr5, ha5, hw5, ht5⟩; have HM5 := Lib.hid hr5; have HA5 := Lib.hid ha5; have HG5 := Lib.hid hw5; have HH5 := Lib.hid (HHj.out.turn ht5 (fun b hb => HAp.out b hb)); have HB5 := Lib.hid (ht5.base HBj.out (fun b hb => (HFg.out b hb).1) HBj.out.size); have hs5 := ht5.size; clear hr5 ha5 hw5 ht5)
                have HT5 : Hid (Tab w5) := Lib.hid (HT.out.below HB5.out Hlt.out)
                go_upto_region 20 with (go_at_call 23; (with_reducible refine (f2.out _ HG5.out HT5.out).mono ?_); rintro e w6 ⟨A6, c6, rfl, hr6, ha6, hw6, ht6⟩; have HN6 := Lib.hid hr6; have HA6 := Lib.hid ha6; have HG6 := Lib.hid hw6; have HH6 := Lib.hid (HH5.out.turn ht6 (fun b hb => HAp.out b hb)); have HB6 := Lib.hid (ht6.base HB5.out (fun b hb => (HFg.out b hb).1) HB5.out.size); have HM6 := Lib.hid (HM5.out.tn ht6 (fun a ha hm => by have := HA5.out a ha; have := HGs.out _ hm; omega)); have hs6 := ht6.size; clear hr6 ha6 hw6 ht6)
                have HT6 : Hid (Tab w6) := Lib.hid (HT.out.below HB6.out Hlt.out)
                go_upto_region 21 with (go_at_call 23; (with_reducible refine (f3.out _ HH6.out HT6.out).mono ?_); rintro e w7 ⟨A7, c7, rfl, hr7, ha7, hw7, ht7⟩; have HK7 := Lib.hid hr7; have HH7 := Lib.hid hw7; have HG7 := Lib.hid (HG6.out.turn ht7 (fun b hb hm => HAp.out b hm hb)); have HB7 := Lib.hid (ht7.base HB6.out (fun b hb => (HFh.out b hb).1) HB6.out.size); have HM7 := Lib.hid (HM6.out.tn ht7 (fun a ha hm => by have := HA5.out a ha; have := HHs.out _ hm; omega)); have HN7 := Lib.hid (HN6.out.tn ht7 (fun a ha hm => by have := HA6.out a ha; have := HHs.out _ hm; omega)); clear hr7 ha7 hw7 ht7)
                have fL := Lib.hid (fun q => whl_len g.f r b LN _ _ (HG7.out.drewN q).whl)
                have fK := Lib.hid (fun q => whl_len h.f r b LK _ _ (HH7.out.drewN q).whl)
                obtain ⟨xx, xy⟩ := box_rules HG7.out.box
                have lx := box_lt HG7.out.box
                obtain ⟨zx, zy⟩ := box_rules HH7.out.box
                have lz := box_lt HH7.out.box
                by_cases hK : K.length < 1024
                · obtain ⟨l1, l2⟩ := HPl.out hK
                  rw [l2] at fL
                  have e1 : decide ((1024 : Int) ≤ (K.length : Int)) = false := decide_eq_false (by omega)
                  have e2 : IntKind.i64.wrap ((M.length : Int) + (N.length : Int)) = (K.length : Int) := by rw [show (M.length : Int) + (N.length : Int) = (K.length : Int) by omega]; exact IntWalk.i64_in _ (by omega)
                  have e3 : ¬ (1024 : Int) ≤ (K.length : Int) := by omega
                  go_big_quiet (first
                    | (go_at_call 29; (with_reducible exact (fL.out _).mono fun _ _ ⟨a, b⟩ => ⟨a, _, b.symm⟩))
                    | (go_at_call 29; (with_reducible exact (fK.out _).mono fun _ _ ⟨a, b⟩ => ⟨a, _, b.symm⟩)))
                  go_upto_region 23 with fail
                  refine name_world fun W hW => ?_
                  have hTW : Tn [] w7 W := by rw [hW]; exact (Tn.refl _ _).drewN _
                  have HM8 := Lib.hid (HM7.out.tn hTW (fun _ _ => by simp))
                  have HN8 := Lib.hid (HN7.out.tn hTW (fun _ _ => by simp))
                  have HK8 := Lib.hid (HK7.out.tn hTW (fun _ _ => by simp))
                  have HB8 : Hid (Below w.heap.size w W) := Lib.hid (hTW.base HB7.out (fun b hb => by cases hb) HB7.out.size)
                  clear hW hTW xx xy lx zx zy lz fL fK HM7 HN7 HK7 HB7 HG7 HH7 HG6 HH6 HB6 HM6 HN6 HG5 HH5 HB5 HM5 HT5 HT6 f1 f2 f3
                  have HE := Lib.hid (own_emptyK W 66 (k := 3) (Nat.le_refl _))
                  go_upto_region 24 with (at_builtin; (first
                    | (go_loud (refine wp_appNK rfl _ _ skc_fi (by decide) rfl HE.out rfl (by simp) A5 M.length c5 _ rfl (fic_len M) (HM8.out.below ((Below.refl _ _).alloc (Nat.le_refl _) _)) (fic_one M) (by omega) ?_); intro A8 c8 v1 ho hb; rw [Nat.zero_add, List.nil_append] at ho; have HO1 := Lib.hid ho; have HV1 := Lib.hid (((Below.refl W.heap.size W).alloc (Nat.le_refl _) _).trans hb); clear ho hb)
                    | (go_loud (refine wp_appNK rfl _ _ skc_fi (by decide) rfl HO1.out rfl HV1.out.size A6 N.length c6 _ rfl (fic_len N) (HN8.out.below HV1.out) (fic_one N) (by omega) ?_); intro A9 c9 w9 ho hb; have HO2 := Lib.hid ho; have HV2 := Lib.hid (HV1.out.trans hb); clear ho hb)))
                  obtain ⟨MN, hMN⟩ : ∃ MN, M ++ N = MN := ⟨_, rfl⟩
                  have HMN : Hid ((M ++ N).flatMap fic = M.flatMap fic ++ N.flatMap fic) := Lib.hid (by rw [List.flatMap_append])
                  have hml : M.length + N.length = MN.length := by rw [← hMN, List.length_append]
                  rw [hMN] at HPa HPo HMN
                  have HRx : Hid (Rd w9 A9 (MN.flatMap fic)) := Lib.hid (by rw [HMN.out]; exact own_rdK HO2.out)
                  have HKx := Lib.hid (HK8.out.below HV2.out)
                  have HBx := Lib.hid (HB8.out.trans (HV2.out.mono HB8.out.size))
                  rw [hml] at HPa HPo
                  have hmk : MN.length = K.length := by omega
                  rw [hmk] at HPa HPo
                  have Hmk := Lib.hid hmk
                  clear hMN hml HO1 HO2 HE HM8 HN8 HK8 HMN l1 l2 e1 e2 e3 hmk
                  go_loopw [217] (fun i wr => ∃ k : Nat, i = .int .i64 k ∧ k ≤ K.length ∧ Hid (Below w9.heap.size w9 wr)) (fun i _ => K.length - (intOf i).toNat)
                  case atStart => exact ⟨0, rfl, by omega, Lib.hid (Below.refl _ _)⟩
                  case round =>
                    obtain ⟨k, rfl, hk, HBk⟩ := hrel
                    by_cases hlt : k < K.length
                    · obtain ⟨a0, x, rfl, hx, g0, g1, g2⟩ := (HRx.out.below HBk.out).fiAt (by rw [Hmk.out]; exact hlt)
                      obtain ⟨b0, y, rfl, hy, y0, y1, y2⟩ := (HKx.out.below HBk.out).fiAt hlt
                      obtain ⟨p1, p2, p3⟩ := HPa.out hK k hlt
                      have p0 := HPo.out k hlt
                      rw [hx] at p0 p1 p2 p3
                      rw [hy] at p1
                      obtain ⟨x0, x1, x2⟩ := x
                      obtain ⟨z0, z1, z2⟩ := y
                      dsimp only at *
                      subst p1
                      clear hx hy
                      go_upto_region 26 with fail
                      refine name_world fun V hV => ?_
                      have hbV : Below wr.heap.size wr V := by rw [hV]; exact (Below.refl _ _).alloc (Nat.le_refl _) _
                      have HXv : Hid (V.heap[wr.heap.size]? = some (.cells #[.int .i64 x0, .int .i64 x1, .int .i64 x2] 66 (0, 0))) := Lib.hid (by rw [hV]; exact heap_alloc_new _ _)
                      have HBv := Lib.hid (HBk.out.trans (hbV.mono HBk.out.size))
                      have y1V : V.cell? ⟨(b0.add (k * 3)).block, (b0.add (k * 3)).off + 1, none⟩ = some (.int .i64 x1) := (hbV.cell (World.block_lt_of_cell? wr _ y1)).trans y1
                      clear hV hbV g0 g1 g2 y0 y1 y2 HBk
                      generalize wr.heap.size = b24 at *
                      obtain ⟨xx, xy⟩ := box_rules HXv.out
                      have lx := box_lt HXv.out
                      have q0 : 0 ≤ (k : Int) := by omega
                      have q1 : (k : Int) < (K.length : Int) := by omega
                      by_cases hkm : k < M.length
                      · obtain ⟨p4, p5⟩ := p2 hkm
                        have q2 : (k : Int) < (M.length : Int) := by omega
                        have q3 : ¬ (M.length : Int) ≤ (k : Int) := by omega
                        have q4 : IntKind.i64.wrap (a - x1) = x2 := by rw [p4]; exact IntWalk.i64_in _ (by omega)
                        have q5 : ¬ a < x1 := by omega
                        clear p2 p3
                        go_big_quiet (fail)
                        go_wp2
                        refine ⟨⟨k + 1, by go_num, by omega, Lib.hid ((Tn.refl [] _).drewN _ |>.base HBv.out (fun b hb => by cases hb) HBv.out.size)⟩, ?_⟩
                        simp [intOf]; omega
                      · have p6 := p3 hkm
                        have q2 : ¬ (k : Int) < (M.length : Int) := by omega
                        have q3 : (M.length : Int) ≤ (k : Int) := by omega
                        have q5 : ¬ x1 ≤ a := by omega
                        clear p2 p3
                        go_big_quiet (fail)
                        go_wp2
                        refine ⟨⟨k + 1, by go_num, by omega, Lib.hid ((Tn.refl [] _).drewN _ |>.base HBv.out (fun b hb => by cases hb) HBv.out.size)⟩, ?_⟩
                        simp [intOf]; omega
                    · obtain rfl : k = K.length := by omega
                      go_wp2
                      go_ret
                      exact ⟨rfl, HBx.out.trans (HBk.out.mono HBx.out.size)⟩
                · have e1 : decide ((1024 : Int) ≤ (K.length : Int)) = true := decide_eq_true (by omega)
                  have e3 : (1024 : Int) ≤ (K.length : Int) := by omega
                  go_big_quiet (fail)
                  go_wp2
                  go_ret
                  exact ⟨rfl, (Tn.refl [] _).drewN _ |>.base HB7.out (fun b hb => by cases hb) HB7.out.size⟩
          · go_wp2
            go_ret
            exact ⟨rfl, HB3.out⟩
        · go_wp2
          go_ret
          exact ⟨rfl, HB3.out⟩
      · go_wp2
        go_ret
        exact ⟨rfl, HB3.out⟩
    · have c1' : decide ((20 : Int) < (l.length : Int)) = true := decide_eq_true (by omega)
      go_wp2
      go_ret
      exact ⟨rfl, HB3.out⟩
  · have f2 := Lib.hid (fun X => tnew_bad now room X hg)
    clear hr hid hT hg
    go_enter Tryd.func5, Tryd.ntmps5
    go_upto_region 3 with (go_at_call 11; (with_reducible refine f1.out.mono ?_); rintro e w1 ⟨rfl, hb1⟩; have HB1 := Lib.hid hb1; clear hb1)
    go_wp2_with (go_at_call 12; (with_reducible refine (f2.out w1).mono ?_); rintro e w2 ⟨rfl, rfl⟩)
    go_ret
    exact ⟨rfl, HB1.out⟩
end Go.Proofs.YtiblpnadninmbaaDoor

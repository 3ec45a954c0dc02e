/- Package vergeref10: the walk of Advance. Conditions: lists that read, times that may be. -/
import Derived.Test.YtiblpnadninmbaaGreatDoorTyX1
import Derived.Test.YtiblpnadninmbaaGreatDoorTkX4zY
import Derived.StillTailTactics
import Derived.BigRegion
namespace Go.Proofs.YtiblpnadninmbaaGreatDoor
open Go.RowKit Go.Shelf
attribute [local go_sem] Oper.semAt_some

theorem rrun_ok (now : Int) (room : Nat) (T : Int) (L : List Du) (A : Option Addr) (c : Nat) (P : List Pe) (Q : Option Addr) (d : Nat) (w : World) (hrm : room ≤ 4096) (hL : L.length ≤ 4096) (hP : P.length ≤ 1048575) (hat : AtOk L) (hI : PI L P) (hr : Rd w A (L.flatMap duc)) (hq : Rd w Q (P.flatMap pec)) (hA : ∀ a, A = some a → a.block < w.heap.size) (hQ : ∀ a, Q = some a → a.block < w.heap.size)
    (hc : (0 ≤ T ∧ T ≤ 4503599627370496) ∧ now ≤ T) :
    Calls Tryz.prog 42 #[rtv now room A L.length c Q P.length d, .int .i64 T] w (RrOk (runT room T 1024 L P) T room A Q w) := by
  have h8 := rrun_any now room T L A c P Q d w hrm hL hP hat hI.long hr hq hA hQ
  unfold RetRr at h8
  simp only [if_pos hc] at h8
  exact h8
theorem bdrw {w : World} {b : Nat} {o : Obj} (h : w.heap[b]? = some o) : w.drew.heap[b]? = some o := h
set_option maxHeartbeats 16000000 in
set_option maxRecDepth 100000 in
theorem rsadv_ok (room : Nat) (mn mx : Int) (s : Sst) (A : Option Addr) (c : Nat) (Q : Option Addr) (d : Nat) (k0 : Int) (w : World) (hB : JB s) (hBd : Bd s) (hok : TmOk mn mx) (hrm : room ≤ 4096) (hk : 0 ≤ k0) (hf : s.now + k0 ≤ 4503599627370496)
    (hr : Rd w A (s.L.flatMap duc)) (hq : Rd w Q (s.P.flatMap pec)) (hA : ∀ a, A = some a → a.block < w.heap.size) (hQ : ∀ a, Q = some a → a.block < w.heap.size) :
    Calls Tryz.prog 25 #[rsS room mn mx s A c Q d, .int .i64 k0] w (RetRa room mn mx s.now (doneS (s.now + k0) (advS room mn mx (s.now + k0) 4096 s []).1) (advS room mn mx (s.now + k0) 4096 s []).2 A Q w) := by
  have HR := Lib.hid hr; have HQ := Lib.hid hq; have HA := Lib.hid hA; have HQl := Lib.hid hQ
  have HJ := Lib.hid hB
  have HBd := Lib.hid hBd
  have HOk := Lib.hid hok
  have hn0 := hB.now0
  have hn1 := hB.now1
  obtain ⟨en, hen⟩ : ∃ en, s.now + k0 = en := ⟨_, rfl⟩
  have hle : s.now ≤ en := by omega
  have he2 : en ≤ 4503599627370496 := by omega
  have HA0 := Lib.hid (AdI.zero room mn mx en s)
  obtain ⟨R, hR⟩ : ∃ R, advS room mn mx en 4096 s [] = R := ⟨_, rfl⟩
  have HSt : Hid (∀ k s' out, AdI room mn mx en s k s' out → ¬ (k < 4096 ∧ goesS en s' out.length = true) → R = (s', out)) := Lib.hid (fun k s' out q1 q2 => hR.symm.trans (q1.stop q2))
  rw [hen, hR]
  have hw1 : wrap64 (s.now + k0) = en := by rw [hen]; exact Go.IntWalk.wrap64_in _ (by omega)
  have hkk : ¬ k0 < 0 := by omega
  have hkf : ¬ 4503599627370496 - s.now < k0 := by omega
  obtain ⟨now0, hnow0⟩ : ∃ now0, s.now = now0 := ⟨_, rfl⟩
  have HN0 := Lib.hid hnow0
  have HI0 : Hid (∀ V, RsS w V s.now room A s.L.length c Q s.P.length d mn mx s.armed s.goal s.wake → RaI w V room mn mx A Q s A c Q d) := Lib.hid (fun V q => ⟨q, hr.below q.bel, hq.below q.bel, fun a ha => .inl ⟨ha, hA a ha⟩, fun a ha => .inl ⟨ha, hQ a ha⟩⟩)
  unfold rsS rsv
  rw [hnow0] at hn0 hn1 hle hw1 hkf hf hen ⊢
  clear hB hBd hok hR hr hq hA hQ hnow0
  obtain ⟨ln, hln⟩ : ∃ ln, s.L.length = ln := ⟨_, rfl⟩
  obtain ⟨pn, hpn⟩ : ∃ pn, s.P.length = pn := ⟨_, rfl⟩
  obtain ⟨ar0, har0⟩ : ∃ z, s.armed = z := ⟨_, rfl⟩
  obtain ⟨go0, hgo0⟩ : ∃ z, s.goal = z := ⟨_, rfl⟩
  obtain ⟨wk0, hwk0⟩ : ∃ z, s.wake = z := ⟨_, rfl⟩
  rw [hln, hpn, har0, hgo0, hwk0, HN0.out] at HI0
  rw [hln, hpn, har0, hgo0, hwk0]
  clear hln hpn har0 hgo0 hwk0
  go_enter Tryz.func25, Tryz.ntmps25
  go_upto_region 1 with fail
  refine name_world fun V hV => ?_
  have HS0 : Hid (RsS w V now0 room A ln c Q pn d mn mx ar0 go0 wk0) := Lib.hid (by rw [hV]; exact RsS.mk0 ..)
  have HR0 := Lib.hid (HI0.out V HS0.out)
  clear hV HI0
  obtain ⟨x0, y0⟩ := box_rules HS0.out.b0
  have l0 := box_lt HS0.out.b0
  go_upto_block 0 with fail
  clear x0 y0 l0
  have HW1 := Lib.hid hw1
  clear hw1 HS0 hen
  go_cut [9] (fun o wx => ∃ (s' : Sst) (out : List Fi) (A' : Option Addr) (c' : Nat) (Q' : Option Addr) (d' : Nat) (B : Option Addr) (cb : Nat), o = .slice B out.length cb ∧ Hid (R = (s', out)) ∧ Hid (JB s') ∧ s'.now ≤ en ∧ now0 ≤ s'.now ∧ Hid (RaI w wx room mn mx A Q s' A' c' Q' d') ∧ Hid (wx.ownsRow (w.heap.size + 2) 57 3 (.slice B out.length cb) out.length (out.flatMap fic)))
  case first =>
    clear hkk hkf hf
    go_wp2_with fail
    go_loopw [9, 10] (fun o i wr => ∃ (k : Nat) (s' : Sst) (out : List Fi) (A' : Option Addr) (c' : Nat) (Q' : Option Addr) (d' : Nat) (B : Option Addr) (cb : Nat), o = .slice B out.length cb ∧ i = .int .i64 k ∧ k ≤ 4096 ∧ Hid (AdI room mn mx en s k s' out) ∧ Hid (JB s' ∧ Bd s') ∧ s'.now ≤ en ∧ now0 ≤ s'.now ∧ Hid (RaI w wr room mn mx A Q s' A' c' Q' d') ∧ Hid (wr.ownsRow (w.heap.size + 2) 57 3 (.slice B out.length cb) out.length (out.flatMap fic)) ∧ Hid (ApR (.slice B out.length cb) A' Q')) (fun _ i _ => 4096 - (intOf i).toNat)
    case atStart => exact ⟨0, s, [], A, c, Q, d, none, 0, rfl, rfl, by omega, HA0, Lib.hid ⟨HJ.out, HBd.out⟩, by rw [HN0.out]; exact hle, by rw [HN0.out]; exact Int.le_refl _, HR0, Lib.hid (own_nilK _ _ _ _), Lib.hid (fun g hg => by cases hg)⟩
    case round =>
      obtain ⟨k, s', out, A', c', Q', d', B, cb, rfl, rfl, hk9, HAj, HJj, hej, hbj, HRj, HOj, HPj⟩ := hrel
      obtain ⟨L', P', now', ar, goal, wk⟩ := s'
      dsimp only at *
      obtain ⟨x0, y0⟩ := box_rules HRj.out.box.b0
      have l0 := box_lt HRj.out.box.b0
      dsimp only at x0
      go_upto_region 8 with fail
      go_cut [44] (fun v wx => ∃ bg, v = .bool bg ∧ Hid (bg = (decide (k < 4096) && goesS en ⟨L', P', now', ar, goal, wk⟩ out.length)) ∧ wr = wx)
      case first =>
        have hw1 := HW1.out
        by_cases q1 : k < 4096
        · have z4 : decide ((k : Int) < 4096) = true := decide_eq_true (by omega)
          have z5 : (k : Int) < 4096 := by omega
          have z6 : decide (k < 4096) = true := decide_eq_true q1
          by_cases q2 : out.length < 1024
          · have z2 : decide (out.length < 1024) = true := decide_eq_true q2
            have z3 : (out.length : Int) < 1024 := by omega
            have z7 : decide ((out.length : Int) < 1024) = true := decide_eq_true z3
            cases ar with
            | false =>
              have HGq : Hid (false = (decide (k < 4096) && goesS en ⟨L', P', now', false, goal, wk⟩ out.length)) := Lib.hid (by unfold goesS; simp)
              go_wp2
              go_meet
              exact ⟨false, rfl, HGq, rfl⟩
            | true =>
              by_cases q3 : wk ≤ en
              · have HGq : Hid (true = (decide (k < 4096) && goesS en ⟨L', P', now', true, goal, wk⟩ out.length)) := Lib.hid (by unfold goesS; simp [q1, q2, q3])
                have z8 : decide (wk ≤ en) = true := decide_eq_true q3
                go_wp2
                go_meet
                exact ⟨true, rfl, HGq, rfl⟩
              · have HGq : Hid (false = (decide (k < 4096) && goesS en ⟨L', P', now', true, goal, wk⟩ out.length)) := Lib.hid (by unfold goesS; simp [q3])
                have z8 : decide (wk ≤ en) = false := decide_eq_false q3
                go_wp2
                go_meet
                exact ⟨false, rfl, HGq, rfl⟩
          · have z2 : decide (out.length < 1024) = false := decide_eq_false q2
            have z3 : ¬ (out.length : Int) < 1024 := by omega
            have z7 : decide ((out.length : Int) < 1024) = false := decide_eq_false z3
            have HGq : Hid (false = (decide (k < 4096) && goesS en ⟨L', P', now', ar, goal, wk⟩ out.length)) := Lib.hid (by unfold goesS; simp [q2])
            go_wp2
            go_meet
            exact ⟨false, rfl, HGq, rfl⟩
        · have HGq : Hid (false = (decide (k < 4096) && goesS en ⟨L', P', now', ar, goal, wk⟩ out.length)) := Lib.hid (by simp [q1])
          have z4 : decide ((k : Int) < 4096) = false := decide_eq_false (by omega)
          have z5 : ¬ (k : Int) < 4096 := by omega
          have z6 : decide (k < 4096) = false := decide_eq_false q1
          go_wp2
          go_meet
          exact ⟨false, rfl, HGq, rfl⟩
      case rest =>
      obtain ⟨bg, rfl, HG, rfl⟩ := hcut
      cases bg with
      | false =>
        go_wp2
        go_meet
        exact ⟨⟨L', P', now', ar, goal, wk⟩, out, A', c', Q', d', B, cb, rfl, Lib.hid (HSt.out k _ _ HAj.out (fun h9 => by have h8 := HG.out; rw [h9.2, decide_eq_true h9.1] at h8; cases h8)), Lib.hid HJj.out.1, hej, hbj, HRj, HOj⟩
      | true =>
        have hgo : k < 4096 ∧ goesS en ⟨L', P', now', ar, goal, wk⟩ out.length = true := by
          have h8 := HG.out
          by_cases q1 : k < 4096
          · rw [decide_eq_true q1, Bool.true_and] at h8
            exact ⟨q1, h8.symm⟩
          · rw [decide_eq_false q1, Bool.false_and] at h8
            cases h8
        obtain ⟨hklt, hgo⟩ := hgo
        have HAn := Lib.hid (HAj.out.step hklt hgo)
        obtain ⟨hga, hgw, hgl⟩ := goes_iff.1 hgo
        dsimp only at hga hgw
        subst hga
        have hwk := HJj.out.1.on rfl
        dsimp only at hwk
        obtain ⟨hwk1, hwk2⟩ := hwk
        have hn0' := HJj.out.1.now0
        dsimp only at hn0'
        obtain ⟨hjn, hjw, hjl⟩ := HJj.out.1.ring (room := room) HOk.out rfl
        have HJn : Hid (JB (ringS room mn mx ⟨L', P', now', true, goal, wk⟩).2 ∧ Bd (ringS room mn mx ⟨L', P', now', true, goal, wk⟩).2) := Lib.hid ⟨hjn, HJj.out.2.ring hrm⟩
        have hmx : max wk now' = wk := Int.max_eq_left hwk1
        have HMx := Lib.hid hmx
        have fR := Lib.hid (rrun_ok now' room wk L' A' c' P' Q' d' wr hrm HJj.out.2.1 HJj.out.2.2.1 HJj.out.2.2.2 HJj.out.1.pi HRj.out.ra HRj.out.rq (fun a ha => by have h7 := HRj.out.oa a ha; have h6 := HRj.out.box.sz; omega) (fun a ha => by have h7 := HRj.out.oq a ha; have h6 := HRj.out.box.sz; omega) ⟨⟨by omega, hwk2⟩, hwk1⟩)
        obtain ⟨hb1, hb2, hb3⟩ := runs_bd (room := room) (now := wk) hrm 1024 (P := P') HJj.out.2.1 HJj.out.2.2.2
        have hrs : ringS room mn mx ⟨L', P', now', true, goal, wk⟩ = ((runT room wk 1024 L' P').1, lookS mn mx ⟨(runT room wk 1024 L' P').2.1, (runT room wk 1024 L' P').2.2, wk, false, goal, wk⟩) := by
          rw [look_off]; rfl
        rw [hrs] at HAn HJn hjw hjl
        have hM4 : (runT room wk 1024 L' P').1.length ≤ 1024 := runs_len 1024
        have hP4 := HJj.out.2.2.1
        dsimp only at hP4
        unfold RrOk rtv at fR
        obtain ⟨RR, hRR⟩ : ∃ RR, runT room wk 1024 L' P' = RR := ⟨_, rfl⟩
        rw [hRR] at HAn HJn hjw fR hM4 hb1 hb2 hb3
        clear hrs hjl hjn
        obtain ⟨M, L2, P2⟩ := RR
        dsimp only at HAn HJn hjw fR hM4 hb1 hb2 hb3
        have HL9 : Hid (L2.length ≤ 1048576) := Lib.hid (by omega)
        have HAt := Lib.hid hb3
        obtain ⟨hs1, hs2, hs3⟩ := look_now mn mx ⟨L2, P2, wk, false, goal, wk⟩
        have fL := Lib.hid (fun (Ax : Option Addr) cx Qx dx X (hX : Rd X Ax (L2.flatMap duc)) => rlook_s room mn mx ⟨L2, P2, wk, false, goal, wk⟩ Ax cx Qx dx X HL9.out hX HAt.out HOk.out (show 0 ≤ wk by omega) hwk2)
        obtain ⟨S2, hS2⟩ : ∃ S2, lookS mn mx ⟨L2, P2, wk, false, goal, wk⟩ = S2 := ⟨_, rfl⟩
        rw [hS2] at HAn HJn hs1 hs2 hs3 fL hjw
        obtain ⟨L3, P3, n3, a3, g3, k3⟩ := S2
        dsimp only at hs1 hs2 hs3
        subst hs1 hs2 hs3
        unfold rsS rsv at fL
        dsimp only at fL
        have HWe : Hid (n3 ≤ en ∧ now0 ≤ n3) := Lib.hid ⟨hgw, by omega⟩
        have HMl := Lib.hid hM4
        have HKl := Lib.hid hklt
        have HOl := Lib.hid hgl
        clear hgo hRR hjw hmx hM4 hb1 hb2 hb3 hP4 hS2 HG HAj HJj hwk1 hwk2 hn0' hgw hej hbj hgl
        have hmx := HMx.out
        have hs0 := HRj.out.box.sz
        go_upto_region 11 with (go_at_call 42; (with_reducible refine fR.out.mono ?_); rintro e w5 ⟨A5, c5, Q5, d5, B5, cb5, rfl, hr5, hq5, hbr5, ho5, hp5, hob5, hb5⟩; have HR5 := Lib.hid hr5; have HQ5 := Lib.hid hq5; have HB5 := Lib.hid hbr5; have HO5 := Lib.hid ho5; have HP5 := Lib.hid hp5; have HOb5 := Lib.hid hob5; have HBl5 := Lib.hid hb5; clear hr5 hq5 hbr5 ho5 hp5 hob5 hb5)
        refine name_world fun U hU => ?_
        have hbU : Below w5.heap.size w5 U := by
          rw [hU]; first | exact (Below.refl _ _).alloc (Nat.le_refl _) _ | exact (((Tn.refl [] w5).alloc _).new (set4 (heap_alloc_new _ _) rfl _ _ _ _).2 (fun b hb => by simp at hb; omega)).base (Below.refl _ _) (fun b hb => by cases hb) (Nat.le_refl _)
        have HU : Hid (U.heap[w5.heap.size]? = some (.cells #[.int .i64 n3, .int .i64 (room : Int), .slice A5 L3.length c5, .slice Q5 P3.length d5] 35 (0, 0))) := Lib.hid (by
          rw [hU]; first | exact heap_alloc_new _ _ | exact (set4 (heap_alloc_new _ _) rfl _ _ _ _).1)
        have HBU := Lib.hid hbU
        have HI0 := Lib.hid ((HRj.out.box.below HBl5.out).below hbU)
        dsimp only at HI0
        have hs5 := HBl5.out.size
        have hs6 := hbU.size
        clear hU hbU x0 y0 l0 fR hmx HMx
        obtain ⟨x0, y0⟩ := box_rules HI0.out.b0
        have l0 := box_lt HI0.out.b0
        obtain ⟨x8, y8⟩ := box_rules HU.out
        have l8 := box_lt HU.out
        go_upto_region 12 with fail
        refine name_world fun V1 hV1 => ?_
        have hm : w.heap.size ∈ [w.heap.size] := by simp
        have hT : Tn [w.heap.size] U V1 := by rw [hV1]; exact tsetR (i := 3) (tsetR (i := 2) (tsetR (i := 1) (tsetR (i := 0) (Tn.refl _ _) hm _) hm _) hm _) hm _
        have hE : V1.heap[w.heap.size]? = some (.cells #[.int .i64 n3, .int .i64 (room : Int), .slice A5 L3.length c5, .slice Q5 P3.length d5, .int .i64 mn, .int .i64 mx, .bool true, .int .i64 goal, .int .i64 n3] 37 (0, 0)) := by rw [hV1]; exact box_set (i := 3) (box_set (i := 2) (box_set (i := 1) (box_set (i := 0) HI0.out.b0 _) _) _) _
        have HI1 := Lib.hid (HRj.out.runs HBl5.out HBU.out hT HR5.out HQ5.out HO5.out HP5.out hE)
        have HB1 : Hid (Rd V1 B5 (M.flatMap fic)) := Lib.hid ((HB5.out.below HBU.out).tn hT (fun a ha hm => by have h1 := List.mem_singleton.1 hm; have h2 := HOb5.out a ha; omega))
        have HOw1 := Lib.hid (own_tn (own_belowK (own_belowK HOj.out HBl5.out) HBU.out) hT (fun b hb => by have h1 := List.mem_singleton.1 hb; omega))
        have HAp1 := Lib.hid (HPj.out.new (n := wr.heap.size) (fun g hg => (own_blockK HOj.out hg).2.1) (fun a ha => (HO5.out a ha).imp id (·.1)) (fun a ha => (HP5.out a ha).imp id (·.1)))
        have hz1 : w.heap.size + 2 ≤ V1.heap.size := HI1.out.box.sz
        have hol := HOl.out
        have hml := HMl.out
        clear hV1 hT hE x0 y0 l0 x8 y8 l8 HI0 HU HBU HB5 HR5 HQ5 HO5 HP5 HOb5 HBl5 HRj HOj HPj hs5 hs6 hs0
        go_upto_region 13 with (at_builtin; go_loud (refine wp_appNH rfl _ _ skc_fi (by decide) rfl HOw1.out rfl hz1 B5 M.length cb5 _ rfl (fiK_len M) HB1.out (fiK_one M) (by omega) ?_); intro B6 c6 w6 ho6 hg6 hat6; have HO6 := Lib.hid ho6; have HG6 := Lib.hid hg6; have HAt6 := Lib.hid hat6; clear ho6 hg6 hat6)
        obtain ⟨F, hF1, hF2⟩ := app_tn0 HG6.out
        have HI6 := Lib.hid (HI1.out.farF hF1 (fun k hk => ⟨(own_blockK HOw1.out (hF2 k hk)).1, (HAp1.out k (hF2 k hk)).1, (HAp1.out k (hF2 k hk)).2⟩))
        have HAp6 := Lib.hid (HAp1.out.grow (n := V1.heap.size) HAt6.out (fun a ha => by have h7 := HI1.out.oa a ha; omega) (fun a ha => by have h7 := HI1.out.oq a ha; omega))
        clear hF1 hF2 HG6 HAt6 HI1 HAp1 HOw1 HB1 hz1
        obtain ⟨x0, y0⟩ := box_rules HI6.out.box.b0
        have l0 := box_lt HI6.out.box.b0
        dsimp only at x0
        go_upto_region 14 with fail
        refine name_world fun V2 hV2 => ?_
        have hT2 : Tn [w.heap.size] w6 V2 := by rw [hV2]; exact tsetR (i := 6) (Tn.refl _ _) (by simp) _
        have HI2 : Hid (RaI w V2 room mn mx A Q ⟨L3, P3, n3, false, goal, n3⟩ A5 c5 Q5 d5) := Lib.hid (HI6.out.box0 (s2 := ⟨L3, P3, n3, false, goal, n3⟩) hT2 rfl rfl (by rw [hV2]; exact box_set (i := 6) HI6.out.box.b0 _))
        have HO2 := Lib.hid (own_tn HO6.out hT2 (fun b hb => by have h1 := List.mem_singleton.1 hb; omega))
        clear hV2 hT2 x0 y0 l0 HI6 HO6
        obtain ⟨x0, y0⟩ := box_rules HI2.out.box.b0
        have l0 := box_lt HI2.out.box.b0
        dsimp only at x0
        have fl := Lib.hid (fL.out A5 c5 Q5 d5 V2 HI2.out.ra)
        go_wp2_with fail
        (with_reducible refine fl.out.mono ?_)
        rintro e w7 ⟨rfl, hb7⟩
        have HI7 := Lib.hid (HI2.out.below hb7)
        have HO7 := Lib.hid (own_belowK HO2.out hb7)
        clear hb7 x0 y0 l0 HI2 HO2 fl fL
        obtain ⟨x0, y0⟩ := box_rules HI7.out.box.b0
        have l0 := box_lt HI7.out.box.b0
        dsimp only at x0
        go_upto_region 9 with fail
        refine name_world fun V3 hV3 => ?_
        obtain ⟨hE9, hT9⟩ := set9 HI7.out.box.b0 (.int .i64 n3) (.int .i64 (room : Int)) (.slice A5 L3.length c5) (.slice Q5 P3.length d5) (.int .i64 mn) (.int .i64 mx) (.bool a3) (.int .i64 g3) (.int .i64 k3)
        rw [← hV3] at hE9 hT9
        clear hV3 x0 y0 l0
        go_wp2
        refine ⟨⟨k + 1, ⟨L3, P3, n3, a3, g3, k3⟩, out ++ M, A5, c5, Q5, d5, B6, c6, by rw [List.length_append], by go_num, by omega, HAn, HJn, HWe.out.1, HWe.out.2, Lib.hid (HI7.out.box0 (s2 := ⟨L3, P3, n3, a3, g3, k3⟩) hT9 rfl rfl hE9), Lib.hid ?_, by rw [List.length_append]; exact HAp6⟩, by simp [intOf]; omega⟩
        rw [List.length_append, List.flatMap_append]
        exact own_tn HO7.out hT9 (fun b hb => by have h1 := List.mem_singleton.1 hb; omega)
  case rest =>
  obtain ⟨s1, out, A', c', Q', d', B, cb, rfl, HR1, HJ1, hle1, hge1, HI1, HO1⟩ := hcut
  obtain ⟨L', P', now', ar, goal, wk⟩ := s1
  dsimp only at *
  have hw1 := HW1.out
  have hjn := HJ1.out.now0
  have hjm := HJ1.out.now1
  dsimp only at hjn hjm
  have hz := HI1.out.box.sz
  clear hkk hkf hf HSt HA0 HJ HBd HR0
  by_cases hd : ar = true ∧ wk ≤ en
  · have HD2 : Hid (doneS en ⟨L', P', now', ar, goal, wk⟩ = ⟨L', P', now', ar, goal, wk⟩) := Lib.hid (if_pos hd)
    obtain ⟨rfl, hw⟩ := hd
    have hw2 : ¬ en < wk := by omega
    have hw3 : decide (en < wk) = false := decide_eq_false hw2
    have hw4 : decide (wk ≤ en) = true := decide_eq_true hw
    obtain ⟨x0, y0⟩ := box_rules HI1.out.box.b0
    have l0 := box_lt HI1.out.box.b0
    obtain ⟨x1, y1⟩ := box_rules HI1.out.box.b1
    have l1 := box_lt HI1.out.box.b1
    dsimp only at x0
    go_upto_region 17 with fail
    obtain ⟨gn, hgn⟩ : ∃ gn, now' - now0 = gn := ⟨_, rfl⟩
    have HGn := Lib.hid hgn
    have e5 : wrap64 (now' - now0) = gn := by rw [hgn]; exact Go.IntWalk.wrap64_in _ (by omega)
    have e6 : IntKind.i64.wrap (now' - now0) = gn := by rw [hgn]; exact IntWalk.i64_in _ (by omega)
    clear hgn
    go_region_with (fail)
    all_goals
      go_wp2
      refine name_post fun V4 hV4 => ?_
      obtain ⟨hE4, hT4⟩ := set9 (HI1).out.box.b1 (.int .i64 now') (.int .i64 (room : Int)) (.slice A' L'.length c') (.slice Q' P'.length d') (.int .i64 mn) (.int .i64 mx) (.bool true) (.int .i64 goal) (.int .i64 wk)
      first
        | (rw [← hV4] at hE4 hT4)
        | (have hE4 := bdrw hE4; have hT4 := hT4.drew; rw [← hV4] at hE4 hT4)
      obtain ⟨vx, vy⟩ := box_rules hE4
      clear hV4
      refine bodyPost_ret (v := .tuple #[.agg #[.int .i64 now', .int .i64 (room : Int), .slice A' L'.length c', .slice Q' P'.length d', .int .i64 mn, .int .i64 mx, .bool true, .int .i64 goal, .int .i64 wk], .slice B out.length cb, .int .i64 gn, .int .i64 0]) (by simp [results, Tryz.f25, go_sem, vx]) rfl ?_
      rw [HR1.out]
      dsimp only
      rw [HD2.out]
      unfold RetRa rsS rsv
      dsimp only
      rw [HGn.out]
      refine ⟨A', c', Q', d', B, cb, rfl, (HI1).out.ra.tn hT4 (fun a ha hm => by have h1 := List.mem_singleton.1 hm; have h2 := (HI1).out.oa a ha; omega), (HI1).out.rq.tn hT4 (fun a ha hm => by have h1 := List.mem_singleton.1 hm; have h2 := (HI1).out.oq a ha; omega), ?_, ?_, ?_, ?_, ?_⟩
      · exact (own_rdK HO1.out).tn hT4 (fun a ha hm => by have h2 := (own_blockK HO1.out (by rw [ha]; rfl)).1; simp at hm; omega)
      · exact fun a ha => by rcases (HI1).out.oa a ha with q | q; exact .inl q.1; exact .inr ⟨by omega, Nat.lt_of_lt_of_le q.2 hT4.size⟩
      · exact fun a ha => by rcases (HI1).out.oq a ha with q | q; exact .inl q.1; exact .inr ⟨by omega, Nat.lt_of_lt_of_le q.2 hT4.size⟩
      · exact fun a ha => by have h2 := (own_blockK HO1.out (by rw [ha]; rfl)).1; omega
      · exact hT4.base (HI1).out.box.bel (fun k hk => by have h1 := List.mem_singleton.1 hk; omega) (HI1).out.box.bel.size
  · have HD2 : Hid (doneS en ⟨L', P', now', ar, goal, wk⟩ = ⟨L', P', en, ar, goal, wk⟩) := Lib.hid (if_neg hd)
    obtain ⟨x0, y0⟩ := box_rules HI1.out.box.b0
    have l0 := box_lt HI1.out.box.b0
    dsimp only at x0
    go_upto_region 15 with fail
    go_cut [79] (fun v wx => v = .bool true ∧ wc = wx)
    case first =>
      cases ar with
      | false =>
        go_wp2
        go_meet
        exact ⟨rfl, rfl⟩
      | true =>
        have hw : en < wk := by
          have : ¬ wk ≤ en := fun h9 => hd ⟨rfl, h9⟩
          omega
        have hw3 : decide (en < wk) = true := decide_eq_true hw
        have hw4 : decide (wk ≤ en) = false := decide_eq_false (by omega)
        clear hd
        go_wp2
        go_meet
        exact ⟨rfl, rfl⟩
    case rest =>
    obtain ⟨rfl, rfl⟩ := hcut
    clear hd
    go_upto_region 17 with fail
    refine name_world fun V2 hV2 => ?_
    have hT2 : Tn [w.heap.size] wc V2 := by rw [hV2]; exact tsetR (i := 0) (Tn.refl _ _) (by simp) _
    have HI2 : Hid (RaI w V2 room mn mx A Q ⟨L', P', en, ar, goal, wk⟩ A' c' Q' d') := Lib.hid (HI1.out.box0 (s2 := ⟨L', P', en, ar, goal, wk⟩) hT2 rfl rfl (by rw [hV2]; exact box_set (i := 0) HI1.out.box.b0 _))
    have HT2 := Lib.hid hT2
    clear hV2 hT2 x0 y0 l0
    obtain ⟨x0, y0⟩ := box_rules HI2.out.box.b0
    have l0 := box_lt HI2.out.box.b0
    obtain ⟨x1, y1⟩ := box_rules HI2.out.box.b1
    have l1 := box_lt HI2.out.box.b1
    dsimp only at x0
    obtain ⟨gn, hgn⟩ : ∃ gn, en - now0 = gn := ⟨_, rfl⟩
    have HGn := Lib.hid hgn
    have e5 : wrap64 (en - now0) = gn := by rw [hgn]; exact Go.IntWalk.wrap64_in _ (by omega)
    have e6 : IntKind.i64.wrap (en - now0) = gn := by rw [hgn]; exact IntWalk.i64_in _ (by omega)
    clear hgn
    go_region_with (fail)
    all_goals
      go_wp2
      refine name_post fun V4 hV4 => ?_
      obtain ⟨hE4, hT4⟩ := set9 (HI2).out.box.b1 (.int .i64 en) (.int .i64 (room : Int)) (.slice A' L'.length c') (.slice Q' P'.length d') (.int .i64 mn) (.int .i64 mx) (.bool ar) (.int .i64 goal) (.int .i64 wk)
      first
        | (rw [← hV4] at hE4 hT4)
        | (have hE4 := bdrw hE4; have hT4 := hT4.drew; rw [← hV4] at hE4 hT4)
      obtain ⟨vx, vy⟩ := box_rules hE4
      clear hV4
      refine bodyPost_ret (v := .tuple #[.agg #[.int .i64 en, .int .i64 (room : Int), .slice A' L'.length c', .slice Q' P'.length d', .int .i64 mn, .int .i64 mx, .bool ar, .int .i64 goal, .int .i64 wk], .slice B out.length cb, .int .i64 gn, .int .i64 0]) (by simp [results, Tryz.f25, go_sem, vx]) rfl ?_
      rw [HR1.out]
      dsimp only
      rw [HD2.out]
      unfold RetRa rsS rsv
      dsimp only
      rw [HGn.out]
      refine ⟨A', c', Q', d', B, cb, rfl, (HI2).out.ra.tn hT4 (fun a ha hm => by have h1 := List.mem_singleton.1 hm; have h2 := (HI2).out.oa a ha; omega), (HI2).out.rq.tn hT4 (fun a ha hm => by have h1 := List.mem_singleton.1 hm; have h2 := (HI2).out.oq a ha; omega), ?_, ?_, ?_, ?_, ?_⟩
      · exact (own_rdK HO1.out).tn ((HT2.out.mono (F' := [w.heap.size, w.heap.size + 1]) (by simp)).trans (hT4.mono (by simp))) (fun a ha hm => by have h2 := (own_blockK HO1.out (by rw [ha]; rfl)).1; simp at hm; omega)
      · exact fun a ha => by rcases (HI2).out.oa a ha with q | q; exact .inl q.1; exact .inr ⟨by omega, Nat.lt_of_lt_of_le q.2 hT4.size⟩
      · exact fun a ha => by rcases (HI2).out.oq a ha with q | q; exact .inl q.1; exact .inr ⟨by omega, Nat.lt_of_lt_of_le q.2 hT4.size⟩
      · exact fun a ha => by have h2 := (own_blockK HO1.out (by rw [ha]; rfl)).1; omega
      · exact hT4.base (HI2).out.box.bel (fun k hk => by have h1 := List.mem_singleton.1 hk; omega) (HI2).out.box.bel.size
end Go.Proofs.YtiblpnadninmbaaGreatDoor

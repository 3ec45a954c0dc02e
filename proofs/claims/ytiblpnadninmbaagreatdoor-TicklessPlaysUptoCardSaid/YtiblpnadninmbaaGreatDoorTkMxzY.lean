/- Package tickless: the walk of Advance. Conditions: a service's memory, the de Bruijn table. -/
import Derived.Test.YtiblpnadninmbaaGreatDoorTkX3zY
import Derived.Test.YtiblpnadninmbaaGreatDoorTkX2Y
import Derived.Deep.CutBlock
import Derived.WalkMore
namespace Go.Proofs.YtiblpnadninmbaaGreatDoor
open Go.RowKit Go.Shelf
attribute [local go_sem] Oper.semAt_some
theorem SvS.nowc {w : World} {g : SvF} {room : Nat} {mn mx T : Int} {s : Sst} {tn : Nat} (h : SvS w g room mn mx T s tn) : Calls Tryz.prog 9 #[.pointer (some ⟨g.ps, 0, none⟩)] w fun e w' => e = .returned (.int .i64 s.now) ∧ w = w' := by
  obtain ⟨b, m, l, gc, nf, h1, _⟩ := h
  exact snow_any g room mn mx T s.L s.P tn b m l s.now s.armed gc nf w h1
theorem SvS.wakec {w : World} {g : SvF} {room : Nat} {mn mx T : Int} {s : Sst} {tn : Nat} (h : SvS w g room mn mx T s tn) (hb : JB s) : Calls Tryz.prog 8 #[.pointer (some ⟨g.ps, 0, none⟩)] w fun e w' => e = .returned (.tuple #[.int .i64 s.wake, .bool s.armed]) ∧ Below w.heap.size w w' := by
  obtain ⟨b, m, l, gc, nf, h1, h2⟩ := h
  have h9 : (if s.armed = true then s.wake else 0) = s.wake := by
    cases ha : s.armed with
    | true => exact if_pos rfl
    | false => rw [hb.off ha]; exact if_neg (by simp)
  have h3 := swake_any s g room mn mx T s.L s.P tn b m l gc nf w h1 h2 hb.now0 (by
    cases ha : s.armed with
    | true => exact (hb.on ha).2
    | false => rw [hb.off ha]; omega)
  rwa [h9] at h3
theorem SvR.mono {w : World} {g : SvF} {room : Nat} {mn mx T : Int} {L : List Du} {P : List Pe} {tn tn' : Nat} {b : Int} {m l : Bool} {now : Int} {ar : Bool} {gc : Int} {nf : Bool} (h : SvR w g room mn mx T L P tn b m l now ar gc nf) (ht : tn ≤ tn') : SvR w g room mn mx T L P tn' b m l now ar gc nf := ⟨h.box, h.tms.mono ht, h.ap⟩
theorem SvS.mono {w : World} {g : SvF} {room : Nat} {mn mx T : Int} {s : Sst} {tn tn' : Nat} (h : SvS w g room mn mx T s tn) (ht : tn ≤ tn') : SvS w g room mn mx T s tn' := by
  obtain ⟨b, m, l, gc, nf, h1, h2⟩ := h
  exact ⟨b, m, l, gc, nf, h1.mono ht, h2⟩
theorem fiK_len (l : List Fi) : (l.flatMap fic).length = l.length * 3 := by
  induction l with
  | nil => rfl
  | cons x l ih => rw [List.flatMap_cons, List.length_append, ih, List.length_cons]; show 3 + _ = _; omega
theorem fiK_one (l : List Fi) : ∀ u ∈ l.flatMap fic, u.oneCell' = true := fun u hu => by
  obtain ⟨x, _, hx⟩ := List.mem_flatMap.1 hu
  simp [fic] at hx
  rcases hx with rfl | rfl | rfl <;> rfl
theorem tn_low {F : List Nat} {w w3 w4 : World} (h : Tn F w w3) (hb : Below w.heap.size w3 w4) : Tn F w w4 :=
  ⟨hb.os.trans h.os, hb.tape.trans h.tape, hb.output.trans h.output, Nat.le_trans h.size hb.size, fun k hk hf => (hb.block k hk).trans (h.block k hk hf)⟩
set_option maxHeartbeats 4000000 in
set_option maxRecDepth 100000 in
theorem sadv_neg (g : SvF) (room : Nat) (mn mx T : Int) (s : Sst) (tn : Nat) (n : Int) (w : World) (h : SvS w g room mn mx T s tn) (hn : n < 0) :
    Calls Tryz.prog 12 #[.pointer (some ⟨g.ps, 0, none⟩), .int .i64 n] w fun e w' => e = .returned (.tuple #[.slice none 0 0, .int .i64 0, .int .i64 1]) ∧ w = w' := by
  have f1 := Lib.hid h.nowc
  clear h
  go_enter Tryz.func12, Tryz.ntmps12
  go_wp2
  go_step3
  go_wp2_with (go_at_call 9; (with_reducible refine f1.out.mono ?_); rintro e w1 ⟨rfl, rfl⟩)
  rw [Exit.noGoto_ret]
  refine bodyPost_ret (v := .tuple #[.slice none 0 0, .int .i64 0, .int .i64 1]) (by simp [results, Tryz.f12, go_sem]) rfl ?_
  exact ⟨rfl, rfl⟩
set_option maxHeartbeats 4000000 in
set_option maxRecDepth 100000 in
theorem sadv_far (g : SvF) (room : Nat) (mn mx T : Int) (s : Sst) (tn : Nat) (n : Int) (w : World) (h : SvS w g room mn mx T s tn) (hn : ¬ n < 0) (h0 : 0 ≤ s.now) (h1 : s.now ≤ 4503599627370496) (hf : 4503599627370496 - s.now < n) :
    Calls Tryz.prog 12 #[.pointer (some ⟨g.ps, 0, none⟩), .int .i64 n] w fun e w' => e = .returned (.tuple #[.slice none 0 0, .int .i64 0, .int .i64 6]) ∧ w = w' := by
  have f1 := Lib.hid h.nowc
  clear h
  generalize s.now = now at *
  go_enter Tryz.func12, Tryz.ntmps12
  go_wp2
  go_step3
  go_wp2_with (go_at_call 9; (with_reducible refine f1.out.mono ?_); rintro e w1 ⟨rfl, rfl⟩)
  rw [Exit.noGoto_ret]
  refine bodyPost_ret (v := .tuple #[.slice none 0 0, .int .i64 0, .int .i64 6]) (by simp [results, Tryz.f12, go_sem]) rfl ?_
  exact ⟨rfl, rfl⟩
theorem SvS.drew1 {w : World} {g : SvF} {room : Nat} {mn mx T : Int} {s : Sst} {tn : Nat} (h : SvS w g room mn mx T s tn) : SvS w.drew g room mn mx T s tn := by
  obtain ⟨b, m, l, gc, nf, h1, h2⟩ := h
  exact ⟨b, m, l, gc, nf, h1.drew1, h2⟩
theorem SvS.setc {w : World} {g : SvF} {room : Nat} {mn mx T : Int} {s : Sst} {tn : Nat} (h : SvS w g room mn mx T s tn) (hT : Tab w) (hg : 0 ∉ g.l) (h0 : T ≤ s.now) (h1 : s.now ≤ 4503599627370496) :
    Calls Tryz.prog 32 #[.pointer (some ⟨g.t.f.pw, 0, none⟩), .int .i64 s.now] w fun e w' => e = .returned (.int .i64 0) ∧ SvS w' g room mn mx s.now s tn ∧ Tn g.l w w' := by
  obtain ⟨b, m, l, gc, nf, hR, hA⟩ := h
  have hgt : 0 ∉ g.t.f.l := fun hm => hg (by simp [SvF.l, TmF.l, hm])
  have h3 := whl_set g.t.f room T s.L tn w s.now hR.tms.whl hT hgt
  rw [if_pos ⟨h0, h1⟩, if_pos ⟨h0, h1⟩] at h3
  exact h3.mono fun e w' ⟨q1, q2, q3⟩ => ⟨q1, ⟨b, m, l, gc, nf, hR.timers (hR.tms.wheel q2 q3 (Nat.le_refl _)) (Tms.tnl g.t q3), hA⟩, SvF.tnt g (Tms.tnl g.t q3)⟩
theorem SvA.step {s : Sst} {b : Int} {m : Bool} {gc : Int} {nf : Bool} {en : Int} (h : SvA s b m gc nf) (hd : ¬ (s.armed = true ∧ s.wake ≤ en)) (hl : s.now ≤ en) : SvA { s with now := en } b (stM s.now b m (en - s.now)) gc nf := by
  obtain ⟨h1, h2⟩ := h
  refine ⟨fun ha => ?_, fun ha => ?_⟩
  · unfold stM
    rw [h1 ha]; rfl
  · obtain ⟨q1, q2⟩ := h2 ha
    have hw : ¬ s.wake ≤ en := fun h9 => hd ⟨ha, h9⟩
    refine ⟨q1, ?_⟩
    rcases q2 with ⟨q2, q3⟩ | ⟨q2, q3, q4, q5, q6⟩
    · exact absurd (by rw [q3]; exact hl) hw
    · have hz := wake_arith q4 q5 q6
      refine .inr ⟨q2, ?_, by show en < s.wake; omega, by show s.wake ≤ en + 2147483648; omega, q6⟩
      unfold stM
      rw [q3, decide_eq_false (by omega)]; rfl
/-- What Advance hands back. -/
def RetAv (g : SvF) (room : Nat) (mn mx : Int) (begin : Int) (M : List Fi) (s2 : Sst) (tn : Nat) (w : World) (e : Ending) (w' : World) : Prop :=
  ∃ A c, e = .returned (.tuple #[.slice A M.length c, .int .i64 (s2.now - begin), .int .i64 0]) ∧ Rd w' A (M.flatMap fic) ∧ (∀ a, A = some a → w.heap.size ≤ a.block) ∧ SvS w' g room mn mx s2.now s2 tn ∧ Tn g.l w w'
set_option maxHeartbeats 16000000 in
set_option maxRecDepth 100000 in
theorem sadv_ok (g : SvF) (room : Nat) (mn mx : Int) (s : Sst) (tn : Nat) (n : Int) (w : World) (h : SvS w g room mn mx s.now s tn) (hB : JB s) (hok : TmOk mn mx) (hn : 0 ≤ n) (hf : s.now + n ≤ 4503599627370496) (hT : Tab w) (hg : 0 ∉ g.l) (ht : tn + 4195328 ≤ 1152921504606846976) :
    Calls Tryz.prog 12 #[.pointer (some ⟨g.ps, 0, none⟩), .int .i64 n] w (RetAv g room mn mx s.now (advS room mn mx (s.now + n) 4096 s []).2 (doneS (s.now + n) (advS room mn mx (s.now + n) 4096 s []).1) (tn + 4195328) w) := by
  have f1 := Lib.hid h.nowc
  have HTX : Hid (∀ X, Tn g.l w X → Tab X) := Lib.hid (fun X q => fun j hj => q.cell (hT j hj) hg)
  have HGl : Hid (∀ k ∈ g.l, k < w.heap.size) := Lib.hid h.lt
  have H := Lib.hid h
  have HJ := Lib.hid hB
  have hn0 := hB.now0
  have hn1 := hB.now1
  obtain ⟨en, hen⟩ : ∃ en, s.now + n = en := ⟨_, rfl⟩
  have hle : s.now ≤ en := by omega
  have he2 : en ≤ 4503599627370496 := by omega
  have HA0 := Lib.hid (AdI.zero room mn mx en s)
  obtain ⟨R, hR⟩ : ∃ R, advS room mn mx en 4096 s [] = R := ⟨_, rfl⟩
  have HSt : Hid (∀ k s' out, AdI room mn mx en s k s' out → ¬ (k < 4096 ∧ goesS en s' out.length = true) → R = (s', out)) := Lib.hid (fun k s' out q1 q2 => hR.symm.trans (q1.stop q2))
  rw [hen, hR]
  have hw1 : wrap64 (s.now + n) = en := by rw [hen]; exact Go.IntWalk.wrap64_in _ (by omega)
  have hnn : ¬ n < 0 := by omega
  have hnf : ¬ 4503599627370496 - s.now < n := by omega
  have HLe := Lib.hid hle
  clear h hB hT hR
  obtain ⟨now0, hnow0⟩ : ∃ now0, s.now = now0 := ⟨_, rfl⟩
  rw [hnow0] at f1 hn0 hn1 hle hw1 hnf hf hen ⊢
  have HN0 := Lib.hid hnow0
  clear hnow0
  unfold RetAv
  go_enter Tryz.func12, Tryz.ntmps12
  go_wp2
  go_step3
  go_upto_region 6 with (go_at_call 9; (with_reducible refine f1.out.mono ?_); rintro e w1 ⟨rfl, rfl⟩)
  go_wp2
  go_step3
  go_upto_block 1 with fail
  clear hw1 hen f1
  go_cut [9] (fun o wx => ∃ (s' : Sst) (out : List Fi) (A : Option Addr) (c : Nat), o = .slice A out.length c ∧ Hid (R = (s', out)) ∧ Hid (JB s') ∧ s'.now ≤ en ∧ now0 ≤ s'.now ∧ Hid (SvS wx g room mn mx s'.now s' (tn + 4194304)) ∧ Hid (wx.ownsRow w.heap.size 57 3 (.slice A out.length c) out.length (out.flatMap fic)) ∧ Hid (Tn g.l w wx))
  case first =>
    clear hn0 hn1 hnn hnf hf HLe
    go_wp2_with fail
    go_loopw [9, 27] (fun o i wr => ∃ (k : Nat) (s' : Sst) (out : List Fi) (A : Option Addr) (c : Nat), o = .slice A out.length c ∧ i = .int .i64 k ∧ k ≤ 4096 ∧ Hid (AdI room mn mx en s k s' out) ∧ Hid (JB s') ∧ s'.now ≤ en ∧ now0 ≤ s'.now ∧ Hid (SvS wr g room mn mx s'.now s' (tn + 1024 * k)) ∧ Hid (wr.ownsRow w.heap.size 57 3 (.slice A out.length c) out.length (out.flatMap fic)) ∧ Hid (Tn g.l w wr)) (fun _ i _ => 4096 - (intOf i).toNat)
    case atStart => exact ⟨0, s, [], none, 0, rfl, rfl, by omega, HA0, HJ, by rw [HN0.out]; exact hle, by rw [HN0.out]; exact Int.le_refl _, Lib.hid (H.out.mono (by omega)), Lib.hid (own_nilK _ _ _ _), Lib.hid (Tn.refl _ _)⟩
    case round =>
      obtain ⟨k, s', out, A, c, rfl, rfl, hk, HAj, HJj, hej, hbj, HSj, HOj, HTj⟩ := hrel
      have f2 := Lib.hid (HSj.out.wakec HJj.out)
      by_cases hlt : k < 4096
      · obtain ⟨L', P', now', ar, goal, wk⟩ := s'
        dsimp only at *
        go_upto_region 13 with (go_at_call 8; (with_reducible refine f2.out.mono ?_); rintro e w2 ⟨rfl, hb2⟩; have HS2 := Lib.hid (HSj.out.below hb2); have HO2 := Lib.hid (own_belowK HOj.out hb2); have HT2 := Lib.hid (HTj.out.below hb2); clear hb2)
        go_cut [53] (fun v wx => ∃ bg, v = .bool bg ∧ Hid (bg = !goesS en ⟨L', P', now', ar, goal, wk⟩ out.length) ∧ w2 = wx)
        case first =>
          cases ar with
          | false =>
            go_wp2
            go_meet
            exact ⟨true, rfl, Lib.hid (by unfold goesS; rfl), rfl⟩
          | true =>
            by_cases hw : en < wk
            · have hg : goesS en ⟨L', P', now', true, goal, wk⟩ out.length = false := by
                unfold goesS
                rw [decide_eq_false (show ¬ wk ≤ en by omega)]; rfl
              have HGq : Hid (true = !goesS en ⟨L', P', now', true, goal, wk⟩ out.length) := Lib.hid (by rw [hg]; rfl)
              clear hg
              go_wp2
              go_meet
              exact ⟨true, rfl, HGq, rfl⟩
            · by_cases hl : out.length < 1024
              · have HGq : Hid (false = !goesS en ⟨L', P', now', true, goal, wk⟩ out.length) := Lib.hid (by
                  unfold goesS
                  rw [decide_eq_true (show wk ≤ en by omega), decide_eq_true hl]; rfl)
                have hl1 : decide (1024 ≤ out.length) = false := decide_eq_false (by omega)
                have hl2 : ¬ (1024 : Int) ≤ (out.length : Int) := by omega
                go_wp2
                go_meet
                exact ⟨false, rfl, HGq, rfl⟩
              · have HGq : Hid (true = !goesS en ⟨L', P', now', true, goal, wk⟩ out.length) := Lib.hid (by
                  unfold goesS
                  rw [decide_eq_true (show wk ≤ en by omega), decide_eq_false hl]; rfl)
                have hl1 : decide (1024 ≤ out.length) = true := decide_eq_true (by omega)
                have hl2 : (1024 : Int) ≤ (out.length : Int) := by omega
                go_wp2
                go_meet
                exact ⟨true, rfl, HGq, rfl⟩
        case rest =>
        obtain ⟨bg, rfl, HG, rfl⟩ := hcut
        cases bg with
        | true =>
          go_wp2
          go_meet
          exact ⟨⟨L', P', now', ar, goal, wk⟩, out, A, c, rfl, Lib.hid (HSt.out k _ _ HAj.out (fun h9 => by have h8 := HG.out; rw [h9.2] at h8; cases h8)), HJj, hej, hbj, Lib.hid (HS2.out.mono (by omega)), HO2, HT2⟩
        | false =>
          have hgo : goesS en ⟨L', P', now', ar, goal, wk⟩ out.length = true := by
            have h8 := HG.out
            revert h8
            cases goesS en ⟨L', P', now', ar, goal, wk⟩ out.length
            · intro h8; cases h8
            · intro _; rfl
          obtain ⟨hga, hgw, hgl⟩ := goes_iff.1 hgo
          dsimp only at hga hgw
          subst hga
          have hwk := HJj.out.on rfl
          dsimp only at hwk
          obtain ⟨hwk1, hwk2⟩ := hwk
          have hn0' := HJj.out.now0
          dsimp only at hn0'
          have HAn := Lib.hid (HAj.out.step hlt hgo)
          obtain ⟨hjn, hjw, hjl⟩ := HJj.out.ring (room := room) hok rfl
          have HJn := Lib.hid hjn
          have HJw := Lib.hid hjw
          have hrs : ringS room mn mx ⟨L', P', now', true, goal, wk⟩ = ranS room mn mx wk L' P' := rfl
          rw [hrs] at HAn HJn HJw hjl
          obtain ⟨b, m, l, gc, nf, hRw, _⟩ := HS2.out
          dsimp only at hRw
          have HRw := Lib.hid hRw
          have fN := Lib.hid (fun X hX => snow_any g room mn mx now' L' P' (tn + 1024 * k) b m l now' true gc nf X hX)
          have fS := Lib.hid (fun X => step_any now' (wk - now') b m l X hn0' (by omega) (by omega))
          rw [show now' + (wk - now') = wk by omega] at fS
          have hbox := hRw.box
          obtain ⟨cn, hcn⟩ : ∃ cn, now' % 4294967296 = cn := ⟨_, rfl⟩
          rw [hcn] at hbox fS
          have HBx := Lib.hid hbox
          obtain ⟨c9, hc9⟩ : ∃ c9, wk % 4294967296 = c9 := ⟨_, rfl⟩
          rw [hc9] at fS
          have HC9 := Lib.hid hc9
          have hwv : ∃ dn, wk - now' = dn := ⟨_, rfl⟩
          obtain ⟨dn, hdn⟩ := hwv
          rw [hdn] at fS
          have e1 : IntKind.i64.wrap (wk - now') = dn := by rw [hdn]; exact IntWalk.i64_in _ (by omega)
          have e2 : wrap64 (wk - now') = dn := by rw [hdn]; exact Go.IntWalk.wrap64_in _ (by omega)
          generalize stM now' b m dn = M9 at *
          generalize stL now' b m l dn = L9 at *
          unfold clv at fS
          have fR := Lib.hid (fun X (hX : SvR X g room mn mx now' L' P' (tn + 1024 * k) b M9 L9 wk true gc nf) hTX => sring_any g room mn mx now' L' P' (tn + 1024 * k) b M9 L9 wk true gc nf X hX hok (by omega) hwk2 hwk1 hTX hg (by omega))
          unfold RetRg at fR
          obtain ⟨RR, hRR⟩ : ∃ RR, ranS room mn mx wk L' P' = RR := ⟨_, rfl⟩
          rw [hRR] at HAn HJn HJw hjl fR
          obtain ⟨M, s2⟩ := RR
          dsimp only at HAn HJn HJw hjl fR
          have hgw' := hgw
          have hwk3 := HJw.out
          clear hRw hbox hcn hc9 hRR hrs hdn hgo hjn hjw HAj HJj HSj HS2 HOj HTj f2 HSt
          obtain ⟨xx, xy⟩ := box_rules HBx.out
          have lx := box_lt HBx.out
          go_upto_region 11 with fail
          go_cut [34] (fun _ wx => Hid (SvR wx g room mn mx now' L' P' (tn + 1024 * k) b M9 L9 wk true gc nf) ∧ Hid (wx.ownsRow w.heap.size 57 3 (.slice A out.length c) out.length (out.flatMap fic)) ∧ Hid (Tn g.l w wx))
          case first =>
            go_region_with ((first
              | (go_at_call 9; (with_reducible refine (fN.out _ HRw.out.drew1).mono ?_); rintro e w3 ⟨rfl, rfl⟩)
              | (go_at_call 30; (with_reducible refine (fS.out _).mono ?_); rintro e w4 ⟨rfl, hb4⟩; have hb5 := undrew hb4; have HB4 := Lib.hid hb5; have HX4 := Lib.hid (box_keep HBx.out hb5); clear hb4 hb5 xx xy lx; obtain ⟨xx, xy⟩ := box_rules HX4.out; have lx := box_lt HX4.out)))
            all_goals
              go_wp2_with fail
              have hT := tset (i := 6) (tset (i := 5) (tset (i := 4) (tset (i := 3) (tset (i := 2) (Tn.refl [g.ps] w4) (List.mem_singleton.2 rfl) (.int .u32 c9)) (List.mem_singleton.2 rfl) (.int .u32 b)) (List.mem_singleton.2 rfl) (.bool M9)) (List.mem_singleton.2 rfl) (.bool L9)) (List.mem_singleton.2 rfl) (.int .i64 wk)
              have hE := box_set (i := 6) (box_set (i := 5) (box_set (i := 4) (box_set (i := 3) (box_set (i := 2) HX4.out (.int .u32 c9)) (.int .u32 b)) (.bool M9)) (.bool L9)) (.int .i64 wk)
              have hps := HGl.out g.ps (by simp [SvF.l])
              go_meet
              exact ⟨Lib.hid ((HRw.out.below HB4.out).turn1 hT (by rw [HC9.out]; exact hE)), Lib.hid (own_tn (own_belowK HO2.out HB4.out) hT (fun q hq => by obtain rfl := List.mem_singleton.1 hq; exact hps)), Lib.hid ((HT2.out.below HB4.out).trans (SvF.tn1 g hT))⟩
          case rest =>
          obtain ⟨HR3, HO3, HT3⟩ := hcut
          clear xx xy lx
          go_wp2_with (first
            | (go_at_call 31; (with_reducible refine (fR.out _ HR3.out (HTX.out _ HT3.out)).mono ?_); rintro e w5 ⟨A5, c5, rfl, hr5, ha5, hs5, ht5⟩; have HR5 := Lib.hid hr5; have HS5 := Lib.hid hs5; have HT5 := Lib.hid (HT3.out.trans ht5); have HO5 := Lib.hid (own_tn HO3.out ht5 HGl.out); have hz5 := HT5.out.size; clear hr5 ha5 hs5 ht5)
            | (at_builtin; go_loud (refine wp_appNK rfl _ _ skc_fi (by decide) rfl HO5.out rfl hz5 A5 M.length c5 _ rfl (fiK_len M) HR5.out (fiK_one M) (by omega) ?_); intro A6 c6 w6 ho6 hb6; have HO6 := Lib.hid ho6; have HS6 := Lib.hid (HS5.out.low hb6 HGl.out); have HT6 := Lib.hid (tn_low HT5.out hb6); clear ho6 hb6))
          refine ⟨⟨k + 1, s2, out ++ M, A6, c6, by rw [List.length_append], by go_num, by omega, HAn, HJn, by rw [hwk3]; exact hgw', by rw [hwk3]; omega, ?_, ?_, HT6⟩, by simp [intOf]; omega⟩
          · rw [hwk3]; exact Lib.hid (HS6.out.mono (by omega))
          · rw [List.length_append, List.flatMap_append]; exact HO6
      · go_wp2
        go_meet
        exact ⟨s', out, A, c, rfl, Lib.hid (HSt.out k _ _ HAj.out (fun h9 => hlt h9.1)), HJj, hej, hbj, Lib.hid (HSj.out.mono (by omega)), HOj, HTj⟩
  case rest =>
  obtain ⟨s1, out, A, c, rfl, HR1, HJ1, hle1, hge1, HS1, HO1, HT1⟩ := hcut
  have f2 := Lib.hid (HS1.out.wakec HJ1.out)
  obtain ⟨L', P', now', ar, goal, wk⟩ := s1
  dsimp only at *
  obtain ⟨hjd, hjd1, hjd2⟩ := HJ1.out.done hle1 he2
  dsimp only at hjd1
  have hn0' := HJ1.out.now0
  have hn1' := HJ1.out.now1
  dsimp only at hn0' hn1'
  have HJd := Lib.hid hjd
  clear hnn hnf hf HA0 HSt hjd
  go_upto_region 16 with (go_at_call 8; (with_reducible refine f2.out.mono ?_); rintro e w2 ⟨rfl, hb2⟩; have HS2 := Lib.hid (HS1.out.below hb2); have HO2 := Lib.hid (own_belowK HO1.out hb2); have HT2 := Lib.hid (HT1.out.below hb2); clear hb2)
  by_cases hd : ar = true ∧ wk ≤ en
  · have hs2 : doneS en ⟨L', P', now', ar, goal, wk⟩ = ⟨L', P', now', ar, goal, wk⟩ := if_pos hd
    rw [hs2] at hjd1 hjd2 HJd
    have HD2 := Lib.hid hs2
    obtain ⟨rfl, hw⟩ := hd
    clear hs2
    have hS3 := HS2.out
    have HO3 := HO2
    have HT3 := HT2
    dsimp only at hjd1 hjd2
    have HS3 := Lib.hid hS3
    clear hS3
    go_upto_region 18 with fail
    have hS3 := HS3.out
    have fN3 := Lib.hid (SvS.nowc (hS3.drew1))
    have fW3 := Lib.hid (SvS.setc (hS3.drew1) (HTX.out _ HT3.out.drew) hg hjd1 HJd.out.now1)
    obtain ⟨b3, m3, l3, gc3, nf3, hR3, _⟩ := hS3
    obtain ⟨xx, xy⟩ := box_rules hR3.box
    have lx := box_lt hR3.box
    obtain ⟨tx, ty⟩ := box_rules hR3.tms.box
    have lt := box_lt hR3.tms.box
    clear hR3
    dsimp only at fN3 fW3
    go_cut [103] (fun _ wx => Hid (SvS wx g room mn mx now' ⟨L', P', now', true, goal, wk⟩ (tn + 4195328)) ∧ Hid (wx.ownsRow w.heap.size 57 3 (.slice A out.length c) out.length (out.flatMap fic)) ∧ Hid (Tn g.l w wx))
    case first =>
      go_region_with ((first
        | (go_at_call 9; (with_reducible refine fN3.out.mono ?_); rintro e w5 ⟨rfl, rfl⟩)
        | (go_at_call 32; (with_reducible refine fW3.out.mono ?_); rintro e w6 ⟨rfl, hs6, ht6⟩; have HS6 := Lib.hid (hs6.mono (show tn + 4194304 ≤ tn + 4195328 by omega)); have HT6 := Lib.hid (HT3.out.drew.trans ht6); have HO6 := Lib.hid (own_tn (own_drewK HO3.out) ht6 HGl.out); clear hs6 ht6)))
      all_goals
        go_wp2_with fail
        go_meet
        exact ⟨HS6, HO6, HT6⟩
    case rest =>
    obtain ⟨HS7, HO7, HT7⟩ := hcut
    clear xx xy lx tx ty lt fN3 fW3
    have fN7 := Lib.hid (SvS.nowc HS7.out)
    dsimp only at fN7
    go_wp2_with (go_at_call 9; (with_reducible refine fN7.out.mono ?_); rintro e w8 ⟨rfl, rfl⟩)
    rw [Exit.noGoto_ret]
    refine bodyPost_ret (v := .tuple #[.slice A out.length c, .int .i64 (now' - now0), .int .i64 0]) (by simp [results, Tryz.f12, go_sem]) rfl ?_
    rw [HR1.out]
    dsimp only
    rw [HD2.out]
    exact ⟨A, c, rfl, own_rdK HO7.out, fun a ha => (own_blockK HO7.out (by rw [ha]; rfl)).1, HS7.out, HT7.out⟩
  · have hs2 : doneS en ⟨L', P', now', ar, goal, wk⟩ = ⟨L', P', en, ar, goal, wk⟩ := if_neg hd
    rw [hs2] at hjd1 hjd2 HJd
    have HD2 := Lib.hid hs2
    dsimp only at hjd1 hjd2
    obtain ⟨b, m, l, gc, nf, hRw, hAw⟩ := HS2.out
    dsimp only at hRw
    have HAw : Hid (SvA ⟨L', P', en, ar, goal, wk⟩ b (stM now' b m (en - now')) gc nf) := Lib.hid (hAw.step hd hle1)
    have HRw := Lib.hid hRw
    have fN := Lib.hid (fun X hX => snow_any g room mn mx now' L' P' (tn + 4194304) b m l now' ar gc nf X hX)
    have fS := Lib.hid (fun X => step_any now' (en - now') b m l X hn0' (by omega) (by omega))
    rw [show now' + (en - now') = en by omega] at fS
    have hbox := hRw.box
    obtain ⟨cn, hcn⟩ : ∃ cn, now' % 4294967296 = cn := ⟨_, rfl⟩
    rw [hcn] at hbox fS
    have HBx := Lib.hid hbox
    obtain ⟨c9, hc9⟩ : ∃ c9, en % 4294967296 = c9 := ⟨_, rfl⟩
    rw [hc9] at fS
    have HC9 := Lib.hid hc9
    obtain ⟨dn, hdn⟩ : ∃ dn, en - now' = dn := ⟨_, rfl⟩
    rw [hdn] at fS HAw
    have e1 : IntKind.i64.wrap (en - now') = dn := by rw [hdn]; exact IntWalk.i64_in _ (by omega)
    have e2 : wrap64 (en - now') = dn := by rw [hdn]; exact Go.IntWalk.wrap64_in _ (by omega)
    generalize stM now' b m dn = M9 at *
    generalize stL now' b m l dn = L9 at *
    unfold clv at fS
    clear hRw hAw hbox hcn hc9 hs2 hdn HS1 HS2 HO1 HT1 f2
    obtain ⟨xx, xy⟩ := box_rules HBx.out
    have lx := box_lt HBx.out
    go_cut [78] (fun v wx => v = .bool true ∧ w2 = wx)
    case first =>
      cases ar with
      | false =>
        go_wp2
        go_meet
        exact ⟨rfl, rfl⟩
      | true =>
        have hw : en < wk := by
          have : ¬ wk ≤ en := fun h9 => hd ⟨rfl, h9⟩
          omega
        clear hd
        go_wp2
        go_meet
        exact ⟨rfl, rfl⟩
    case rest =>
    obtain ⟨rfl, rfl⟩ := hcut
    clear hd
    go_upto_region 17 with fail
    go_cut [79] (fun _ wx => Hid (SvR wx g room mn mx now' L' P' (tn + 4194304) b M9 L9 en ar gc nf) ∧ Hid (wx.ownsRow w.heap.size 57 3 (.slice A out.length c) out.length (out.flatMap fic)) ∧ Hid (Tn g.l w wx))
    case first =>
      go_region_with ((first
        | (go_at_call 9; (with_reducible refine (fN.out _ HRw.out.drew1).mono ?_); rintro e w3 ⟨rfl, rfl⟩)
        | (go_at_call 30; (with_reducible refine (fS.out _).mono ?_); rintro e w4 ⟨rfl, hb4⟩; have hb5 := undrew hb4; have HB4 := Lib.hid hb5; have HX4 := Lib.hid (box_keep HBx.out hb5); clear hb4 hb5 xx xy lx; obtain ⟨xx, xy⟩ := box_rules HX4.out; have lx := box_lt HX4.out)))
      all_goals
        go_wp2_with fail
        have hT := tset (i := 6) (tset (i := 5) (tset (i := 4) (tset (i := 3) (tset (i := 2) (Tn.refl [g.ps] w4) (List.mem_singleton.2 rfl) (.int .u32 c9)) (List.mem_singleton.2 rfl) (.int .u32 b)) (List.mem_singleton.2 rfl) (.bool M9)) (List.mem_singleton.2 rfl) (.bool L9)) (List.mem_singleton.2 rfl) (.int .i64 en)
        have hE := box_set (i := 6) (box_set (i := 5) (box_set (i := 4) (box_set (i := 3) (box_set (i := 2) HX4.out (.int .u32 c9)) (.int .u32 b)) (.bool M9)) (.bool L9)) (.int .i64 en)
        have hps := HGl.out g.ps (by simp [SvF.l])
        go_meet
        exact ⟨Lib.hid ((HRw.out.below HB4.out).turn1 hT (by rw [HC9.out]; exact hE)), Lib.hid (own_tn (own_belowK HO2.out HB4.out) hT (fun q hq => by obtain rfl := List.mem_singleton.1 hq; exact hps)), Lib.hid ((HT2.out.below HB4.out).trans (SvF.tn1 g hT))⟩
    case rest =>
    obtain ⟨HR3, HO3, HT3⟩ := hcut
    clear xx xy lx HRw HBx fN fS HO2 HT2
    have hS3 : SvS wc g room mn mx now' ⟨L', P', en, ar, goal, wk⟩ (tn + 4194304) := ⟨b, M9, L9, gc, nf, HR3.out, HAw.out⟩
    have HS3 := Lib.hid hS3
    clear hS3
    go_upto_region 18 with fail
    have hS3 := HS3.out
    have fN3 := Lib.hid (SvS.nowc (hS3.drew1))
    have fW3 := Lib.hid (SvS.setc (hS3.drew1) (HTX.out _ HT3.out.drew) hg hjd1 HJd.out.now1)
    obtain ⟨b3, m3, l3, gc3, nf3, hR3, _⟩ := hS3
    obtain ⟨xx, xy⟩ := box_rules hR3.box
    have lx := box_lt hR3.box
    obtain ⟨tx, ty⟩ := box_rules hR3.tms.box
    have lt := box_lt hR3.tms.box
    clear hR3
    dsimp only at fN3 fW3
    go_cut [103] (fun _ wx => Hid (SvS wx g room mn mx en ⟨L', P', en, ar, goal, wk⟩ (tn + 4195328)) ∧ Hid (wx.ownsRow w.heap.size 57 3 (.slice A out.length c) out.length (out.flatMap fic)) ∧ Hid (Tn g.l w wx))
    case first =>
      go_region_with ((first
        | (go_at_call 9; (with_reducible refine fN3.out.mono ?_); rintro e w5 ⟨rfl, rfl⟩)
        | (go_at_call 32; (with_reducible refine fW3.out.mono ?_); rintro e w6 ⟨rfl, hs6, ht6⟩; have HS6 := Lib.hid (hs6.mono (show tn + 4194304 ≤ tn + 4195328 by omega)); have HT6 := Lib.hid (HT3.out.drew.trans ht6); have HO6 := Lib.hid (own_tn (own_drewK HO3.out) ht6 HGl.out); clear hs6 ht6)))
      all_goals
        go_wp2_with fail
        go_meet
        exact ⟨HS6, HO6, HT6⟩
    case rest =>
    obtain ⟨HS7, HO7, HT7⟩ := hcut
    clear xx xy lx tx ty lt fN3 fW3
    have fN7 := Lib.hid (SvS.nowc HS7.out)
    dsimp only at fN7
    go_wp2_with (go_at_call 9; (with_reducible refine fN7.out.mono ?_); rintro e w8 ⟨rfl, rfl⟩)
    rw [Exit.noGoto_ret]
    refine bodyPost_ret (v := .tuple #[.slice A out.length c, .int .i64 (en - now0), .int .i64 0]) (by simp [results, Tryz.f12, go_sem]) rfl ?_
    rw [HR1.out]
    dsimp only
    rw [HD2.out]
    exact ⟨A, c, rfl, own_rdK HO7.out, fun a ha => (own_blockK HO7.out (by rw [ha]; rfl)).1, HS7.out, HT7.out⟩
end Go.Proofs.YtiblpnadninmbaaGreatDoor

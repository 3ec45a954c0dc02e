/- Package rta: the walk of what urgent hands back. Conditions: lists that read; tasks that are right. -/
import Derived.Test.YtgampofpabllbaaGreatRtN
import Derived.Test.YtgampofpabllbaaGreatStillIn
namespace Go.Proofs.YtgampofpabllbaaGreat
open Go.RowKit Go.Shelf
attribute [local go_sem] Oper.semAt_some

theorem urgent_any (b : Nat) (w : World) :
    Calls Tryz.prog 117 #[.pointer (some ⟨b, 0, none⟩)] w fun e w' =>
      e = .returned (.func (.func 131) #[] #[.pointer (some ⟨w.heap.size, 0, none⟩)]) ∧
      w.alloc (.cells #[.pointer (some ⟨b, 0, none⟩)] 135) = w' := by
  go_enter Tryz.func117, Tryz.ntmps117
  go_wp2
  go_ret
  exact ⟨by simp, rfl⟩
theorem urgL_pre (mn sw : Int) (ts : List Tk) (p : Int) (k : Nat) : ∀ n, k ≤ n → urgL mn sw ts p k <+: urgL mn sw ts p n
  | 0, h => by obtain rfl : k = 0 := by omega
               exact List.prefix_refl _
  | n + 1, h => by
    by_cases e : k = n + 1
    · subst e; exact List.prefix_refl _
    · exact List.IsPrefix.trans (urgL_pre mn sw ts p k n (by omega)) (List.prefix_append _ _)
theorem name_worldIn {F : Fence} {n : Nat} {P : Program} {c : Code} {Q : Exit → Act → World → Prop} {a : Act} {w : World} (h : ∀ W, W = w → c.wpIn F n P Q a W) : c.wpIn F n P Q a w := h w rfl
set_option maxHeartbeats 4000000 in
set_option maxRecDepth 100000 in
/-- What urgent hands back. -/
theorem urg_iter (mn mx sw : Int) (ts : List Tk) (A : Option Addr) (ca : Nat) (B : Option Addr) (nb cb : Nat) (D : Option Addr) (nd cd : Nat) (t : Tk) (b b1 n1 : Nat) (out : List Nat) (w0 w : World) (hl : ts.length ≤ 1048576) (hts : ∀ x ∈ ts, TkIn x sw) (hsw : 0 ≤ sw ∧ sw ≤ 1099511627776) (hmn : 1 ≤ mn ∧ mn ≤ 2147483648)
    (h0 : Below w0.heap.size w0 w) (k1 : b < n1) (k2 : b1 < n1) (q1 : b ∉ out) (q2 : b1 ∉ out)
    (hb : w.heap[b]? = some (.cells (shc mn mx sw A ts.length ca B nb cb D nd cd t) 140 (0, 0)))
    (hb1 : w.heap[b1]? = some (.cells #[.pointer (some ⟨b, 0, none⟩)] 135 (0, 0))) (ht : Rd w0 A (ts.flatMap tkc)) :
    SeqStopsK Fence.wide 8 Tryz.prog 131 #[.pointer (some ⟨b1, 0, none⟩)] (fun x : Ld => #[ldv x]) (KeepsLow w0.heap.size n1 out) (fun xs => xs = urgL mn sw ts t.prio ts.length)
      (fun pre => pre <+: urgL mn sw ts t.prio ts.length) ts.length w := fun ll J Jx W hW hJ hJx hY hJ0 => by
  have H1 := Lib.hid (box_keep hb hW)
  have H2 := Lib.hid (box_keep hb1 hW)
  have HW0 := Lib.hid (h0.trans (hW.mono h0.size))
  have Ht := Lib.hid ht; have HJ := Lib.hid hJ; have HY := Lib.hid hY; have HJ0 := Lib.hid hJ0; have HTs := Lib.hid hts
  have s0 := h0.size
  have sW := hW.size
  have f1 := Lib.hid (fun x w hc => lag_any mn mx sw A ts.length ca B nb cb D nd cd t x b w hc)
  obtain ⟨sw1, sw2⟩ := hsw
  obtain ⟨mn1, mn2⟩ := hmn
  clear hb hb1 h0 hW ht hJ hJx hY hJ0 hts
  obtain ⟨u0, p, u2, u3, u4, u5, u6, u7, u8, u9⟩ := t
  unfold shc at *
  dsimp only at *
  obtain ⟨hx1, hy1⟩ := box_rules H1.out
  obtain ⟨hx2, hy2⟩ := box_rules H2.out
  refine callsIn_of_wp Tryz.func131 rfl trivial ?_ rfl
  simp only [Tryz.ntmps131, List.size_toArray, List.length_cons, List.length_nil, Nat.reduceAdd, Nat.reduceSub, Array.replicate_succ, Array.replicate_zero, List.push_toArray, List.append_toArray, List.nil_append, List.cons_append]
  gi_wp2
  gi_loopw [13] (fun i wr => ∃ k : Nat, k ≤ ts.length ∧ i = .int .i64 k ∧ J (urgL mn sw ts p k) wr ∧ KeepsLow w0.heap.size n1 out W wr ∧ W.heap.size ≤ wr.heap.size) (fun i _ => ts.length - (intOf i).toNat)
  case atStart => exact ⟨0, by omega, rfl, HJ0.out, KeepsLow.refl _, Nat.le_refl _⟩
  case round =>
    obtain ⟨k, hk, rfl, hj, hK, hs⟩ := hrel
    have Hj := Lib.hid hj; have HK := Lib.hid hK
    clear hj hK
    by_cases hlt : k < ts.length
    · obtain ⟨a, x, rfl, hx, ⟨g0, g1, g2, g3⟩, g4, g5, g6, g7, g8, g9⟩ := (Ht.out.below (HW0.out.trans HK.out.below)).tkAt hlt
      have HTI : Hid (TkIn x sw) := Lib.hid (by rw [← hx]; exact HTs.out _ (getD_mem hlt))
      have HYs : Hid (p < x.prio → urgL mn sw ts p (k + 1) = urgL mn sw ts p k ++ [urgT mn sw x]) := Lib.hid (fun h => urgL_yes hx h)
      have HNo : Hid (¬ p < x.prio → urgL mn sw ts p (k + 1) = urgL mn sw ts p k) := Lib.hid (fun h => urgL_no hx h)
      have f2 := Lib.hid (fun w hc => f1.out x w hc)
      have HL := Lib.hid (Nat.lt_of_le_of_lt (urgL_len mn sw ts p k) hlt)
      have HP := Lib.hid (urgL_pre mn sw ts p (k + 1) ts.length hlt)
      have HD1 := Lib.hid (HK.out.box k1 q1 H1.out)
      have HD2 := Lib.hid (HK.out.box k2 q2 H2.out)
      have sa : w0.heap.size ≤ wr.heap.size := by omega
      have HUT : Hid (urgT mn sw x = ⟨x.period, lagT mn x, max 1 (x.period - lagT mn x), x.cost + sw⟩) := Lib.hid rfl
      have hlag : 0 ≤ lagT mn x ∧ lagT mn x ≤ 2147483648 := by unfold lagT; split <;> omega
      have hper := HTI.out.period
      have hcost : 1 ≤ x.cost ∧ x.cost ≤ 1099511627776 := by have := HTI.out.cost; have := HTI.out.deadline; omega
      clear hx HTI
      generalize urgT mn sw x = L at *
      generalize lagT mn x = lg at *
      obtain ⟨x0, x1, x2, x3, x4, x5, x6, x7, x8, x9⟩ := x
      unfold tkv at f2
      dsimp only at f2 g0 g1 g2 g3 g4 g5 g6 g7 g8 g9 HYs HNo HUT hper hcost
      obtain ⟨l1, l2⟩ := hlag
      obtain ⟨per1, per2⟩ := hper
      obtain ⟨co1, co2⟩ := hcost
      clear hx1 hy1 hx2 hy2
      refine wpIn_wide.2 ?_
      go_upto_region 3 with fail
      refine name_world fun W1 hW1 => ?_
      have HM1 : Hid (W1.heap[wr.heap.size]? = some (.cells #[.int .u8 x0, .int .i64 x1, .int .i64 x2, .int .i64 x3, .int .i64 x4, .int .i64 x5, .int .i64 x6, .int .i64 x7, .int .i64 x8, .int .i64 x9] 43 (0, 0))) := Lib.hid (by rw [hW1]; exact heap_alloc_new wr _)
      have HB1 : Hid (Below wr.heap.size wr W1) := Lib.hid (by rw [hW1]; exact (Below.refl _ _).alloc (Nat.le_refl _) _)
      clear hW1 g0 g1 g2 g3 g4 g5 g6 g7 g8 g9
      have HC1 := Lib.hid (box_keep HD1.out HB1.out)
      have HP1 := Lib.hid (box_keep HD2.out HB1.out)
      obtain ⟨mx1, my1⟩ := box_rules HM1.out
      obtain ⟨cx1, cy1⟩ := box_rules HC1.out
      obtain ⟨px1, py1⟩ := box_rules HP1.out
      have sB1 := HB1.out.size
      by_cases hp : p < x1
      · have HS := Lib.hid (HYs.out hp)
        rw [HUT.out] at HS
        have hp1 : decide (x1 ≤ p) = false := by simp; omega
        clear HYs HNo HUT
        go_wp2
        go_big_quiet (fail)
        go_wp2_with fail
        refine (f2.out (W1.drewN _) HC1.out).mono ?_
        rintro e W3 ⟨rfl, hb3⟩
        have HB3 := Lib.hid (HB1.out.trans ((undrewN hb3).mono sB1))
        have HM3 := Lib.hid (box_keep HM1.out (undrewN hb3))
        have HC3 := Lib.hid (box_keep HC1.out (undrewN hb3))
        have HP3 := Lib.hid (box_keep HP1.out (undrewN hb3))
        clear hb3 mx1 my1 cx1 cy1 px1 py1
        obtain ⟨mx3, my3⟩ := box_rules HM3.out
        obtain ⟨cx3, cy3⟩ := box_rules HC3.out
        obtain ⟨px3, py3⟩ := box_rules HP3.out
        have lm3 := box_lt HM3.out
        have lc3 := box_lt HC3.out
        have lp3 := box_lt HP3.out
        by_cases hm : 1 < x2 - lg
        · have HS2 : Hid (urgL mn sw ts p (k + 1) = urgL mn sw ts p k ++ [⟨x2, lg, x2 - lg, x5 + sw⟩]) := Lib.hid (by rw [HS.out, show max 1 (x2 - lg) = x2 - lg by omega])
          clear HS
          go_wp2_with fail
          refine (wpIn_wide (n := 8)).1 ?_
          refine name_worldIn fun W4 hW4 => ?_
          have HV4 : Hid (W4.heap[W3.heap.size]? = some (.cells #[.int .i64 x2, .int .i64 lg, .int .i64 ((x2 - lg))] 107 (0, 0))) := Lib.hid (by
            rw [hW4]
            repeat (first | ((with_reducible refine heap_new_at _ ?_); focus (first | (with_reducible rfl) | (simp; done))) | (with_reducible refine box_alloc ?_ _)))
          have HB4 : Hid (Below W3.heap.size W3 W4) := Lib.hid (by rw [hW4]; exact (Below.refl _ _).alloc (Nat.le_refl _) _)
          clear hW4 mx3 my3 cx3 cy3 px3 py3
          have HM4 := Lib.hid (box_keep HM3.out HB4.out)
          have HC4 := Lib.hid (box_keep HC3.out HB4.out)
          have HP4 := Lib.hid (box_keep HP3.out HB4.out)
          obtain ⟨vx4, vy4⟩ := box_rules HV4.out
          obtain ⟨mx4, my4⟩ := box_rules HM4.out
          obtain ⟨cx4, cy4⟩ := box_rules HC4.out
          obtain ⟨px4, py4⟩ := box_rules HP4.out
          have HBB := Lib.hid (HB3.out.trans (HB4.out.mono HB3.out.size))
          have e1 : IntKind.i64.wrap (x5 + sw) = x5 + sw := IntWalk.i64_in _ (by omega)
          obtain ⟨fn, tmps, assign, body, hy, hR⟩ := HY.out (urgL mn sw ts p k) ⟨x2, lg, (x2 - lg), x5 + sw⟩ W4.drew (HJ.out _ _ _ none Hj.out (below_grown (show Below wr.heap.size wr W4.drew from HBB.out.drew)) (fun _ h => by cases h)) HL.out
          unfold ldv at hy
          dsimp only at hy
          have HR := Lib.hid hR
          clear hR
          refine wide_still_tail 11 (by kernel_rfl) (by kernel_rfl) (by kernel_rfl) ?_
          simp only [List.take_succ_cons, List.take_zero, List.drop_succ_cons, List.drop_zero]
          repeat still_step
          refine wpStill_nil ?_
          clear e1
          gi_wp2_with fail
          refine HR.out.mono ?_
          rintro e W5 (⟨rfl, hJ4, hk4⟩ | ⟨rfl, hJx4⟩)
          · have HJ4 := Lib.hid hJ4; have HK4 := Lib.hid hk4
            clear hJ4 hk4
            have HBd := Lib.hid (show Below wr.heap.size wr W4.drew from HBB.out.drew)
            gi_wp2
            go_wp2
            refine ⟨⟨k + 1, by omega, by go_num, by rw [HS2.out]; exact HJ4.out, (HK.out.call HBd.out sa).trans HK4.out, Nat.le_trans hs (Nat.le_trans HBd.out.size HK4.out.below.size)⟩, ?_⟩
            simp [intOf]; omega
          · have HJ4 := Lib.hid hJx4
            clear hJx4
            gi_wp2
            go_wp2
            refine bodyPost_ret (results_none rfl _ _ _) rfl ?_
            exact ⟨⟨_, rfl⟩, .inr ⟨_, HP.out, by rw [HS2.out]; exact HJ4.out⟩⟩
        · have HS2 : Hid (urgL mn sw ts p (k + 1) = urgL mn sw ts p k ++ [⟨x2, lg, 1, x5 + sw⟩]) := Lib.hid (by rw [HS.out, show max 1 (x2 - lg) = 1 by omega])
          clear HS
          go_wp2_with fail
          refine (wpIn_wide (n := 8)).1 ?_
          refine name_worldIn fun W4 hW4 => ?_
          have HV4 : Hid (W4.heap[W3.heap.size]? = some (.cells #[.int .i64 x2, .int .i64 lg, .int .i64 (1)] 107 (0, 0))) := Lib.hid (by
            rw [hW4]
            repeat (first | ((with_reducible refine heap_new_at _ ?_); focus (first | (with_reducible rfl) | (simp; done))) | (with_reducible refine box_alloc ?_ _)))
          have HB4 : Hid (Below W3.heap.size W3 W4) := Lib.hid (by rw [hW4]; exact (Below.refl _ _).alloc (Nat.le_refl _) _)
          clear hW4 mx3 my3 cx3 cy3 px3 py3
          have HM4 := Lib.hid (box_keep HM3.out HB4.out)
          have HC4 := Lib.hid (box_keep HC3.out HB4.out)
          have HP4 := Lib.hid (box_keep HP3.out HB4.out)
          obtain ⟨vx4, vy4⟩ := box_rules HV4.out
          obtain ⟨mx4, my4⟩ := box_rules HM4.out
          obtain ⟨cx4, cy4⟩ := box_rules HC4.out
          obtain ⟨px4, py4⟩ := box_rules HP4.out
          have HBB := Lib.hid (HB3.out.trans (HB4.out.mono HB3.out.size))
          have e1 : IntKind.i64.wrap (x5 + sw) = x5 + sw := IntWalk.i64_in _ (by omega)
          obtain ⟨fn, tmps, assign, body, hy, hR⟩ := HY.out (urgL mn sw ts p k) ⟨x2, lg, 1, x5 + sw⟩ W4.drew (HJ.out _ _ _ none Hj.out (below_grown (show Below wr.heap.size wr W4.drew from HBB.out.drew)) (fun _ h => by cases h)) HL.out
          unfold ldv at hy
          dsimp only at hy
          have HR := Lib.hid hR
          clear hR
          refine wide_still_tail 11 (by kernel_rfl) (by kernel_rfl) (by kernel_rfl) ?_
          simp only [List.take_succ_cons, List.take_zero, List.drop_succ_cons, List.drop_zero]
          repeat still_step
          refine wpStill_nil ?_
          clear e1
          gi_wp2_with fail
          refine HR.out.mono ?_
          rintro e W5 (⟨rfl, hJ4, hk4⟩ | ⟨rfl, hJx4⟩)
          · have HJ4 := Lib.hid hJ4; have HK4 := Lib.hid hk4
            clear hJ4 hk4
            have HBd := Lib.hid (show Below wr.heap.size wr W4.drew from HBB.out.drew)
            gi_wp2
            go_wp2
            refine ⟨⟨k + 1, by omega, by go_num, by rw [HS2.out]; exact HJ4.out, (HK.out.call HBd.out sa).trans HK4.out, Nat.le_trans hs (Nat.le_trans HBd.out.size HK4.out.below.size)⟩, ?_⟩
            simp [intOf]; omega
          · have HJ4 := Lib.hid hJx4
            clear hJx4
            gi_wp2
            go_wp2
            refine bodyPost_ret (results_none rfl _ _ _) rfl ?_
            exact ⟨⟨_, rfl⟩, .inr ⟨_, HP.out, by rw [HS2.out]; exact HJ4.out⟩⟩
      · have HS := Lib.hid (HNo.out hp)
        have hp1 : decide (x1 ≤ p) = true := by simp; omega
        clear HYs HNo HUT
        go_wp2
        go_big_quiet (fail)
        go_wp2
        have HB2 := Lib.hid (bdrewN HB1.out nq)
        refine ⟨⟨k + 1, by omega, by go_num, by rw [HS.out]; exact HJ.out _ _ _ none Hj.out (below_grown HB2.out) (fun _ h => by cases h), HK.out.call HB2.out sa, Nat.le_trans hs HB2.out.size⟩, ?_⟩
        simp [intOf]; omega
    · obtain rfl : k = ts.length := by omega
      gi_wp2
      go_end0
      exact ⟨⟨_, rfl⟩, .inl ⟨_, rfl, Hj.out⟩⟩
end Go.Proofs.YtgampofpabllbaaGreat

/- vergeref06: the walk of Check. Conditions: a word below 2^64, lists that read. -/
import Derived.Test.YtbhjkfeonhddlaaDoorIntcL
import Derived.BigQuiet
namespace Go.Proofs.YtbhjkfeonhddlaaDoor
open Go.RowKit Go.Shelf

theorem addr_add0 (a : Addr) : a.add 0 = a := by
  unfold Addr.add
  split <;> simp_all
theorem bI_mem {b k : Nat} (hk : k < (bI b 64).length) : ∃ i : Nat, i < 64 ∧ b.testBit i = true ∧ (bI b 64).getD k 0 = (i : Int) := by
  have h : (bI b 64)[k] ∈ bI b 64 := List.getElem_mem hk
  have e : (bI b 64).getD k 0 = (bI b 64)[k] := by simp [List.getD, hk]
  rw [e]
  unfold bI at h
  rw [List.mem_map] at h
  obtain ⟨i, hi, he⟩ := h
  obtain ⟨h1, h2⟩ := mem_bitsOf.1 hi
  exact ⟨i, h1, h2, by unfold bI; exact he.symm⟩
theorem bI_all {b i : Nat} (hi : i < 64) (hb : b.testBit i = true) : ∃ k, k < (bI b 64).length ∧ (bI b 64).getD k 0 = (i : Int) := by
  have h : (i : Int) ∈ bI b 64 := by unfold bI; exact List.mem_map.2 ⟨i, mem_bitsOf.2 ⟨hi, hb⟩, rfl⟩
  obtain ⟨k, hk, e⟩ := List.getElem_of_mem h
  exact ⟨k, hk, by simp [List.getD, hk, e]⟩

set_option maxHeartbeats 4000000 in
theorem rcheck_any (d : IC) (hf : d.Fits) (pA : Option Addr) (pc : Nat) (sA : Option Addr) (sc : Nat) (w : World) (hp : Rd w pA (d.prio.map (.int .i64))) (hs : Rd w sA (d.stack.map (.int .i64))) :
    Calls Tryd.prog 32 #[icv d pA pc sA sc] w fun e w' => (∃ z : Int, e = .returned (.int .i64 z) ∧ ((d.ok ∧ z = 0) ∨ (¬ d.ok ∧ z = 2))) ∧ Below w.heap.size w w' := by
  unfold icv
  have hpl := hf.prio
  have hsl := hf.stack
  have f1 := Lib.hid (fun n w => has_any d.p n w hf.p)
  have f2 := Lib.hid (fun n w => has_any d.e n w hf.e)
  have f3 := Lib.hid (fun n w => has_any d.r n w hf.r)
  have f4 := Lib.hid (fun n w => has_any d.g n w hf.g)
  have f5 := Lib.hid (fun w => rlist_any d.r w hf.r)
  have HK : Hid (d.ok → 1 ≤ d.prio.length ∧ d.prio.length ≤ 64 ∧ 0 ≤ d.t ∧ d.t ≤ 15) := fun h => ⟨h.len1, h.len2, h.t0, h.t1⟩
  have Hp := Lib.hid hp; clear hp
  have Hs := Lib.hid hs; clear hs
  have bW : w.heap.size ≤ w.heap.size := Nat.le_refl _
  by_cases hpre : 1 ≤ d.prio.length ∧ d.prio.length ≤ 64 ∧ 0 ≤ d.t ∧ d.t ≤ 15
  · obtain ⟨q1, q2, q3, q4⟩ := hpre
    clear HK
    go_enter Tryd.func32, Tryd.ntmps32
    go_wp2
    refine name_world fun W hW => ?_
    have HX : Hid (W.heap[w.heap.size]? = some (.cells #[.int .u64 d.p, .int .u64 d.e, .int .u64 d.r, .int .u64 d.g, .slice pA d.prio.length pc, .int .i64 d.t, .slice sA d.stack.length sc] 25 (0, 0))) := by rw [hW]; exact heap_alloc_new _ _
    have HB := Lib.hid ((Below.refl w.heap.size w).alloc bW (.cells #[.int .u64 d.p, .int .u64 d.e, .int .u64 d.r, .int .u64 d.g, .slice pA d.prio.length pc, .int .i64 d.t, .slice sA d.stack.length sc] 25))
    rw [← hW] at HB
    clear hW
    obtain ⟨xd, yd⟩ := box_rules HX.out
    have ld := box_lt HX.out
    go_loop [33] (fun i => ∃ k : Nat, k ≤ d.prio.length ∧ i = .int .i64 k ∧ Hid (∀ j, j < k → oddP (d.prio.getD j 0) = false)) (fun i => d.prio.length - (intOf i).toNat)
    case atStart => exact ⟨0, by omega, rfl, fun j hj => absurd hj (Nat.not_lt_zero _)⟩
    case round =>
      obtain ⟨k, hk, rfl, hj⟩ := hrel
      by_cases hlt : k < d.prio.length
      · obtain ⟨a, ha, h1⟩ := (Hp.out.below HB.out).int hlt
        subst ha
        have Bad : Hid (oddP (d.prio.getD k 0) = true → ¬ d.ok) := fun h h' => by rw [h'.prio k hlt] at h; cases h
        generalize hq : d.prio.getD k 0 = q at *
        have Hq := Lib.hid hq; clear hq
        by_cases h3 : q < 1
        · go_wp2
          go_ret
          exact ⟨⟨2, rfl, .inr ⟨Bad.out (by simp [oddP, h3]), rfl⟩⟩, HB.out⟩
        · by_cases h4 : 15 < q
          · go_wp2
            go_ret
            exact ⟨⟨2, rfl, .inr ⟨Bad.out (by simp [oddP, h4]), rfl⟩⟩, HB.out⟩
          · go_wp2
            go_round
            case rel =>
              refine ⟨k + 1, by omega, by go_num, fun j hj' => ?_⟩
              by_cases he : j = k
              · subst he; rw [Hq.out]; simp [oddP]; omega
              · exact hj.out j (by omega)
            case measure => simp [intOf]; omega
      · obtain rfl : k = d.prio.length := by omega
        have P1 := Lib.hid hj.out; clear hj
        go_wp2
        go_loop [5] (fun i => ∃ k : Nat, d.prio.length ≤ k ∧ k ≤ 64 ∧ i = .int .i64 k ∧ Hid (∀ j, d.prio.length ≤ j → j < k → d.p.testBit j = false ∧ d.e.testBit j = false ∧ d.r.testBit j = false ∧ d.g.testBit j = false)) (fun i => 64 - (intOf i).toNat)
        case atStart => exact ⟨d.prio.length, by omega, by omega, rfl, fun j h1 h2 => absurd h2 (by omega)⟩
        case round =>
          obtain ⟨k, hk, hk2, rfl, hj⟩ := hrel
          by_cases hlt : k < 64
          · have Bad : Hid (d.p.testBit k = true ∨ d.e.testBit k = true ∨ d.r.testBit k = true ∨ d.g.testBit k = true → ¬ d.ok) := by
              intro h h'
              obtain ⟨a, b, c, e⟩ := h'.sets k hk hlt
              rw [a, b, c, e] at h
              simp at h
            have g1 := Lib.hid (f1.out k W)
            have g2 := Lib.hid (f2.out k W)
            have g3 := Lib.hid (f3.out k W)
            have g4 := Lib.hid (f4.out k W)
            rw [hasB_nat] at g1 g2 g3 g4
            generalize h1 : d.p.testBit k = t1 at *
            generalize h2 : d.e.testBit k = t2 at *
            generalize h3 : d.r.testBit k = t3 at *
            generalize h4 : d.g.testBit k = t4 at *
            have H1 := Lib.hid h1; have H2 := Lib.hid h2; have H3 := Lib.hid h3; have H4 := Lib.hid h4
            clear h1 h2 h3 h4
            cases t1 with
            | true =>
              go_wp2_with (first | (go_at_call_of 19 d.p; refine g1.out.mono ?_; rintro e w' ⟨rfl, rfl⟩) | (go_at_call_of 19 d.e; refine g2.out.mono ?_; rintro e w' ⟨rfl, rfl⟩) | (go_at_call_of 19 d.r; refine g3.out.mono ?_; rintro e w' ⟨rfl, rfl⟩) | (go_at_call_of 19 d.g; refine g4.out.mono ?_; rintro e w' ⟨rfl, rfl⟩))
              go_ret
              exact ⟨⟨2, rfl, .inr ⟨Bad.out (by simp), rfl⟩⟩, HB.out⟩
            | false =>
              cases t2 with
              | true =>
                go_wp2_with (first | (go_at_call_of 19 d.p; refine g1.out.mono ?_; rintro e w' ⟨rfl, rfl⟩) | (go_at_call_of 19 d.e; refine g2.out.mono ?_; rintro e w' ⟨rfl, rfl⟩) | (go_at_call_of 19 d.r; refine g3.out.mono ?_; rintro e w' ⟨rfl, rfl⟩) | (go_at_call_of 19 d.g; refine g4.out.mono ?_; rintro e w' ⟨rfl, rfl⟩))
                go_ret
                exact ⟨⟨2, rfl, .inr ⟨Bad.out (by simp), rfl⟩⟩, HB.out⟩
              | false =>
                cases t3 with
                | true =>
                  go_wp2_with (first | (go_at_call_of 19 d.p; refine g1.out.mono ?_; rintro e w' ⟨rfl, rfl⟩) | (go_at_call_of 19 d.e; refine g2.out.mono ?_; rintro e w' ⟨rfl, rfl⟩) | (go_at_call_of 19 d.r; refine g3.out.mono ?_; rintro e w' ⟨rfl, rfl⟩) | (go_at_call_of 19 d.g; refine g4.out.mono ?_; rintro e w' ⟨rfl, rfl⟩))
                  go_ret
                  exact ⟨⟨2, rfl, .inr ⟨Bad.out (by simp), rfl⟩⟩, HB.out⟩
                | false =>
                  cases t4 with
                  | true =>
                    go_wp2_with (first | (go_at_call_of 19 d.p; refine g1.out.mono ?_; rintro e w' ⟨rfl, rfl⟩) | (go_at_call_of 19 d.e; refine g2.out.mono ?_; rintro e w' ⟨rfl, rfl⟩) | (go_at_call_of 19 d.r; refine g3.out.mono ?_; rintro e w' ⟨rfl, rfl⟩) | (go_at_call_of 19 d.g; refine g4.out.mono ?_; rintro e w' ⟨rfl, rfl⟩))
                    go_ret
                    exact ⟨⟨2, rfl, .inr ⟨Bad.out (by simp), rfl⟩⟩, HB.out⟩
                  | false =>
                    go_wp2_with (first | (go_at_call_of 19 d.p; refine g1.out.mono ?_; rintro e w' ⟨rfl, rfl⟩) | (go_at_call_of 19 d.e; refine g2.out.mono ?_; rintro e w' ⟨rfl, rfl⟩) | (go_at_call_of 19 d.r; refine g3.out.mono ?_; rintro e w' ⟨rfl, rfl⟩) | (go_at_call_of 19 d.g; refine g4.out.mono ?_; rintro e w' ⟨rfl, rfl⟩))
                    go_round
                    case rel =>
                      refine ⟨k + 1, by omega, by omega, by go_num, fun j ha hb => ?_⟩
                      by_cases he : j = k
                      · subst he; exact ⟨H1.out, H2.out, H3.out, H4.out⟩
                      · exact hj.out j ha (by omega)
                    case measure => simp [intOf]; omega
          · obtain rfl : k = 64 := by omega
            have P2 := Lib.hid hj.out; clear hj
            go_wp2_with fail
            refine (f5.out W).mono ?_
            rintro e w1 ⟨A, c, rfl, ho, hb⟩
            have HX1 := Lib.hid (box_keep HX.out hb)
            have HB1 := Lib.hid (HB.out.trans (hb.mono HB.out.size))
            have HL := Lib.hid (own_rd ho)
            have HM := Lib.hid (fun k hk => bI_mem (b := d.r) (k := k) hk)
            have HA := Lib.hid (fun i hi hb => bI_all (b := d.r) (i := i) hi hb)
            have hL := bI_len d.r 64
            clear ho hb
            generalize bI d.r 64 = L at *
            clear xd yd ld
            obtain ⟨xd, yd⟩ := box_rules HX1.out
            have ld := box_lt HX1.out
            go_wp2_with fail
            go_loop [77] (fun i => ∃ k : Nat, k ≤ L.length ∧ i = .int .i64 k ∧ Hid (∀ j, j < k → d.g.testBit (L.getD j 0).toNat = false)) (fun i => L.length - (intOf i).toNat)
            case atStart => exact ⟨0, by omega, rfl, fun j hj => absurd hj (Nat.not_lt_zero _)⟩
            case round =>
              obtain ⟨k, hk, rfl, hj⟩ := hrel
              by_cases hlt : k < L.length
              · obtain ⟨a, ha, h1⟩ := HL.out.int hlt
                subst ha
                obtain ⟨i, hi, hb, he⟩ := HM.out k hlt
                have He := Lib.hid he
                rw [he] at h1
                have Bad : Hid (d.g.testBit i = true → ¬ d.ok) := by
                  intro h h'
                  rw [h'.rg i hi hb] at h
                  cases h
                clear hb he
                have g4 := Lib.hid (f4.out i w1)
                rw [hasB_nat] at g4
                generalize h4 : d.g.testBit i = t4 at *
                have H4 := Lib.hid h4
                clear h4
                cases t4 with
                | true =>
                  go_wp2_with (go_at_call 19; refine g4.out.mono ?_; rintro e w' ⟨rfl, rfl⟩)
                  go_ret
                  exact ⟨⟨2, rfl, .inr ⟨Bad.out (by simp), rfl⟩⟩, HB1.out⟩
                | false =>
                  go_wp2_with (go_at_call 19; refine g4.out.mono ?_; rintro e w' ⟨rfl, rfl⟩)
                  go_round
                  case rel =>
                    refine ⟨k + 1, by omega, by go_num, fun j hb => ?_⟩
                    by_cases he : j = k
                    · subst he; rw [He.out]; exact H4.out
                    · exact hj.out j (by omega)
                  case measure => simp [intOf]; omega
              · obtain rfl : k = L.length := by omega
                have P3 : Hid (∀ i, i < 64 → d.r.testBit i = true → d.g.testBit i = false) := by
                  intro i hi hb
                  obtain ⟨k, hk, e⟩ := HA.out i hi hb
                  have := hj.out k hk
                  rwa [e] at this
                have HO : Hid ((∀ j, j < d.stack.length → d.good j) → d.ok) := fun h => ⟨q1, q2, P1.out, fun i h1 h2 => P2.out i h1 h2, P3.out, q3, q4, h⟩
                have HS := Lib.hid (Hs.out.below HB1.out)
                have HP := Lib.hid (Hp.out.below HB1.out)
                have HP1 := Lib.hid (fun k (hk : k < d.prio.length) => show 0 < d.prio.getD k 0 from by have h := P1.out k hk; unfold oddP at h; rw [Bool.or_eq_false_iff] at h; have := of_decide_eq_false h.1; omega)
                clear hj P1 P2 P3 HA HM HL
                go_wp2_with fail
                go_loopw [89] (fun i wr => ∃ k : Nat, k ≤ d.stack.length ∧ i = .int .i64 k ∧ Hid (∀ j, j < k → d.good j) ∧ Below w1.heap.size w1 wr) (fun i _ => d.stack.length - (intOf i).toNat)
                case atStart => exact ⟨0, by omega, rfl, fun j hj => absurd hj (Nat.not_lt_zero _), Below.refl _ _⟩
                case round =>
                  obtain ⟨k, hk, rfl, hj, hBw⟩ := hrel
                  have HBw := Lib.hid hBw
                  have HXw := Lib.hid (box_keep HX1.out hBw)
                  have HS2 := Lib.hid (HS.out.below hBw)
                  have HP2 := Lib.hid (HP.out.below hBw)
                  have HB2 := Lib.hid (HB1.out.trans (hBw.mono HB1.out.size))
                  clear hBw xd yd ld
                  obtain ⟨xd, yd⟩ := box_rules HXw.out
                  have ld := box_lt HXw.out
                  by_cases hlt : k < d.stack.length
                  · have bad : ¬ d.good k → ¬ d.ok := fun h h' => h (h'.stack k hlt)
                    have Bad := Lib.hid bad; clear bad
                    have Hg : Hid (d.good k ↔ 0 ≤ d.stack.getD k 0 ∧ d.stack.getD k 0 < d.prio.length ∧ d.ahead k < d.prio.getD (d.stack.getD k 0).toNat 0) := Iff.rfl
                    obtain ⟨a, ha, h1⟩ := HS2.out.int hlt
                    subst ha
                    by_cases h0 : 0 ≤ d.stack.getD k 0
                    · by_cases h2 : d.stack.getD k 0 < d.prio.length
                      · obtain ⟨m, hm⟩ := Int.eq_ofNat_of_zero_le h0
                        rw [hm] at Hg h1 h2
                        rw [Int.toNat_natCast] at Hg
                        obtain ⟨b, hb, c1⟩ := HP2.out.int (i := m) (by omega)
                        subst hb
                        have e0 : decide ((m : Int) < 0) = false := by rw [decide_eq_false_iff_not]; omega
                        have e2 : decide ((d.prio.length : Int) ≤ (m : Int)) = false := by rw [decide_eq_false_iff_not]; omega
                        have e2' : decide (d.prio.length ≤ m) = false := by rw [decide_eq_false_iff_not]; omega
                        have e2n : ¬ d.prio.length ≤ m := by omega
                        by_cases hk0 : k = 0
                        · subst hk0
                          rw [addr_add0] at h1
                          have HG := Lib.hid (Hg.out.2 ⟨by omega, h2, HP1.out m (by omega)⟩)
                          clear h0 hm
                          go_wp2
                          go_quiet (fail)
                          go_wp2
                          go_roundw
                          case rel =>
                            refine ⟨1, by omega, by go_num, fun j hb => ?_, bdrewN HBw.out _⟩
                            obtain rfl : j = 0 := by omega
                            exact HG.out
                          case measure => simp [intOf]; omega
                        · obtain ⟨j, hkj⟩ : ∃ j, k = j + 1 := ⟨k - 1, by omega⟩
                          have e3 : (0 : Int) < (k : Int) := by omega
                          have e3' : 0 < k := by omega
                          have e4 : (k : Int) - 1 = (j : Int) := by omega
                          obtain ⟨a', ha', h1'⟩ := HS2.out.int (i := j) (by omega)
                          cases ha'
                          have hgk := hj.out j (by omega)
                          obtain ⟨m', hm'⟩ := Int.eq_ofNat_of_zero_le hgk.1
                          have hlt' := hgk.2.1
                          rw [hm'] at hlt'
                          obtain ⟨b', hb', c1'⟩ := HP2.out.int (i := m') (by omega)
                          cases hb'
                          change wr.cell? _ = some (.int .i64 (d.st j)) at h1'
                          rw [hm'] at h1'
                          have Ha : Hid (d.ahead k = d.prio.getD m' 0) := by show _ = _; rw [hkj]; show d.pr (d.st j) = _; rw [hm']; rfl
                          rw [Ha.out] at Hg
                          have Hkj := Lib.hid hkj
                          clear hgk h0 hm hm' Ha hkj hk0
                          generalize d.prio.getD m' 0 = q' at *
                          generalize d.prio.getD m 0 = q at *
                          by_cases hlq : q' < q
                          · have HG := Lib.hid (Hg.out.2 ⟨by omega, h2, hlq⟩)
                            have e5 : decide (q ≤ q') = false := by rw [decide_eq_false_iff_not]; omega
                            go_wp2
                            go_quiet (fail)
                            go_wp2
                            go_roundw
                            case rel =>
                              refine ⟨k + 1, by omega, by go_num, fun j hb => ?_, bdrewN HBw.out _⟩
                              by_cases he : j = k
                              · subst he; exact HG.out
                              · exact hj.out j (by omega)
                            case measure => simp [intOf]; omega
                          · have HG := Lib.hid (Bad.out fun h => hlq (Hg.out.1 h).2.2)
                            have e5 : q ≤ q' := by omega
                            go_wp2
                            go_quiet (fail)
                            go_wp2
                            go_ret
                            exact ⟨⟨2, rfl, .inr ⟨HG.out, rfl⟩⟩, bdrewN HB2.out _⟩
                      · have HG := Lib.hid (Bad.out fun h => h2 (Hg.out.1 h).2.1)
                        clear Hg
                        generalize d.stack.getD k 0 = n at *
                        have e1 : decide (n < 0) = false := by rw [decide_eq_false_iff_not]; omega
                        have e2 : (d.prio.length : Int) ≤ n := by omega
                        clear h0 h2
                        go_wp2
                        go_quiet (fail)
                        go_wp2
                        go_ret
                        exact ⟨⟨2, rfl, .inr ⟨HG.out, rfl⟩⟩, bdrewN HB2.out _⟩
                    · have HG := Lib.hid (Bad.out fun h => h0 (Hg.out.1 h).1)
                      clear Hg
                      generalize d.stack.getD k 0 = n at *
                      have e1 : n < 0 := by omega
                      clear h0
                      go_wp2
                      go_quiet (fail)
                      go_wp2
                      go_ret
                      exact ⟨⟨2, rfl, .inr ⟨HG.out, rfl⟩⟩, bdrewN HB2.out _⟩
                  · obtain rfl : k = d.stack.length := by omega
                    go_wp2
                    go_ret
                    exact ⟨⟨0, rfl, .inl ⟨HO.out hj.out, rfl⟩⟩, HB2.out⟩
  · have HN : Hid (¬ d.ok) := fun h => hpre (HK.out h)
    have Hpre := Lib.hid hpre
    clear HK hpre f1 f2 f3 f4 f5
    go_enter Tryd.func32, Tryd.ntmps32
    go_wp2
    all_goals first
      | (go_ret; exact ⟨⟨2, rfl, .inr ⟨HN.out, rfl⟩⟩, (Below.refl _ _).alloc bW _⟩)
      | skip
    all_goals
      exact absurd ⟨by omega, by omega, by omega, by omega⟩ Hpre.out
end Go.Proofs.YtbhjkfeonhddlaaDoor

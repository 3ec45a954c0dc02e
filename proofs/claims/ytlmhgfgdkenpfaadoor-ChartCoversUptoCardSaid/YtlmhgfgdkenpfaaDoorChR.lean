/- Package vergelaw39: the walk of ChartCovers. Conditions: lists that read, the tables as laid. -/
import Derived.Test.YtlmhgfgdkenpfaaDoorChP
import Derived.Test.YtlmhgfgdkenpfaaDoorChQ
namespace Go.Proofs.YtlmhgfgdkenpfaaDoor
open Go.RowKit Go.Shelf
attribute [local go_sem] Oper.semAt_some

theorem sK_le (pre : List Rn) : ∀ l : List Rn, (∀ x ∈ l, x.ff < x.tt) → 0 ≤ sK l pre ∧ sK l pre ≤ allD l
  | [], _ => ⟨Int.le_refl _, Int.le_refl _⟩
  | x :: l, h => by
    have ih := sK_le pre l (fun z hz => h z (by simp [hz]))
    have hx := h x (by simp)
    show 0 ≤ (if hasK pre x.kind x.who then x.tt - x.ff else 0) + sK l pre ∧ (if hasK pre x.kind x.who then x.tt - x.ff else 0) + sK l pre ≤ (x.tt - x.ff) + allD l
    split <;> omega
theorem cv_pos : ∀ {l : List Rn} {s e : Int}, Cv l s e → ∀ x ∈ l, x.ff < x.tt
  | [], _, _, _, x, hx => by cases hx
  | y :: l, s, e, h, x, hx => by
    obtain ⟨_, h2, h3⟩ := cv_tail h
    rcases List.mem_cons.1 hx with rfl | hx
    · exact h2
    · exact cv_pos h3 x hx
theorem take_at {α : Type} {d : α} : ∀ {l : List α} {k : Nat}, k < l.length → l.take (k + 1) = l.take k ++ [l.getD k d]
  | x :: l, 0, _ => rfl
  | x :: l, k + 1, h => by
    show x :: l.take (k + 1) = (x :: l.take k) ++ [l.getD k d]
    rw [take_at (l := l) (k := k) (d := d) (by simpa using h)]
    rfl
theorem rg_le {ms : List Mk} {start now : Int} (h : rgB ms start now = true) : 0 ≤ start ∧ now ≤ 4503599627370496 ∧ start ≤ now ∧ Cv (runsL ms start now) start now := by
  unfold rgB at h
  obtain ⟨h1, h2, h3, h4⟩ := of_decide_eq_true h
  unfold tmB at h1 h2
  have a1 := of_decide_eq_true h1
  have a2 := of_decide_eq_true h2
  exact ⟨by omega, by omega, h3, runs_cv h3 h4⟩
theorem hasF {a b c : Bool} (h : false = !a) (h2 : b = (a || c)) : false = !b := by
  subst h2
  cases a
  · cases h
  · rfl
set_option maxHeartbeats 8000000 in
set_option maxRecDepth 100000 in
theorem chartCovers_any (ms : List Mk) (A : Option Addr) (c : Nat) (start now t : Int) (w : World) (hl : ms.length ≤ 1048576) (hr : Rd w A (ms.flatMap mkc))
    (ht1 : Lib.TabIs Tryd.prog w "verge/chart.letters" .u8 [105, 116, 98, 108]) (ht2 : Lib.TabIs Tryd.prog w "internal/strconv.uint64pow10" .u64 Lib.pow10Tab) :
    Calls Tryd.prog 5 #[.slice A ms.length c, .int .i64 start, .int .i64 now, .int .i64 t] w fun e w' => e = .returned (.bool true) ∧ Below w.heap.size w w' := by
  have HA := Lib.hid hr
  have f0 := Lib.hid (lives39_any w ht1 ht2)
  have f1 := Lib.hid (fun X (h : Below w.heap.size w X) => runs_anyC ms start now A c X hl (hr.below h))
  clear ht1 ht2 hr
  unfold RetRunsC at f1
  have HLn := Lib.hid (runsO_len ms start now)
  obtain ⟨R, hR⟩ : ∃ R : Bool, rgB ms start now = R := ⟨_, rfl⟩
  cases R with
  | false =>
    have h0 : runsO ms start now = [] := by unfold runsO; rw [hR]; rfl
    rw [h0, hR] at f1
    simp only [Bool.false_eq_true, if_false, List.length_nil] at f1
    clear HLn h0 hR
    go_enter Tryd.func5, Tryd.ntmps5
    go_wp2_with (first
      | (go_at_call 8; with_reducible refine f0.out.mono ?_; rintro e w1 ⟨rfl, hb1⟩; have HB1 := Lib.hid hb1; clear hb1)
      | (go_at_call 6; with_reducible refine (f1.out _ HB1.out).mono ?_; rintro e w2 ⟨P, d, rfl, -, hb2, -⟩; have HB2 := Lib.hid (HB1.out.trans (hb2.mono HB1.out.size)); clear hb2))
    go_ret
    exact ⟨rfl, HB2.out⟩
  | true =>
    obtain ⟨hs0, hn0, hsn, hcv⟩ := rg_le hR
    have h0 : runsO ms start now = runsL ms start now := by unfold runsO; rw [hR]; rfl
    rw [h0] at f1 HLn
    rw [hR] at f1
    simp only [if_true] at f1
    clear h0 hR
    have HC := Lib.hid hcv
    have HCt := Lib.hid (show Cv ((runsL ms start now).drop 0) start now from hcv)
    clear hcv
    have HD : Hid (0 ≤ start ∧ now ≤ 4503599627370496 ∧ start ≤ now) := Lib.hid ⟨hs0, hn0, hsn⟩
    clear hs0 hn0 hsn
    have HLn2 := Lib.hid (show (runsL ms start now).length ≤ 1048577 by have := HLn.out; omega)
    clear HLn
    generalize runsL ms start now = L at *
    have hL := HLn2.out
    go_enter Tryd.func5, Tryd.ntmps5
    go_upto_region 3 with (go_at_call 8; with_reducible refine f0.out.mono ?_; rintro e w1 ⟨rfl, hb1⟩; have HB1 := Lib.hid hb1; clear hb1)
    clear f0
    go_upto_region 4 with (go_at_call 6; with_reducible refine (f1.out _ HB1.out).mono ?_; rintro e w2 ⟨P, d, rfl, hr2, hb2, hcap⟩; have HI2 : Hid (AsI w P L w2) := Lib.hid ⟨hr2, HB1.out.trans (hb2.mono HB1.out.size)⟩; clear hb2 hr2)
    clear f1 HB1 HA
    go_upto_region 9 with fail
    go_loopw [11, 12, 37] (fun s p i wr => ∃ (k : Nat) (s' p' : Int), k ≤ L.length ∧ i = .int .i64 k ∧ s = .int .i64 s' ∧ p = .int .i64 p' ∧ Hid (Cv (L.drop k) s' now) ∧ Hid (p' = sK L (L.take k)) ∧ Hid (AsI w P L wr)) (fun _ _ i _ => L.length - (intOf i).toNat)
    case atStart => exact ⟨0, start, 0, by omega, rfl, rfl, rfl, HCt, Lib.hid (sK_nil L).symm, HI2⟩
    case round =>
      obtain ⟨k, s, p, hk, rfl, rfl, rfl, HCk, HS, HI⟩ := hrel
      by_cases hlt : k < L.length
      · obtain ⟨a, x, rfl, hx, g0, g1, g2, g3⟩ := HI.out.r.rnAt hlt
        have HK := HCk.out
        rw [drop_at (d := rn0) hlt, hx] at HK
        obtain ⟨hf, hlt2, HK3⟩ := cv_tail HK
        have HC1 := Lib.hid HK3
        have HX := Lib.hid hx
        clear HK HK3 HCk hx
        obtain ⟨x0, x1, x2, x3⟩ := x
        dsimp only at *
        subst hf
        go_upto_region 11 with fail
        refine name_world fun V hV => ?_
        have HD1 : Hid (V.heap[wr.heap.size]? = some (.cells #[.int .u8 x0, .int .i64 x1, .int .i64 x2, .int .i64 x3] 33 (0, 0))) := Lib.hid (by rw [hV]; exact heap_alloc_new _ _)
        have hbV : Below wr.heap.size wr V := by rw [hV]; exact (Below.refl _ _).alloc (Nat.le_refl _) _
        have HIV := Lib.hid (HI.out.next hbV)
        have HSh := Lib.hid (show hasK (L.take k) x0 x1 = hasK (L.take k) x0 x1 from rfl)
        clear hV hbV HI g0 g1 g2 g3
        generalize wr.heap.size = D at *
        obtain ⟨xx, xy⟩ := box_rules HD1.out
        have lx := box_lt HD1.out
        have n0 : (x2 != x2) = false := by simp
        have n1 : decide (x3 ≤ x2) = false := by simp; omega
        have hk1 : (k : Int) < (L.length : Int) := by omega
        have hkd : k ≤ d := by omega
        have hd5 := Lib.hid (Nat.eq_zero_or_pos k)
        rcases hd5.out with hk0 | hk0
        · have d5 : decide ((0 : Int) < (k : Int)) = false := by simp; omega
          have d6 : decide (0 < k) = false := by simp; omega
          clear hk0
          go_big_quiet (fail)
          clear d5 d6
          go_upto_region 16 with fail
          go_loopw [15, 85] (fun b ix wi => ∃ (j : Nat) (b' : Bool), j ≤ k ∧ ix = .int .i64 j ∧ b = .bool b' ∧ Hid (b' = !hasK (L.take j) x0 x1) ∧ Hid (AsI w (some a) L wi) ∧ Hid (wi.heap[D]? = some (.cells #[.int .u8 x0, .int .i64 x1, .int .i64 x2, .int .i64 x3] 33 (0, 0)))) (fun _ ix _ => k - (intOf ix).toNat)
          case atStart => exact ⟨0, true, by omega, rfl, rfl, Lib.hid rfl, Lib.hid ⟨HIV.out.r, bdrewN HIV.out.b _⟩, HD1⟩
          case round =>
            obtain ⟨j, b, hj, rfl, rfl, HB, HIj, HDj⟩ := hrel
            by_cases hjk : j < k
            · obtain ⟨a', y, ha', hy, y0, y1, y2, y3⟩ := HIj.out.r.rnAt (k := j) (by omega)
              cases ha'
              have HTk := Lib.hid (show hasK (L.take (j + 1)) x0 x1 = (hasK (L.take j) x0 x1 || decide (y.kind = x0 ∧ y.who = x1)) by rw [take_at (d := rn0) (by omega), hasK_snoc, hy])
              clear hy
              obtain ⟨q0, q1, q2, q3⟩ := y
              dsimp only at *
              go_upto_region 18 with fail
              refine name_world fun U hU => ?_
              have hbU : Below wr.heap.size wr U := by rw [hU]; exact (Below.refl _ _).alloc (Nat.le_refl _) _
              have HIU := Lib.hid (HIj.out.next hbU)
              have hDU := box_keep HDj.out hbU
              have hEU : U.heap[wr.heap.size]? = some (.cells #[.int .u8 q0, .int .i64 q1, .int .i64 q2, .int .i64 q3] 33 (0, 0)) := by rw [hU]; exact heap_alloc_new _ _
              have HDU := Lib.hid hDU
              clear hU hbU HIj HDj y0 y1 y2 y3
              obtain ⟨dx, dy⟩ := box_rules hDU
              obtain ⟨ex, ey⟩ := box_rules hEU
              have ld := box_lt hDU
              have le := box_lt hEU
              clear hDU hEU
              generalize wr.heap.size = E at *
              cases b with
              | false =>
                have HN := Lib.hid (show false = !hasK (L.take (j + 1)) x0 x1 from hasF HB.out HTk.out)
                go_wp2
                refine ⟨⟨j + 1, _, by omega, by go_num, rfl, HN, HIU, HDU⟩, ?_⟩
                simp [intOf]; omega
              | true =>
                by_cases r0 : q0 = x0
                · by_cases r1 : q1 = x1
                  · have t0 : (q0 != x0) = false := by simpa using r0
                    have t1 : (q1 != x1) = false := by simpa using r1
                    have HN := Lib.hid (show false = !hasK (L.take (j + 1)) x0 x1 by rw [HTk.out, decide_eq_true ⟨r0, r1⟩]; simp)
                    clear r0 r1
                    go_wp2
                    refine ⟨⟨j + 1, _, by omega, by go_num, rfl, HN, HIU, HDU⟩, ?_⟩
                    simp [intOf]; omega
                  · have t0 : (q0 != x0) = false := by simpa using r0
                    have t1 : (q1 != x1) = true := by simpa using r1
                    have HN := Lib.hid (show true = !hasK (L.take (j + 1)) x0 x1 by rw [HTk.out, decide_eq_false (fun h => r1 h.2), Bool.or_false]; exact HB.out)
                    clear r0 r1
                    go_wp2
                    refine ⟨⟨j + 1, _, by omega, by go_num, rfl, HN, HIU, HDU⟩, ?_⟩
                    simp [intOf]; omega
                · have t0 : (q0 != x0) = true := by simpa using r0
                  have HN := Lib.hid (show true = !hasK (L.take (j + 1)) x0 x1 by rw [HTk.out, decide_eq_false (fun h => r0 h.1), Bool.or_false]; exact HB.out)
                  clear r0
                  go_wp2
                  refine ⟨⟨j + 1, _, by omega, by go_num, rfl, HN, HIU, HDU⟩, ?_⟩
                  simp [intOf]; omega
            · obtain rfl : j = k := by omega
              obtain ⟨dx, dy⟩ := box_rules HDj.out
              have ld := box_lt HDj.out
              clear HIV HD1
              have HTk := Lib.hid (take_at (d := rn0) hlt)
              cases b with
              | false =>
                have HN := Lib.hid (show p = sK L (L.take (j + 1)) by rw [HS.out, HTk.out, HX.out]; exact (sK_old (y := ⟨x0, x1, x2, x3⟩) (by have := HB.out; simpa using this.symm) L).symm)
                clear HB HS HX HTk HDj
                go_wp2
                refine ⟨⟨j + 1, _, _, by omega, by go_num, rfl, rfl, HC1, HN, HIj⟩, ?_⟩
                simp [intOf]; omega
              | true =>
                have hk0 : hasK (L.take j) x0 x1 = false := by have := HB.out; simpa using this.symm
                have hN : sK L (L.take (j + 1)) = p + shR L x0 x1 := by rw [HTk.out, HX.out, HS.out]; exact sK_new (y := ⟨x0, x1, x2, x3⟩) hk0 L (cv_pos HC.out)
                have hb1 := sK_le (L.take j) L (cv_pos HC.out)
                have hb2 := sK_le (L.take (j + 1)) L (cv_pos HC.out)
                have hb3 := (cv_all HC.out).1
                have hb4 := shR_le x0 x1 HC.out
                have hb5 := HD.out
                rw [hN] at hb2
                have HN := Lib.hid (show wrap64 (p + shR L x0 x1) = sK L (L.take (j + 1)) by rw [hN, Go.IntWalk.wrap64_in _ (by omega)])
                have fS := Lib.hid (fun X (h : AsI w (some a) L X) => share_any x0 x1 L (some a) d X (by omega) h.r)
                rw [shG_cv x0 x1 HC.out (Int.le_refl _) (by omega), Int.zero_add] at fS
                clear HB HS HX HTk HDj hk0 hN hb1 hb2 hb3 hb4 hb5
                generalize shR L x0 x1 = sh at *
                go_wp2_with (go_at_call 16; with_reducible refine (fS.out _ HIj.out).mono ?_; rintro e w7 ⟨rfl, hb7⟩; have HI7 := Lib.hid (HIj.out.next hb7); clear hb7)
                refine ⟨⟨j + 1, _, _, by omega, by go_num, rfl, rfl, HC1, HN, HI7⟩, ?_⟩
                simp [intOf]; omega
        · obtain ⟨k1, hk1e⟩ : ∃ j, k = j + 1 := ⟨k - 1, by omega⟩
          obtain ⟨a', y, ha', hy, y0, y1, y2, y3⟩ := HIV.out.r.rnAt (k := k1) (by omega)
          cases ha'
          have hdif := HC.out.dif k1 (by omega)
          rw [hy, ← hk1e, HX.out] at hdif
          obtain ⟨q0, q1, q2, q3⟩ := y
          dsimp only at *
          have d5 : decide ((0 : Int) < (k : Int)) = true := by simp; omega
          have d6 : decide (0 < k) = true := by simp; omega
          have e1 : IntKind.i64.wrap ((k : Int) - 1) = (k1 : Int) := by rw [IntWalk.i64_in _ (by omega)]; omega
          have l5 : (k1 : Int) < (L.length : Int) := by omega
          have l6 : (0 : Int) ≤ (k1 : Int) := by omega
          have hlt5 : k1 < L.length := by omega
          clear hk1e hk0 hy y2 y3
          by_cases s0 : q0 = x0
          · have s1 : q1 ≠ x1 := fun e => hdif ⟨s0, e⟩
            have t0 : (q0 == x0) = true := by simpa using s0
            have t1 : (q1 == x1) = false := by simpa using s1
            clear hdif s1 s0
            go_big_quiet (fail)
            clear d5 d6 e1 l5 l6 hlt5 t0 t1 y0 y1
            go_upto_region 16 with fail
            go_loopw [15, 85] (fun b ix wi => ∃ (j : Nat) (b' : Bool), j ≤ k ∧ ix = .int .i64 j ∧ b = .bool b' ∧ Hid (b' = !hasK (L.take j) x0 x1) ∧ Hid (AsI w (some a) L wi) ∧ Hid (wi.heap[D]? = some (.cells #[.int .u8 x0, .int .i64 x1, .int .i64 x2, .int .i64 x3] 33 (0, 0)))) (fun _ ix _ => k - (intOf ix).toNat)
            case atStart => exact ⟨0, true, by omega, rfl, rfl, Lib.hid rfl, Lib.hid ⟨HIV.out.r, bdrewN HIV.out.b _⟩, HD1⟩
            case round =>
              obtain ⟨j, b, hj, rfl, rfl, HB, HIj, HDj⟩ := hrel
              by_cases hjk : j < k
              · obtain ⟨a', y, ha', hy, y0, y1, y2, y3⟩ := HIj.out.r.rnAt (k := j) (by omega)
                cases ha'
                have HTk := Lib.hid (show hasK (L.take (j + 1)) x0 x1 = (hasK (L.take j) x0 x1 || decide (y.kind = x0 ∧ y.who = x1)) by rw [take_at (d := rn0) (by omega), hasK_snoc, hy])
                clear hy
                obtain ⟨q0, q1, q2, q3⟩ := y
                dsimp only at *
                go_upto_region 18 with fail
                refine name_world fun U hU => ?_
                have hbU : Below wr.heap.size wr U := by rw [hU]; exact (Below.refl _ _).alloc (Nat.le_refl _) _
                have HIU := Lib.hid (HIj.out.next hbU)
                have hDU := box_keep HDj.out hbU
                have hEU : U.heap[wr.heap.size]? = some (.cells #[.int .u8 q0, .int .i64 q1, .int .i64 q2, .int .i64 q3] 33 (0, 0)) := by rw [hU]; exact heap_alloc_new _ _
                have HDU := Lib.hid hDU
                clear hU hbU HIj HDj y0 y1 y2 y3
                obtain ⟨dx, dy⟩ := box_rules hDU
                obtain ⟨ex, ey⟩ := box_rules hEU
                have ld := box_lt hDU
                have le := box_lt hEU
                clear hDU hEU
                generalize wr.heap.size = E at *
                cases b with
                | false =>
                  have HN := Lib.hid (show false = !hasK (L.take (j + 1)) x0 x1 from hasF HB.out HTk.out)
                  go_wp2
                  refine ⟨⟨j + 1, _, by omega, by go_num, rfl, HN, HIU, HDU⟩, ?_⟩
                  simp [intOf]; omega
                | true =>
                  by_cases r0 : q0 = x0
                  · by_cases r1 : q1 = x1
                    · have t0 : (q0 != x0) = false := by simpa using r0
                      have t1 : (q1 != x1) = false := by simpa using r1
                      have HN := Lib.hid (show false = !hasK (L.take (j + 1)) x0 x1 by rw [HTk.out, decide_eq_true ⟨r0, r1⟩]; simp)
                      clear r0 r1
                      go_wp2
                      refine ⟨⟨j + 1, _, by omega, by go_num, rfl, HN, HIU, HDU⟩, ?_⟩
                      simp [intOf]; omega
                    · have t0 : (q0 != x0) = false := by simpa using r0
                      have t1 : (q1 != x1) = true := by simpa using r1
                      have HN := Lib.hid (show true = !hasK (L.take (j + 1)) x0 x1 by rw [HTk.out, decide_eq_false (fun h => r1 h.2), Bool.or_false]; exact HB.out)
                      clear r0 r1
                      go_wp2
                      refine ⟨⟨j + 1, _, by omega, by go_num, rfl, HN, HIU, HDU⟩, ?_⟩
                      simp [intOf]; omega
                  · have t0 : (q0 != x0) = true := by simpa using r0
                    have HN := Lib.hid (show true = !hasK (L.take (j + 1)) x0 x1 by rw [HTk.out, decide_eq_false (fun h => r0 h.1), Bool.or_false]; exact HB.out)
                    clear r0
                    go_wp2
                    refine ⟨⟨j + 1, _, by omega, by go_num, rfl, HN, HIU, HDU⟩, ?_⟩
                    simp [intOf]; omega
              · obtain rfl : j = k := by omega
                obtain ⟨dx, dy⟩ := box_rules HDj.out
                have ld := box_lt HDj.out
                clear HIV HD1
                have HTk := Lib.hid (take_at (d := rn0) hlt)
                cases b with
                | false =>
                  have HN := Lib.hid (show p = sK L (L.take (j + 1)) by rw [HS.out, HTk.out, HX.out]; exact (sK_old (y := ⟨x0, x1, x2, x3⟩) (by have := HB.out; simpa using this.symm) L).symm)
                  clear HB HS HX HTk HDj
                  go_wp2
                  refine ⟨⟨j + 1, _, _, by omega, by go_num, rfl, rfl, HC1, HN, HIj⟩, ?_⟩
                  simp [intOf]; omega
                | true =>
                  have hk0 : hasK (L.take j) x0 x1 = false := by have := HB.out; simpa using this.symm
                  have hN : sK L (L.take (j + 1)) = p + shR L x0 x1 := by rw [HTk.out, HX.out, HS.out]; exact sK_new (y := ⟨x0, x1, x2, x3⟩) hk0 L (cv_pos HC.out)
                  have hb1 := sK_le (L.take j) L (cv_pos HC.out)
                  have hb2 := sK_le (L.take (j + 1)) L (cv_pos HC.out)
                  have hb3 := (cv_all HC.out).1
                  have hb4 := shR_le x0 x1 HC.out
                  have hb5 := HD.out
                  rw [hN] at hb2
                  have HN := Lib.hid (show wrap64 (p + shR L x0 x1) = sK L (L.take (j + 1)) by rw [hN, Go.IntWalk.wrap64_in _ (by omega)])
                  have fS := Lib.hid (fun X (h : AsI w (some a) L X) => share_any x0 x1 L (some a) d X (by omega) h.r)
                  rw [shG_cv x0 x1 HC.out (Int.le_refl _) (by omega), Int.zero_add] at fS
                  clear HB HS HX HTk HDj hk0 hN hb1 hb2 hb3 hb4 hb5
                  generalize shR L x0 x1 = sh at *
                  go_wp2_with (go_at_call 16; with_reducible refine (fS.out _ HIj.out).mono ?_; rintro e w7 ⟨rfl, hb7⟩; have HI7 := Lib.hid (HIj.out.next hb7); clear hb7)
                  refine ⟨⟨j + 1, _, _, by omega, by go_num, rfl, rfl, HC1, HN, HI7⟩, ?_⟩
                  simp [intOf]; omega
          · have t0 : (q0 == x0) = false := by simpa using s0
            clear hdif s0
            go_big_quiet (fail)
            clear d5 d6 e1 l5 l6 hlt5 t0 y0 y1
            go_upto_region 16 with fail
            go_loopw [15, 85] (fun b ix wi => ∃ (j : Nat) (b' : Bool), j ≤ k ∧ ix = .int .i64 j ∧ b = .bool b' ∧ Hid (b' = !hasK (L.take j) x0 x1) ∧ Hid (AsI w (some a) L wi) ∧ Hid (wi.heap[D]? = some (.cells #[.int .u8 x0, .int .i64 x1, .int .i64 x2, .int .i64 x3] 33 (0, 0)))) (fun _ ix _ => k - (intOf ix).toNat)
            case atStart => exact ⟨0, true, by omega, rfl, rfl, Lib.hid rfl, Lib.hid ⟨HIV.out.r, bdrewN HIV.out.b _⟩, HD1⟩
            case round =>
              obtain ⟨j, b, hj, rfl, rfl, HB, HIj, HDj⟩ := hrel
              by_cases hjk : j < k
              · obtain ⟨a', y, ha', hy, y0, y1, y2, y3⟩ := HIj.out.r.rnAt (k := j) (by omega)
                cases ha'
                have HTk := Lib.hid (show hasK (L.take (j + 1)) x0 x1 = (hasK (L.take j) x0 x1 || decide (y.kind = x0 ∧ y.who = x1)) by rw [take_at (d := rn0) (by omega), hasK_snoc, hy])
                clear hy
                obtain ⟨q0, q1, q2, q3⟩ := y
                dsimp only at *
                go_upto_region 18 with fail
                refine name_world fun U hU => ?_
                have hbU : Below wr.heap.size wr U := by rw [hU]; exact (Below.refl _ _).alloc (Nat.le_refl _) _
                have HIU := Lib.hid (HIj.out.next hbU)
                have hDU := box_keep HDj.out hbU
                have hEU : U.heap[wr.heap.size]? = some (.cells #[.int .u8 q0, .int .i64 q1, .int .i64 q2, .int .i64 q3] 33 (0, 0)) := by rw [hU]; exact heap_alloc_new _ _
                have HDU := Lib.hid hDU
                clear hU hbU HIj HDj y0 y1 y2 y3
                obtain ⟨dx, dy⟩ := box_rules hDU
                obtain ⟨ex, ey⟩ := box_rules hEU
                have ld := box_lt hDU
                have le := box_lt hEU
                clear hDU hEU
                generalize wr.heap.size = E at *
                cases b with
                | false =>
                  have HN := Lib.hid (show false = !hasK (L.take (j + 1)) x0 x1 from hasF HB.out HTk.out)
                  go_wp2
                  refine ⟨⟨j + 1, _, by omega, by go_num, rfl, HN, HIU, HDU⟩, ?_⟩
                  simp [intOf]; omega
                | true =>
                  by_cases r0 : q0 = x0
                  · by_cases r1 : q1 = x1
                    · have t0 : (q0 != x0) = false := by simpa using r0
                      have t1 : (q1 != x1) = false := by simpa using r1
                      have HN := Lib.hid (show false = !hasK (L.take (j + 1)) x0 x1 by rw [HTk.out, decide_eq_true ⟨r0, r1⟩]; simp)
                      clear r0 r1
                      go_wp2
                      refine ⟨⟨j + 1, _, by omega, by go_num, rfl, HN, HIU, HDU⟩, ?_⟩
                      simp [intOf]; omega
                    · have t0 : (q0 != x0) = false := by simpa using r0
                      have t1 : (q1 != x1) = true := by simpa using r1
                      have HN := Lib.hid (show true = !hasK (L.take (j + 1)) x0 x1 by rw [HTk.out, decide_eq_false (fun h => r1 h.2), Bool.or_false]; exact HB.out)
                      clear r0 r1
                      go_wp2
                      refine ⟨⟨j + 1, _, by omega, by go_num, rfl, HN, HIU, HDU⟩, ?_⟩
                      simp [intOf]; omega
                  · have t0 : (q0 != x0) = true := by simpa using r0
                    have HN := Lib.hid (show true = !hasK (L.take (j + 1)) x0 x1 by rw [HTk.out, decide_eq_false (fun h => r0 h.1), Bool.or_false]; exact HB.out)
                    clear r0
                    go_wp2
                    refine ⟨⟨j + 1, _, by omega, by go_num, rfl, HN, HIU, HDU⟩, ?_⟩
                    simp [intOf]; omega
              · obtain rfl : j = k := by omega
                obtain ⟨dx, dy⟩ := box_rules HDj.out
                have ld := box_lt HDj.out
                clear HIV HD1
                have HTk := Lib.hid (take_at (d := rn0) hlt)
                cases b with
                | false =>
                  have HN := Lib.hid (show p = sK L (L.take (j + 1)) by rw [HS.out, HTk.out, HX.out]; exact (sK_old (y := ⟨x0, x1, x2, x3⟩) (by have := HB.out; simpa using this.symm) L).symm)
                  clear HB HS HX HTk HDj
                  go_wp2
                  refine ⟨⟨j + 1, _, _, by omega, by go_num, rfl, rfl, HC1, HN, HIj⟩, ?_⟩
                  simp [intOf]; omega
                | true =>
                  have hk0 : hasK (L.take j) x0 x1 = false := by have := HB.out; simpa using this.symm
                  have hN : sK L (L.take (j + 1)) = p + shR L x0 x1 := by rw [HTk.out, HX.out, HS.out]; exact sK_new (y := ⟨x0, x1, x2, x3⟩) hk0 L (cv_pos HC.out)
                  have hb1 := sK_le (L.take j) L (cv_pos HC.out)
                  have hb2 := sK_le (L.take (j + 1)) L (cv_pos HC.out)
                  have hb3 := (cv_all HC.out).1
                  have hb4 := shR_le x0 x1 HC.out
                  have hb5 := HD.out
                  rw [hN] at hb2
                  have HN := Lib.hid (show wrap64 (p + shR L x0 x1) = sK L (L.take (j + 1)) by rw [hN, Go.IntWalk.wrap64_in _ (by omega)])
                  have fS := Lib.hid (fun X (h : AsI w (some a) L X) => share_any x0 x1 L (some a) d X (by omega) h.r)
                  rw [shG_cv x0 x1 HC.out (Int.le_refl _) (by omega), Int.zero_add] at fS
                  clear HB HS HX HTk HDj hk0 hN hb1 hb2 hb3 hb4 hb5
                  generalize shR L x0 x1 = sh at *
                  go_wp2_with (go_at_call 16; with_reducible refine (fS.out _ HIj.out).mono ?_; rintro e w7 ⟨rfl, hb7⟩; have HI7 := Lib.hid (HIj.out.next hb7); clear hb7)
                  refine ⟨⟨j + 1, _, _, by omega, by go_num, rfl, rfl, HC1, HN, HI7⟩, ?_⟩
                  simp [intOf]; omega
      · obtain rfl : k = L.length := by omega
        have hsn : s = now := by have := HCk.out; rw [List.drop_length] at this; exact this.emp rfl
        have hpn : p = now - start := by rw [HS.out, List.take_length, sK_all L (fun z hz => hz), (cv_all HC.out).1]
        subst hsn hpn
        have fA := Lib.hid (fun X (h : AsI w P L X) => at_any t L P d X (by omega) h.r)
        unfold RetAt at fA
        have hcv := atF_cv t HC.out
        have hb5 := HD.out
        obtain ⟨o, ho⟩ : ∃ o, atF t L = o := ⟨_, rfl⟩
        rw [ho] at fA hcv
        clear HCk HS
        have e0 : IntKind.i64.wrap (s - start) = s - start := IntWalk.i64_in _ (by omega)
        cases o with
        | none =>
          have hn : ¬ (start ≤ t ∧ t < s) := fun h => by have := hcv.2 h; cases this
          clear hcv ho hb5
          simp only [Option.isSome_none, Option.getD_none, rnv, rn0] at fA
          by_cases h1 : start ≤ t
          · have h2 : s ≤ t := by omega
            have h2' : decide (t < s) = false := by simp; omega
            clear hn
            go_wp2_with (go_at_call 12; with_reducible refine (fA.out _ HI.out).mono ?_; rintro e w7 ⟨rfl, hb7⟩; have HI7 := Lib.hid (HI.out.next hb7); clear hb7)
            go_ret
            exact ⟨by first | rfl | simp, HI7.out.b.alloc HI7.out.b.size _⟩
          · have h1' : decide (start ≤ t) = false := by simp; omega
            clear hn
            go_wp2_with (go_at_call 12; with_reducible refine (fA.out _ HI.out).mono ?_; rintro e w7 ⟨rfl, hb7⟩; have HI7 := Lib.hid (HI.out.next hb7); clear hb7)
            go_ret
            exact ⟨by first | rfl | simp, HI7.out.b.alloc HI7.out.b.size _⟩
        | some x =>
          obtain ⟨h1, h2⟩ := hcv.1 rfl
          obtain ⟨h3, h4⟩ := atF_in ho
          clear hcv ho hb5
          obtain ⟨x0, x1, x2, x3⟩ := x
          simp only [Option.isSome_some, Option.getD_some, rnv] at fA
          dsimp only at h3 h4
          go_wp2_with (go_at_call 12; with_reducible refine (fA.out _ HI.out).mono ?_; rintro e w7 ⟨rfl, hb7⟩; have HI7 := Lib.hid (HI.out.next hb7); clear hb7)
          go_ret
          exact ⟨by first | rfl | simp, HI7.out.b.alloc HI7.out.b.size _⟩
end Go.Proofs.YtlmhgfgdkenpfaaDoor

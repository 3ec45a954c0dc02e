/- Package vergeref33: the walk of Line. Conditions: lists that read. -/
import Derived.Test.YtpdanmdpaanafaaConR
namespace Go.Proofs.Ytpdanmdpaanafaa
open Go.RowKit Go.Shelf

set_option maxHeartbeats 4000000 in
set_option maxRecDepth 100000 in
theorem line33_cfg (mn mx sw : Int) (ts : List Tk) (ls : List Ln) (hs : List Th) (A : Option Addr) (ca : Nat) (B : Option Addr) (cb : Nat) (D : Option Addr) (cd : Nat) (who : Int) (ms : List Mk) (T : Option Addr) (tc : Nat) (w : World)
    (hlt0 : ts.length ≤ 1048576) (hll : ls.length ≤ 1048576) (hlh : hs.length ≤ 1048576) (hlm : ms.length ≤ 1048576)
    (ht : Rd w A (ts.flatMap tkc)) (hl : Rd w B (ls.flatMap lnc)) (hh : Rd w D (hs.flatMap thc)) (hmx : I64 mx) (hr : Rd w T (ms.flatMap mkc)) :
    Calls Try.prog 21 #[cfv mn mx sw A ts.length ca B ls.length cb D hs.length cd, .int .i64 who, .slice T ms.length tc] w
      (RetC (lineY (Cf.why ⟨mn, mx, sw, ts, ls, hs⟩) who ls.length) (lineN who (ls.getD who.toNat ln0).many (ls.getD who.toNat ln0).window ms) w) := by
  have Ht := Lib.hid ht; have Hl := Lib.hid hl; have Hh := Lib.hid hh; have Hr := Lib.hid hr
  have f1 := Lib.hid (fun w ht hl hh => check27_cfg mn mx sw ts ls hs A ca B cb D cd w hlt0 hll hlh ht hl hh hmx)
  have Hy := Lib.hid (fun (h : Cf.why ⟨mn, mx, sw, ts, ls, hs⟩ = 0) => (cfIn_of h).ls)
  clear ht hl hh hmx hr
  unfold cfv at *
  generalize Cf.why ⟨mn, mx, sw, ts, ls, hs⟩ = y at *
  generalize hN : lineN who (ls.getD who.toNat ln0).many (ls.getD who.toNat ln0).window ms = N
  have HNN := Lib.hid hN; clear hN
  have HYb : Hid (y ≠ 0 → lineY y who ls.length = y) := Lib.hid (fun h => lineY_bad h)
  have HYo : Hid (y = 0 → inR who ls.length = true → lineY y who ls.length = 0) := Lib.hid (fun h h2 => by subst h; exact lineY_ok h2)
  have HYn : Hid (y = 0 → inR who ls.length = false → lineY y who ls.length = 1) := Lib.hid (fun h h2 => by subst h; exact lineY_no h2)
  generalize lineY y who ls.length = Y at *
  go_enter Try.func21, Try.ntmps21
  go_wp2_with fail
  refine (f1.out _ (Ht.out.alloc _) (Hl.out.alloc _) (Hh.out.alloc _)).mono ?_
  rintro e W ⟨rfl, hb⟩
  have HX := Lib.hid (box_keep (heap_alloc_new w (.cells #[.int .i64 mn, .int .i64 mx, .int .i64 sw, .slice A ts.length ca, .slice B ls.length cb, .slice D hs.length cd] 28)) hb)
  have HBW := Lib.hid (((Below.refl w.heap.size w).alloc (Nat.le_refl _) _).trans (hb.mono (by simp)))
  clear hb f1
  obtain ⟨hx, hy⟩ := box_rules HX.out
  by_cases hy0 : y = 0
  · subst hy0
    have HLs := Lib.hid (Hy.out rfl)
    clear Hy
    by_cases hin : inR who ls.length = true
    · obtain rfl := HYo.out (by first | rfl | trivial) hin
      clear HYb HYo HYn
      obtain ⟨j, rfl, hj⟩ := inR_get hin
      have e1 : decide ((j : Int) < (ls.length : Int)) = true := by simp; omega
      have e2 : decide (j < ls.length) = true := by simp; omega
      have e3 : decide ((ls.length : Int) ≤ (j : Int)) = false := by simp; omega
      have e4 : decide (ls.length ≤ j) = false := by simp; omega
      obtain ⟨a, x, rfl, hx2, g0, g1, g2, g3⟩ := (Hl.out.below HBW.out).lnAt hj
      have HLI : Hid (LnIn x) := Lib.hid (by rw [← hx2]; exact HLs.out _ (getD_mem hj))
      have hq : ls.getD (j : Int).toNat ln0 = x := hx2
      rw [hq] at HNN
      clear hin hx2 hq HLs g0 g1
      obtain ⟨x0, x1, x2, x3⟩ := x
      dsimp only at g2 g3 HNN
      obtain ⟨p, rfl⟩ : ∃ p : Nat, x2 = p := ⟨x2.toNat, by have := HLI.out.many; dsimp only at this; omega⟩
      have hp1 : 1 ≤ p ∧ p ≤ 64 := by have := HLI.out.many; dsimp only at this; omega
      have HN : Hid (∀ k, k < ms.length → (∀ i, i < k → lineOk j p x3 ms i = true) → lineOk j p x3 ms k = false → N = (entT j ms k).length) := Lib.hid (fun k hk h hb => HNN.out.symm.trans (lineN_at hk h hb))
      have HA : Hid ((∀ i, i < ms.length → lineOk j p x3 ms i = true) → N = (entT j ms ms.length).length) := Lib.hid (fun h => HNN.out.symm.trans (lineN_all h))
      clear HLI HNN
      go_wp2
      go_loopw [9, 31] (fun s i wr => ∃ (k n : Nat) (A1 : Option Addr) (c1 : Nat), k ≤ ms.length ∧ i = .int .i64 k ∧ s = .slice A1 n c1 ∧ n ≤ k ∧ Hid ((entT j ms k).length = n) ∧
        wr.ownsRow W.heap.size 2 1 (.slice A1 n c1) n ((entT j ms k).map (.int .i64)) ∧ Below W.heap.size W wr ∧ Hid (∀ i, i < k → lineOk j p x3 ms i = true)) (fun _ i _ => ms.length - (intOf i).toNat)
      case atStart => exact ⟨0, 0, none, 0, by omega, rfl, rfl, by omega, rfl, own_nilK _ _ _ _, Below.refl _ _, fun j hj => absurd hj (Nat.not_lt_zero _)⟩
      case round =>
        obtain ⟨k, n, A1, c1, hk, rfl, rfl, hnk, Hn, ho, hB, hm⟩ := hrel
        have HO := Lib.hid ho; have sB := hB.size; have HWr := Lib.hid hB
        clear ho hB
        by_cases hlt : k < ms.length
        · have HB2 := Lib.hid (HBW.out.trans (HWr.out.mono HBW.out.size))
          obtain ⟨a', x, rfl, hx2, q0, q1, q2, q3⟩ := (Hr.out.below HB2.out).mkAt hlt
          have HX2 := Lib.hid hx2; clear hx2
          have HD2 := Lib.hid (box_keep HX.out HWr.out)
          have gA := (HWr.out.cell (p := ⟨(a.add (j * 4)).block, (a.add (j * 4)).off + 2, none⟩) (World.block_lt_of_cell? W _ g2)).trans g2
          have gB := (HWr.out.cell (p := ⟨(a.add (j * 4)).block, (a.add (j * 4)).off + 3, none⟩) (World.block_lt_of_cell? W _ g3)).trans g3
          have lA := World.block_lt_of_cell? wr _ gA
          have HNk := Lib.hid (HN.out k hlt hm.out)
          obtain ⟨x0, x1, x2, x4⟩ := x
          dsimp only at q0 q1 q2 q3
          by_cases he : x1 = 4 ∧ x2 = (j : Int)
          · obtain ⟨rfl, rfl⟩ := he
            have HE : Hid (enters j ⟨x0, 4, j, x4⟩ = true) := Lib.hid (by simp [enters])
            have HT := Lib.hid (entT_succ_yes HX2.out HE.out)
            have HV := Lib.hid (lineOk_yes (many := p) (win := x3) HX2.out HE.out)
            clear HE HX2
            dsimp only at HT HV
            have hN2 : Hid (lineOk j p x3 ms k = false → N = n) := Lib.hid (fun h => (HNk.out h).trans Hn.out)
            have hT1 : Hid ((entT j ms (k + 1)).length = n + 1) := Lib.hid (by rw [HT.out, List.length_append, Hn.out]; rfl)
            clear HNk
            generalize entT j ms k = l at *
            unfold fitsB at HV
            rw [Hn.out] at HV
            go_upto_region 11 with fail
            refine name_world fun W1 hW1 => ?_
            have HM1 : Hid (W1.heap[wr.heap.size]? = some (.cells #[.int .i64 x0, .int .u8 4, .int .i64 j, .int .i64 x4] 121 (0, 0))) := Lib.hid (by rw [hW1]; exact heap_alloc_new wr _)
            have HO1 : Hid (W1.ownsRow W.heap.size 2 1 (.slice A1 n c1) n (l.map (.int .i64))) := Lib.hid (by rw [hW1]; exact own_allocK HO.out _)
            have HB1 : Hid (Below wr.heap.size wr W1) := Lib.hid (by rw [hW1]; exact (Below.refl _ _).alloc (Nat.le_refl _) _)
            clear hW1
            have HD1 := Lib.hid (box_keep HD2.out HB1.out)
            have hA1 := (HB1.out.cell (p := ⟨(a.add (j * 4)).block, (a.add (j * 4)).off + 2, none⟩) lA).trans gA
            have hB1 := (HB1.out.cell (p := ⟨(a.add (j * 4)).block, (a.add (j * 4)).off + 3, none⟩) lA).trans gB
            have HBB := Lib.hid (HWr.out.trans (HB1.out.mono sB))
            have sB1 := HBB.out.size
            obtain ⟨kx, ky⟩ := box_rules HM1.out
            obtain ⟨dx, dy⟩ := box_rules HD1.out
            clear HO HWr gA gB lA HB1 HD2 q0 q1 q2 q3 HB2
            go_wp2
            go_loopw [12, 46] (fun c i wr' => ∃ q : Nat, q ≤ n ∧ i = .int .i64 q ∧ c = .int .i64 (nearN x3 x0 l q) ∧ (∃ d, wr' = W1.drewN d) ∧ Hid (∀ i, i < q → l.getD i 0 ≤ x0)) (fun _ i _ => n - (intOf i).toNat)
            case atStart => exact ⟨0, by omega, rfl, rfl, ⟨0, rfl⟩, fun j hj => absurd hj (Nat.not_lt_zero _)⟩
            case round =>
              obtain ⟨q, hq, rfl, rfl, ⟨d, rfl⟩, hall⟩ := hrel
              have hnl := nearN_le x3 x0 l q
              by_cases hql : q < n
              · obtain ⟨b, rfl, hc⟩ := (own_rdK HO1.out).int (i := q) (by rw [Hn.out]; omega)
                have HS : Hid (nearN x3 x0 l (q + 1) = nearN x3 x0 l q + if nearB x3 x0 (l.getD q 0) then 1 else 0) := Lib.hid rfl
                unfold nearB at HS
                have Htq : Hid (l.getD q 0 = l.getD q 0) := Lib.hid rfl
                have HLq : Hid (q < l.length) := Lib.hid (by rw [Hn.out]; exact hql)
                have HAll : Hid (l.getD q 0 > x0 → l.all (fun s => decide (s ≤ x0)) = false) := Lib.hid (fun h => by
                  rw [Bool.eq_false_iff]
                  intro h2
                  have h3 : l.getD q 0 ∈ l := getD_mem HLq.out
                  have := List.all_eq_true.1 h2 _ h3
                  simp only [decide_eq_true_eq] at this
                  omega)
                have HAll2 : Hid (l.getD q 0 ≤ x0 → ∀ i, i < q + 1 → l.getD i 0 ≤ x0) := Lib.hid (fun h i hi => by
                  by_cases e : i = q
                  · subst e; exact h
                  · exact hall.out i (by omega))
                clear Htq
                generalize nearN x3 x0 l q = m0 at *
                generalize l.getD q 0 = tq at *
                by_cases hgt : x0 < tq
                · rw [HAll.out hgt, Bool.false_and] at HV
                  clear HS HAll HAll2
                  go_wp2
                  go_ret2
                  exact ⟨by rw [hN2.out HV.out, if_pos rfl]; rfl, HBW.out.trans ((bdrewN HBB.out _).mono HBW.out.size)⟩
                · have Hle := Lib.hid (HAll2.out (by omega))
                  clear HAll HAll2
                  by_cases hnear : IntKind.u64.wrap (IntKind.u64.wrap x0 - IntKind.u64.wrap tq) < IntKind.u64.wrap x3
                  · rw [decide_eq_true hnear, if_pos rfl] at HS
                    go_wp2
                    go_big_quiet (fail)
                    go_wp2
                    go_roundw
                    case rel => exact ⟨q + 1, by omega, by go_num, by rw [HS.out]; go_num, ⟨_, rfl⟩, Hle.out⟩
                    case measure => simp [intOf]; omega
                  · rw [decide_eq_false hnear, if_neg (by simp)] at HS
                    go_wp2
                    go_big_quiet (fail)
                    go_wp2
                    go_roundw
                    case rel => exact ⟨q + 1, by omega, by go_num, by rw [HS.out]; rfl, ⟨_, rfl⟩, Hle.out⟩
                    case measure => simp [intOf]; omega
              · obtain rfl : q = n := by omega
                have HAll : Hid (l.all (fun s => decide (s ≤ x0)) = true) := Lib.hid (by
                  rw [List.all_eq_true]
                  intro s hs
                  obtain ⟨i, hi, rfl⟩ := List.getElem_of_mem hs
                  have := hall.out i (by rw [← Hn.out]; exact hi)
                  have e : l.getD i 0 = l[i] := by simp [List.getD, hi]
                  rw [e] at this
                  simpa using this)
                rw [HAll.out, Bool.true_and] at HV
                clear HAll hall hql
                generalize nearN x3 x0 l q = m0 at *
                by_cases hge : p ≤ m0
                · have e5 : decide ((m0 : Int) < (p : Int)) = false := by simp; omega
                  rw [e5] at HV
                  clear e5
                  go_wp2
                  go_ret2
                  exact ⟨by rw [hN2.out HV.out, if_pos rfl]; rfl, HBW.out.trans ((bdrewN HBB.out _).mono HBW.out.size)⟩
                · have e5 : decide ((m0 : Int) < (p : Int)) = true := by simp; omega
                  rw [e5] at HV
                  clear e5
                  go_wp2_with (at_builtin; go_loud (refine wp_app1g rfl _ _ sl_i64 (by decide) rfl (own_allocK (own_drewNK HO1.out _) _) rfl (by omega) (by simp; omega) _ (.int .i64 x0) rfl (new_cell (w := W1.drewN _) (j := 0) rfl) rfl ?_); intro A4 c4 w4 ho4 hg4 _; have G4 := Lib.hid (grown_step (own_drewNK HO1.out _) hg4); have HO4 := Lib.hid ho4; clear ho4 hg4)
                  go_roundw
                  case rel =>
                    refine ⟨k + 1, q + 1, A4, c4, by omega, by go_num, rfl, by omega, hT1, by rw [HT.out, List.map_append]; exact HO4.out, G4.out.below (bdrewN HBB.out _) (Nat.le_refl _) (by simp; omega), fun i hi => ?_⟩
                    by_cases e : i = k
                    · subst e; exact HV.out
                    · exact hm.out i (by omega)
                  case measure => simp [intOf]; omega
          · have HE : Hid (enters j ⟨x0, x1, x2, x4⟩ = false) := Lib.hid (by unfold enters; simpa using he)
            have HT := Lib.hid (entT_succ_no HX2.out HE.out)
            have HV2 : Hid (lineOk j p x3 ms k = true) := Lib.hid (lineOk_no HX2.out HE.out)
            clear HE HX2 HNk
            by_cases h4 : x1 = 4
            · subst h4
              have hne : (x2 != (j : Int)) = true := by simpa using he
              clear he
              go_wp2
              go_roundw
              case rel =>
                refine ⟨k + 1, n, A1, c1, by omega, by go_num, rfl, by omega, by rw [HT.out]; exact Hn, by rw [HT.out]; exact own_allocK HO.out _, HWr.out.alloc sB _, fun i hi => by (by_cases e : i = k; (subst e; exact HV2.out); exact hm.out i (by omega))⟩
              case measure => simp [intOf]; omega
            · have hne : (x1 != 4) = true := by simpa using h4
              clear he h4
              go_wp2
              go_roundw
              case rel =>
                refine ⟨k + 1, n, A1, c1, by omega, by go_num, rfl, by omega, by rw [HT.out]; exact Hn, by rw [HT.out]; exact own_allocK HO.out _, HWr.out.alloc sB _, fun i hi => by (by_cases e : i = k; (subst e; exact HV2.out); exact hm.out i (by omega))⟩
              case measure => simp [intOf]; omega
        · obtain rfl : k = ms.length := by omega
          go_wp2
          go_ret2
          exact ⟨by rw [HA.out hm.out, Hn.out, if_pos rfl]; rfl, HBW.out.trans (HWr.out.mono HBW.out.size)⟩
    · have hno := inR_no hin
      obtain rfl := HYn.out (by first | rfl | trivial) hno
      clear hin HYb HYo HYn
      rcases inR_cases hno with h | ⟨h, h'⟩
      · clear hno
        go_wp2
        go_ret2
        exact ⟨rfl, HBW.out⟩
      · clear hno
        have e1 : decide (who < (ls.length : Int)) = false := by simp; omega
        have e3 : decide ((ls.length : Int) ≤ who) = true := by simp; omega
        go_wp2
        go_ret2
        exact ⟨rfl, HBW.out⟩
  · have hY := (HYb.out hy0).symm
    subst hY
    clear HYb HYo HYn HNN
    have hy1 : (y != 0) = true := by simpa using hy0
    have HZ := Lib.hid (retC_no hy0 N)
    clear hy0
    go_wp2
    go_ret2
    exact ⟨by rw [HZ.out]; rfl, HBW.out⟩
end Go.Proofs.Ytpdanmdpaanafaa

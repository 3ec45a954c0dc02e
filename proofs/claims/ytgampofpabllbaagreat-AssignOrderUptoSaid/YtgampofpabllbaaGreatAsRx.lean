/- vergelaw36: the walk of AssignOrder. Conditions: lists that read. -/
import Derived.Test.YtgampofpabllbaaGreatAsX3
namespace Go.Proofs.YtgampofpabllbaaGreat
open Go.RowKit Go.Shelf
attribute [local go_sem] Oper.semAt_some

theorem ord_getD {ts : List Tk} {k : Nat} (hk : k < ts.length) : (ordL ts).getD k 0 < ts.length ∧ (ordL ts).getD k 0 ∈ ordL ts := by
  have hl : k < (ordL ts).length := by rw [ord_len]; exact hk
  have e : (ordL ts).getD k 0 = (ordL ts)[k] := by simp [List.getD, hl]
  rw [e]
  exact ⟨ord_lt (List.getElem_mem hl), List.getElem_mem hl⟩
theorem ord_strict {ts : List Tk} (hd : (ts.map (·.prio)).Nodup) {k : Nat} (hk : k + 1 < ts.length) : prK ts ((ordL ts).getD (k + 1) 0) < prK ts ((ordL ts).getD k 0) := by
  have l1 : k + 1 < (ordL ts).length := by rw [ord_len]; exact hk
  have l0 : k < (ordL ts).length := by omega
  have e1 : (ordL ts).getD (k + 1) 0 = (ordL ts)[k + 1] := by simp [List.getD, l1]
  have e0 : (ordL ts).getD k 0 = (ordL ts)[k] := by simp [List.getD, l0]
  have h := List.pairwise_iff_getElem.1 (ord_down ts) k (k + 1) l0 l1 (by omega)
  have hn : (ordL ts).Nodup := (ord_perm ts).nodup_iff.2 List.nodup_range
  have hne := List.pairwise_iff_getElem.1 hn k (k + 1) l0 l1 (by omega)
  rw [e1, e0]
  have a1 := ord_lt (List.getElem_mem l1)
  have a0 := ord_lt (List.getElem_mem l0)
  generalize (ordL ts)[k + 1] = x at *
  generalize (ordL ts)[k] = y at *
  have ex : ∀ (k : Nat) (hk : k < (ts.map (·.prio)).length), (ts.map (·.prio))[k] = prK ts k := fun k hk => by
    have hk2 : k < ts.length := by simpa using hk
    unfold prK; simp [List.getD, hk2]
  have hp := List.pairwise_iff_getElem.1 hd
  have hx2 : x < (ts.map (·.prio)).length := by rw [List.length_map]; exact a1
  have hy2 : y < (ts.map (·.prio)).length := by rw [List.length_map]; exact a0
  rcases Nat.lt_trichotomy x y with h3 | h3 | h3
  · have := hp x y hx2 hy2 h3
    rw [ex, ex] at this
    omega
  · exact absurd h3.symm hne
  · have := hp y x hy2 hx2 h3
    rw [ex, ex] at this
    omega
set_option maxHeartbeats 4000000 in
set_option maxRecDepth 100000 in
theorem order36_cfg (mn mx sw : Int) (ts : List Tk) (ls : List Ln) (hs : List Th) (A : Option Addr) (ca : Nat) (B : Option Addr) (cb : Nat) (D : Option Addr) (cd : Nat) (w : World)
    (hlt0 : ts.length ≤ 1048576) (hll : ls.length ≤ 1048576) (hlh : hs.length ≤ 1048576)
    (ht : Rd w A (ts.flatMap tkc)) (hl : Rd w B (ls.flatMap lnc)) (hh : Rd w D (hs.flatMap thc)) (hmx : I64 mx) (ht64 : ∀ p ∈ ts.map (·.prio) ++ hs.map (·.prio), I64 p) :
    Calls Tryz.prog 4 #[cfv mn mx sw A ts.length ca B ls.length cb D hs.length cd] w fun e w' => e = .returned (.bool true) ∧ Below w.heap.size w w' := by
  have c1 := Lib.hid (fun w ht hl hh => check_cfg mn mx sw ts ls hs A ca B cb D cd w hlt0 hll hlh ht hl hh hmx ht64)
  have c2 := Lib.hid (fun w ht hl hh => order_any mn mx sw ts ls hs A ca B cb D cd w hlt0 hll hlh ht hl hh hmx ht64)
  have c0 := Lib.hid (fun w => lives36 w)
  have Ht := Lib.hid ht; have Hl := Lib.hid hl; have Hh := Lib.hid hh
  clear ht hl hh ht64 hmx
  have HIn : Hid (Cf.why ⟨mn, mx, sw, ts, ls, hs⟩ = 0 → (ts.map (·.prio)).Nodup) := Lib.hid (fun h => by
    have hc := cfIn_of h
    have hnd := hc.nodup
    unfold Cf.prios at hnd
    dsimp only at hnd
    exact (List.nodup_append.1 hnd).1)
  unfold RetOr cfv at *
  generalize Cf.why ⟨mn, mx, sw, ts, ls, hs⟩ = y at *
  go_enter Tryz.func4, Tryz.ntmps4
  go_upto_region 1 with fail
  refine name_world fun W hW => ?_
  have HC : Hid (W.heap[w.heap.size]? = some (.cells #[.int .i64 mn, .int .i64 mx, .int .i64 sw, .slice A ts.length ca, .slice B ls.length cb, .slice D hs.length cd] 28 (0, 0))) := Lib.hid (by rw [hW]; exact heap_alloc_new w _)
  have HB : Hid (Below w.heap.size w W) := Lib.hid (by rw [hW]; exact (Below.refl _ _).alloc (Nat.le_refl _) _)
  clear hW
  go_wp2_with fail
  refine (c0.out _).mono ?_
  rintro e w0 ⟨rfl, hb⟩
  have HB0 := Lib.hid (HB.out.trans (hb.mono HB.out.size))
  have HC0 := Lib.hid (box_keep HC.out hb)
  clear hb HC HB c0
  obtain ⟨cx, cy⟩ := box_rules HC0.out
  go_wp2_with fail
  refine (c2.out _ (Ht.out.below HB0.out) (Hl.out.below HB0.out) (Hh.out.below HB0.out)).mono ?_
  rintro e w1 ⟨hn, hz, hb⟩
  have HB1 := Lib.hid (HB0.out.trans (hb.mono HB0.out.size))
  have HC1 := Lib.hid (box_keep HC0.out hb)
  clear hb HC0 HB0 c2 cx cy
  obtain ⟨cx, cy⟩ := box_rules HC1.out
  by_cases hy : y = 0
  · subst hy
    obtain ⟨P, cp, rfl, hr⟩ := hz rfl
    have HP : Hid (Rd w1 P (((ordL ts).map fun i : Nat => (i : Int)).map (.int .i64))) := Lib.hid (by rw [List.map_map]; exact own_rdK hr)
    have HD := Lib.hid (HIn.out rfl)
    have HGet := Lib.hid (fun k (hk : k < ts.length) => ord_getD hk)
    have HStr := Lib.hid (fun k (hk : k + 1 < ts.length) => ord_strict HD.out hk)
    have HLen := Lib.hid (ord_len ts)
    clear hn hz hr HIn c1 HD Hl Hh
    generalize ordL ts = os at *
    go_wp2
    go_loopw [5, 6, 33] (fun _ _ i wr => ∃ k n : Nat, k ≤ ts.length ∧ i = .int .i64 k ∧ wr = w1.drewN n) (fun _ _ i _ => ts.length - (intOf i).toNat)
    case atStart => exact ⟨0, 0, by omega, rfl, rfl⟩
    case round =>
      obtain ⟨k, n, hk, rfl, rfl⟩ := hrel
      by_cases hlt : k < ts.length
      · obtain ⟨ap, rfl, gp⟩ := HP.out.int (show k < ((os.map fun i : Nat => (i : Int))).length by rw [List.length_map, HLen.out]; exact hlt)
        have zg : ∀ j, j < ts.length → (os.map fun i : Nat => (i : Int)).getD j 0 = ((os.getD j 0 : Nat) : Int) := fun j hj => by
          have hj2 : j < os.length := by rw [HLen.out]; exact hj
          simp [List.getD, hj2]
        rw [zg k hlt] at gp
        obtain ⟨o1, -⟩ := HGet.out k hlt
        obtain ⟨a, x, rfl, hx, ⟨-, z1, -, -⟩, -⟩ := (Ht.out.below HB1.out).tkAt o1
        have l1 : (k : Int) < (os.length : Int) := by rw [HLen.out]; omega
        have l2 : (k : Int) < (ts.length : Int) := by omega
        have hx2 : prK ts (os.getD k 0) = x.prio := by unfold prK; rw [hx]
        have l0 : (0 : Int) ≤ (k : Int) := by omega
        by_cases hk0 : k = 0
        · clear zg hx hx2 HStr
          have d5 : decide ((0 : Int) < (k : Int)) = false := by simp; omega
          have d6 : decide (0 < k) = false := by simp; omega
          generalize os.getD k 0 = o at *
          have d1 : decide ((o : Int) < 0) = false := by simp
          have d2 : decide ((ts.length : Int) ≤ (o : Int)) = false := by simp; omega
          have d3 : decide (ts.length ≤ o) = false := by simp; omega
          have l3 : (o : Int) < (ts.length : Int) := by omega
          clear hk0
          go_upto_region 11 with fail
          go_big_quiet (fail)
          go_wp2
          refine ⟨⟨k + 1, _, hlt, by go_num, rfl⟩, ?_⟩
          simp [intOf]; omega
        · obtain ⟨k1, hk1e⟩ : ∃ k1, k = k1 + 1 := ⟨k - 1, by omega⟩
          have hk1 : k1 < ts.length := by omega
          have hst := HStr.out k1 (by omega)
          rw [← hk1e] at hst
          rw [hx2] at hst
          have gq : w1.cell? (ap.add k1) = some (.int .i64 ((os.map fun i : Nat => (i : Int)).getD k1 0)) := by
            obtain ⟨ap', ha, gq⟩ := HP.out.int (show k1 < ((os.map fun i : Nat => (i : Int))).length by rw [List.length_map, HLen.out]; exact hk1)
            cases ha
            exact gq
          rw [zg k1 hk1] at gq
          obtain ⟨o2, -⟩ := HGet.out k1 hk1
          obtain ⟨a', y, ha, hy', ⟨-, y1, -, -⟩, -⟩ := (Ht.out.below HB1.out).tkAt o2
          cases ha
          have hy2 : prK ts (os.getD k1 0) = y.prio := by unfold prK; rw [hy']
          rw [hy2] at hst
          clear zg hx hx2 hy' hy2 HStr
          generalize os.getD k 0 = o at *
          generalize os.getD k1 0 = o' at *
          have d1 : decide ((o : Int) < 0) = false := by simp
          have d2 : decide ((ts.length : Int) ≤ (o : Int)) = false := by simp; omega
          have d3 : decide (ts.length ≤ o) = false := by simp; omega
          have d4 : decide (y.prio ≤ x.prio) = false := by simp [hst]
          have d5 : decide ((0 : Int) < (k : Int)) = true := by simp; omega
          have d6 : decide (0 < k) = true := by simp; omega
          have e1 : IntKind.i64.wrap ((k : Int) - 1) = (k1 : Int) := by rw [IntWalk.i64_in _ (by omega)]; omega
          have l3 : (o : Int) < (ts.length : Int) := by omega
          have l4 : (o' : Int) < (ts.length : Int) := by omega
          have l5 : (k1 : Int) < (ts.length : Int) := by omega
          have l6 : (0 : Int) ≤ (k1 : Int) := by omega
          clear hk1e hk0 hst
          go_upto_region 11 with fail
          go_big_quiet (fail)
          go_wp2
          refine ⟨⟨k + 1, _, hlt, by go_num, rfl⟩, ?_⟩
          simp [intOf]; omega
      · obtain rfl : k = ts.length := by omega
        go_wp2
        go_ret
        exact ⟨by (first | rfl | simp), bdrewN HB1.out _⟩
  · have he := hn hy
    subst he
    have hy2 : (y != 0) = true := by simpa using hy
    have f1 := c1.out w1 (Ht.out.below HB1.out) (Hl.out.below HB1.out) (Hh.out.below HB1.out)
    clear hn hz HIn
    go_wp2_with (go_at_call 16; refine f1.mono ?_; rintro e w2 ⟨rfl, hb⟩)
    go_ret
    exact ⟨by (first | rfl | simp), HB1.out.trans (hb.mono HB1.out.size)⟩
end Go.Proofs.YtgampofpabllbaaGreat

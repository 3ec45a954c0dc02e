/- Package vergeref37: the walks of accept, Find, Deadline. Conditions: lists that read. -/
import Derived.Test.YtlnjeelbfokdpaaGreatSeM2Z
import Derived.Test.YtlnjeelbfokdpaaGreatAdMZ
namespace Go.Proofs.YtlnjeelbfokdpaaGreat
open Go.RowKit Go.Shelf

theorem acc37 (mn mx sw : Int) {nt nl nh : Nat} (T : List Tk) (L : List Ln) (H : List Th) (hT : T.length = nt) (hL : L.length = nl) (hH : H.length = nh) (A : Option Addr) (ca : Nat) (B : Option Addr) (cb : Nat) (D : Option Addr) (cd : Nat) (w : World)
    (h1 : nt ≤ 1048576) (h2 : nl ≤ 1048576) (h3 : nh ≤ 1048576) (ht : Rd w A (T.flatMap tkc)) (hl : Rd w B (L.flatMap lnc)) (hh : Rd w D (H.flatMap thc)) (hmx : I64 mx) :
    Calls Tryz.prog 16 #[cfv mn mx sw A nt ca B nl cb D nh cd] w fun e w' => e = .returned (.bool (accB ⟨mn, mx, sw, T, L, H⟩)) ∧ Below w.heap.size w w' := by
  subst hT hL hH
  have c1 := Lib.hid (fun w ht hl hh => bounds29_any mn mx sw T L H A ca B cb D cd w h1 h2 h3 ht hl hh hmx)
  have Ht := Lib.hid ht; have Hl := Lib.hid hl; have Hh := Lib.hid hh
  clear ht hl hh hmx
  unfold RetB cfv at *
  have HA : Hid (accB ⟨mn, mx, sw, T, L, H⟩ = ((bndR (Cf.why ⟨mn, mx, sw, T, L, H⟩) (bdF mn sw T L H) T.length).2.2 == 0)) := Lib.hid rfl
  generalize accB ⟨mn, mx, sw, T, L, H⟩ = ac at *
  generalize bndR (Cf.why ⟨mn, mx, sw, T, L, H⟩) (bdF mn sw T L H) T.length = R at *
  obtain ⟨l, k, y⟩ := R
  dsimp only at *
  go_enter Tryz.func16, Tryz.ntmps16
  go_wp2_with fail
  refine (c1.out _ (Ht.out.alloc _) (Hl.out.alloc _) (Hh.out.alloc _)).mono ?_
  rintro e w1 ⟨A1, a1, rfl, -, hb⟩
  have HB := Lib.hid (((Below.refl w.heap.size w).alloc (Nat.le_refl _) _).trans (hb.mono (by simp)))
  clear hb
  go_wp2
  go_ret
  exact ⟨by (rw [HA.out]; try rfl), HB.out⟩
set_option maxHeartbeats 4000000 in
set_option maxRecDepth 100000 in
theorem find1 (mn mx sw : Int) (ts : List Tk) (ls : List Ln) (hs : List Th) (A : Option Addr) (ca : Nat) (B : Option Addr) (cb : Nat) (D : Option Addr) (cd : Nat) (n : Int) (w : World)
    (hlt0 : ts.length ≤ 1048576) (hll : ls.length ≤ 1048576) (hlh : hs.length ≤ 1048576)
    (ht : Rd w A (ts.flatMap tkc)) (hl : Rd w B (ls.flatMap lnc)) (hh : Rd w D (hs.flatMap thc)) (hmx : I64 mx) :
    Calls Tryz.prog 6 #[cfv mn mx sw A ts.length ca B ls.length cb D hs.length cd, .int .i64 1, .int .i64 n] w
      (RetN (if costY ⟨mn, mx, sw, ts, ls, hs⟩ n = 0 then costS ⟨mn, mx, sw, ts, ls, hs⟩ n.toNat else 0) (costY ⟨mn, mx, sw, ts, ls, hs⟩ n) w) := by
  have c1 := Lib.hid (fun w ht hl hh => check27_cfg mn mx sw ts ls hs A ca B cb D cd w hlt0 hll hlh ht hl hh hmx)
  have c2 := Lib.hid (fun w ht hl hh => acc37 mn mx sw ts ls hs rfl rfl rfl A ca B cb D cd w hlt0 hll hlh ht hl hh hmx)
  have k1 := Lib.hid (fun (i : Nat) hi m w ht hl hh => with1 mn mx sw ts ls hs A ca B cb D cd i hi m w hlt0 hll hlh ht hl hh)
  have k2 := Lib.hid (fun (i : Nat) (m : Int) A ca B cb D cd w ht hl hh => acc37 mn mx sw (tkPut ts i m) ls hs (tkPut_len ts i m) rfl rfl A ca B cb D cd w hlt0 hll hlh ht hl hh hmx)
  have HIn : Hid (Cf.why ⟨mn, mx, sw, ts, ls, hs⟩ = 0 → (∀ x ∈ ts, TkIn x sw) ∧ ∀ x ∈ hs, ThIn x) := Lib.hid (fun h => ⟨(cfIn_of h).ts, (cfIn_of h).hs⟩)
  have HYd : Hid (costY ⟨mn, mx, sw, ts, ls, hs⟩ n = if oyY ⟨mn, mx, sw, ts, ls, hs⟩ ≠ 0 then oyY ⟨mn, mx, sw, ts, ls, hs⟩ else if n < 0 ∨ (ts.length : Int) ≤ n then 1 else 0) := Lib.hid rfl
  have HOy : Hid (oyY ⟨mn, mx, sw, ts, ls, hs⟩ = if Cf.why ⟨mn, mx, sw, ts, ls, hs⟩ ≠ 0 then Cf.why ⟨mn, mx, sw, ts, ls, hs⟩ else if accB ⟨mn, mx, sw, ts, ls, hs⟩ then 0 else 11) := Lib.hid rfl
  have HSd : Hid (∀ i, costS ⟨mn, mx, sw, ts, ls, hs⟩ i = srS (fun m => accB ⟨mn, mx, sw, (tkPut ts i m), ls, hs⟩) (ts.getD i tk0).cost ((ts.getD i tk0).deadline + 1)) := Lib.hid (fun _ => rfl)
  have Ht := Lib.hid ht; have Hl := Lib.hid hl; have Hh := Lib.hid hh
  clear ht hl hh hmx
  unfold RetW at k1
  unfold cfv RetN at *
  generalize Cf.why ⟨mn, mx, sw, ts, ls, hs⟩ = y at *
  generalize oyY ⟨mn, mx, sw, ts, ls, hs⟩ = Y0 at *
  generalize accB ⟨mn, mx, sw, ts, ls, hs⟩ = ac at *
  generalize costY ⟨mn, mx, sw, ts, ls, hs⟩ n = Y at *
  generalize costS ⟨mn, mx, sw, ts, ls, hs⟩ = SS at *
  generalize hVV : (if Y = 0 then SS n.toNat else 0) = VV
  have HVV := Lib.hid hVV
  clear hVV
  go_enter Tryz.func6, Tryz.ntmps6
  go_upto_region 1 with fail
  refine name_world fun W hW => ?_
  have HC : Hid (W.heap[w.heap.size]? = some (.cells #[.int .i64 mn, .int .i64 mx, .int .i64 sw, .slice A ts.length ca, .slice B ls.length cb, .slice D hs.length cd] 28 (0, 0))) := Lib.hid (by rw [hW]; exact heap_alloc_new w _)
  have HB : Hid (Below w.heap.size w W) := Lib.hid (by rw [hW]; exact (Below.refl _ _).alloc (Nat.le_refl _) _)
  have hR := fun w' (h : Hid (Below W.heap.size W w')) => (box_rules (box_keep HC.out h.out)).1
  have m1 := Lib.hid (fun w' (h : Hid (Below W.heap.size W w')) => (Ht.out.below HB.out).below h.out)
  have m2 := Lib.hid (fun w' (h : Hid (Below W.heap.size W w')) => (Hl.out.below HB.out).below h.out)
  have m3 := Lib.hid (fun w' (h : Hid (Below W.heap.size W w')) => (Hh.out.below HB.out).below h.out)
  have hS0 := S_refl' W
  have q0 := hR _ hS0
  clear hW Ht Hl Hh
  go_wp2_with fail
  refine (c1.out _ (m1.out _ hS0) (m2.out _ hS0) (m3.out _ hS0)).mono ?_
  rintro e w1 ⟨rfl, hb⟩
  have hS1 := S_call' hS0 hb
  have q1 := hR _ hS1
  clear hb q0 c1
  by_cases hy : y = 0
  · obtain ⟨hts, hhs⟩ := HIn.out hy
    rw [if_neg (by simp [hy])] at HOy
    subst hy
    have hy1 : ((0 : Int) != 0) = false := by decide
    go_wp2_with fail
    refine (c2.out _ (m1.out _ hS1) (m2.out _ hS1) (m3.out _ hS1)).mono ?_
    rintro e w2 ⟨rfl, hb⟩
    have hS2 := S_call' hS1 hb
    have q2 := hR _ hS2
    clear hb q1 c2
    cases ac with
    | false =>
      have HY0 : Hid (Y = 11) := Lib.hid (by rw [HYd.out, HOy.out]; rfl)
      go_wp2
      refine bodyPost_ret (v := .tuple #[.int .i64 0, .int .i64 11]) (by simp [results, Tryz.f6, go_sem]) rfl ?_
      exact ⟨by rw [← HVV.out, HY0.out]; rfl, HB.out.trans (hS2.out.mono HB.out.size)⟩
    | true =>
      have HY0 : Hid (Y = if n < 0 ∨ (ts.length : Int) ≤ n then 1 else 0) := Lib.hid (by rw [HYd.out, HOy.out]; rfl)
      clear HYd HOy HIn
      by_cases h0 : n < 0
      · have HY1 : Hid (Y = 1) := Lib.hid (by rw [HY0.out, if_pos (.inl h0)])
        go_wp2
        refine bodyPost_ret (v := .tuple #[.int .i64 0, .int .i64 1]) (by simp [results, Tryz.f6, go_sem]) rfl ?_
        exact ⟨by rw [← HVV.out, HY1.out]; rfl, HB.out.trans (hS2.out.mono HB.out.size)⟩
      · by_cases h1 : (ts.length : Int) ≤ n
        · have HY1 : Hid (Y = 1) := Lib.hid (by rw [HY0.out, if_pos (.inr h1)])
          have h0' : 0 ≤ n := by omega
          go_wp2
          refine bodyPost_ret (v := .tuple #[.int .i64 0, .int .i64 1]) (by simp [results, Tryz.f6, go_sem]) rfl ?_
          exact ⟨by rw [← HVV.out, HY1.out]; rfl, HB.out.trans (hS2.out.mono HB.out.size)⟩
        · have HY1 : Hid (Y = 0) := Lib.hid (by rw [HY0.out, if_neg (by omega)])
          clear HY0
          obtain ⟨i, rfl⟩ := Int.eq_ofNat_of_zero_le (show 0 ≤ n by omega)
          have hi : i < ts.length := by omega
          have hxin := hts _ (getD_mem (d := tk0) hi)
          obtain ⟨a, x, rfl, hx, ⟨-, -, -, -⟩, q4, q5, -, -, -, -⟩ := (m1.out _ hS2).tkAt hi
          have HX := Lib.hid hx
          rw [hx] at hxin
          have hnum : (1 ≤ x.cost ∧ x.cost ≤ 1099511627776) ∧ 1 ≤ x.deadline ∧ x.deadline ≤ 1099511627776 := by
            have := hxin.cost; have := hxin.deadline; have := hxin.period; omega
          have HN : Hid (SS i = srS (fun m => accB ⟨mn, mx, sw, (tkPut ts i m), ls, hs⟩) x.cost (x.deadline + 1)) := Lib.hid (by rw [HSd.out i, HX.out])
          clear hx hxin hts hhs HSd HX
          have e1 : IntKind.i64.wrap (x.deadline + 1) = x.deadline + 1 := IntWalk.i64_in _ (by omega)
          have i1 : (0 : Int) ≤ (i : Int) := by omega
          have i2 : (i : Int) < (ts.length : Int) := by omega
          have k3 := Lib.hid (fun m w r1 r2 r3 => k1.out i hi m w r1 r2 r3); have k4 := Lib.hid (fun m A ca B cb D cd w r1 r2 r3 => k2.out i m A ca B cb D cd w r1 r2 r3)
          clear k1 k2
          obtain ⟨x0, x1, x2, x3, x4, x5, x6, x7, x8, x9⟩ := x
          dsimp only at *
          generalize hP : (fun m => accB ⟨mn, mx, sw, (tkPut ts i m), ls, hs⟩) = P at *
          have hPm : ∀ m, accB ⟨mn, mx, sw, (tkPut ts i m), ls, hs⟩ = P m := fun m => by rw [← hP]
          simp only [hPm] at k4
          clear hP hPm
          rw [if_pos HY1.out, Int.toNat_natCast, HN.out] at HVV
          clear HN
          generalize hN : srS P x5 (x4 + 1) = N at *
          have HS0 : Hid (srS P x5 (x4 + 1) = N) := Lib.hid hN
          clear hN
          go_upto_region 11 with fail
          go_quiet (fail)
          go_wp2
          go_loopw [9, 10] (fun a b wr => ∃ l h : Int, a = .int .i64 l ∧ b = .int .i64 h ∧ Hid (srS P l h = N) ∧ (0 ≤ l ∧ l ≤ 4398046511104) ∧ (0 ≤ h ∧ h ≤ 4398046511104) ∧ Hid (Below W.heap.size W wr)) (fun a b _ => (intOf b - intOf a).toNat)
          case atStart => exact ⟨x5, x4 + 1, rfl, rfl, HS0, by omega, by omega, Lib.hid (bdrewN hS2.out _)⟩
          case round =>
            obtain ⟨l, h, rfl, rfl, HS, ⟨l1, l2⟩, ⟨h1, h2⟩, hSr⟩ := hrel
            clear q2 q4 q5
            have qr := hR _ hSr
            have e2 : IntKind.i64.wrap (h - l) = h - l := IntWalk.i64_in _ (by omega)
            have e3 : IntKind.i64.wrap (l + h) = l + h := IntWalk.i64_in _ (by omega)
            by_cases hgt : 1 < h - l
            · have HS2 := Lib.hid ((srS_step hgt).symm.trans HS.out)
              have em : l + (h - l) / 2 = (l + h) / 2 := by omega
              rw [em] at HS2
              have hm : l ≤ (l + h) / 2 ∧ (l + h) / 2 ≤ h := by omega
              have hd1 : l < (l + h) / 2 ∧ (l + h) / 2 < h := by omega
              clear em
              go_wp2_with fail
              refine (k3.out _ _ (m1.out _ hSr) (m2.out _ hSr) (m3.out _ hSr)).mono ?_
              rintro e w3 ⟨A1, a1, B1, b1, D1, d1, rfl, r1, r2, r3, hb⟩
              have hS3 := S_call' hSr hb
              have R1 := Lib.hid r1; have R2 := Lib.hid r2; have R3 := Lib.hid r3
              clear hb qr r1 r2 r3
              go_wp2_with fail
              refine (k4.out _ _ _ _ _ _ _ _ R1.out R2.out R3.out).mono ?_
              rintro e w4 ⟨rfl, hb⟩
              have hS4 := S_call' hS3 hb
              clear hb R1 R2 R3
              generalize P ((l + h) / 2) = pm at *
              cases pm with
              | true =>
                rw [if_pos rfl] at HS2
                go_wp2
                refine ⟨⟨_, _, rfl, rfl, HS2, by omega, by omega, hS4⟩, ?_⟩
                simp only [intOf]; omega
              | false =>
                rw [if_neg (by simp)] at HS2
                go_wp2
                refine ⟨⟨_, _, rfl, rfl, HS2, by omega, by omega, hS4⟩, ?_⟩
                simp only [intOf]; omega
            · rw [srS_end hgt] at HS
              go_wp2
              refine bodyPost_ret (v := .tuple #[.int .i64 l, .int .i64 0]) (by simp [results, Tryz.f6, go_sem]) rfl ?_
              exact ⟨by rw [← HVV.out, HY1.out, HS.out], HB.out.trans (hSr.out.mono HB.out.size)⟩
  · rw [if_pos hy] at HOy
    have HY0 : Hid (Y = y) := Lib.hid (by rw [HYd.out, HOy.out, if_pos hy])
    have hy1 : (y != 0) = true := by simpa using hy
    go_wp2
    refine bodyPost_ret (v := .tuple #[.int .i64 0, .int .i64 y]) (by simp [results, Tryz.f6, go_sem]) rfl ?_
    exact ⟨by rw [← HVV.out, HY0.out, if_neg hy], HB.out.trans (hS1.out.mono HB.out.size)⟩
set_option maxHeartbeats 4000000 in
set_option maxRecDepth 100000 in
theorem find3 (mn mx sw : Int) (ts : List Tk) (ls : List Ln) (hs : List Th) (A : Option Addr) (ca : Nat) (B : Option Addr) (cb : Nat) (D : Option Addr) (cd : Nat) (n : Int) (w : World)
    (hlt0 : ts.length ≤ 1048576) (hll : ls.length ≤ 1048576) (hlh : hs.length ≤ 1048576)
    (ht : Rd w A (ts.flatMap tkc)) (hl : Rd w B (ls.flatMap lnc)) (hh : Rd w D (hs.flatMap thc)) (hmx : I64 mx) :
    Calls Tryz.prog 6 #[cfv mn mx sw A ts.length ca B ls.length cb D hs.length cd, .int .i64 3, .int .i64 n] w
      (RetN (if budgetY ⟨mn, mx, sw, ts, ls, hs⟩ n = 0 then budgetS ⟨mn, mx, sw, ts, ls, hs⟩ n.toNat else 0) (budgetY ⟨mn, mx, sw, ts, ls, hs⟩ n) w) := by
  have c1 := Lib.hid (fun w ht hl hh => check27_cfg mn mx sw ts ls hs A ca B cb D cd w hlt0 hll hlh ht hl hh hmx)
  have c2 := Lib.hid (fun w ht hl hh => acc37 mn mx sw ts ls hs rfl rfl rfl A ca B cb D cd w hlt0 hll hlh ht hl hh hmx)
  have k1 := Lib.hid (fun (i : Nat) hi m w ht hl hh => with3 mn mx sw ts ls hs A ca B cb D cd i hi m w hlt0 hll hlh ht hl hh)
  have k2 := Lib.hid (fun (i : Nat) (m : Int) A ca B cb D cd w ht hl hh => acc37 mn mx sw ts ls (thPut hs i m) rfl rfl (thPut_len hs i m) A ca B cb D cd w hlt0 hll hlh ht hl hh hmx)
  have HIn : Hid (Cf.why ⟨mn, mx, sw, ts, ls, hs⟩ = 0 → (∀ x ∈ ts, TkIn x sw) ∧ ∀ x ∈ hs, ThIn x) := Lib.hid (fun h => ⟨(cfIn_of h).ts, (cfIn_of h).hs⟩)
  have HYd : Hid (budgetY ⟨mn, mx, sw, ts, ls, hs⟩ n = if oyY ⟨mn, mx, sw, ts, ls, hs⟩ ≠ 0 then oyY ⟨mn, mx, sw, ts, ls, hs⟩ else if n < 0 ∨ (hs.length : Int) ≤ n then 1 else 0) := Lib.hid rfl
  have HOy : Hid (oyY ⟨mn, mx, sw, ts, ls, hs⟩ = if Cf.why ⟨mn, mx, sw, ts, ls, hs⟩ ≠ 0 then Cf.why ⟨mn, mx, sw, ts, ls, hs⟩ else if accB ⟨mn, mx, sw, ts, ls, hs⟩ then 0 else 11) := Lib.hid rfl
  have HSd : Hid (∀ i, budgetS ⟨mn, mx, sw, ts, ls, hs⟩ i = srS (fun m => accB ⟨mn, mx, sw, ts, ls, (thPut hs i m)⟩) (hs.getD i ⟨0, 0, 0, 0⟩).budget ((hs.getD i ⟨0, 0, 0, 0⟩).period + 1)) := Lib.hid (fun _ => rfl)
  have Ht := Lib.hid ht; have Hl := Lib.hid hl; have Hh := Lib.hid hh
  clear ht hl hh hmx
  unfold RetW at k1
  unfold cfv RetN at *
  generalize Cf.why ⟨mn, mx, sw, ts, ls, hs⟩ = y at *
  generalize oyY ⟨mn, mx, sw, ts, ls, hs⟩ = Y0 at *
  generalize accB ⟨mn, mx, sw, ts, ls, hs⟩ = ac at *
  generalize budgetY ⟨mn, mx, sw, ts, ls, hs⟩ n = Y at *
  generalize budgetS ⟨mn, mx, sw, ts, ls, hs⟩ = SS at *
  generalize hVV : (if Y = 0 then SS n.toNat else 0) = VV
  have HVV := Lib.hid hVV
  clear hVV
  go_enter Tryz.func6, Tryz.ntmps6
  go_upto_region 1 with fail
  refine name_world fun W hW => ?_
  have HC : Hid (W.heap[w.heap.size]? = some (.cells #[.int .i64 mn, .int .i64 mx, .int .i64 sw, .slice A ts.length ca, .slice B ls.length cb, .slice D hs.length cd] 28 (0, 0))) := Lib.hid (by rw [hW]; exact heap_alloc_new w _)
  have HB : Hid (Below w.heap.size w W) := Lib.hid (by rw [hW]; exact (Below.refl _ _).alloc (Nat.le_refl _) _)
  have hR := fun w' (h : Hid (Below W.heap.size W w')) => (box_rules (box_keep HC.out h.out)).1
  have m1 := Lib.hid (fun w' (h : Hid (Below W.heap.size W w')) => (Ht.out.below HB.out).below h.out)
  have m2 := Lib.hid (fun w' (h : Hid (Below W.heap.size W w')) => (Hl.out.below HB.out).below h.out)
  have m3 := Lib.hid (fun w' (h : Hid (Below W.heap.size W w')) => (Hh.out.below HB.out).below h.out)
  have hS0 := S_refl' W
  have q0 := hR _ hS0
  clear hW Ht Hl Hh
  go_wp2_with fail
  refine (c1.out _ (m1.out _ hS0) (m2.out _ hS0) (m3.out _ hS0)).mono ?_
  rintro e w1 ⟨rfl, hb⟩
  have hS1 := S_call' hS0 hb
  have q1 := hR _ hS1
  clear hb q0 c1
  by_cases hy : y = 0
  · obtain ⟨hts, hhs⟩ := HIn.out hy
    rw [if_neg (by simp [hy])] at HOy
    subst hy
    have hy1 : ((0 : Int) != 0) = false := by decide
    go_wp2_with fail
    refine (c2.out _ (m1.out _ hS1) (m2.out _ hS1) (m3.out _ hS1)).mono ?_
    rintro e w2 ⟨rfl, hb⟩
    have hS2 := S_call' hS1 hb
    have q2 := hR _ hS2
    clear hb q1 c2
    cases ac with
    | false =>
      have HY0 : Hid (Y = 11) := Lib.hid (by rw [HYd.out, HOy.out]; rfl)
      go_wp2
      refine bodyPost_ret (v := .tuple #[.int .i64 0, .int .i64 11]) (by simp [results, Tryz.f6, go_sem]) rfl ?_
      exact ⟨by rw [← HVV.out, HY0.out]; rfl, HB.out.trans (hS2.out.mono HB.out.size)⟩
    | true =>
      have HY0 : Hid (Y = if n < 0 ∨ (hs.length : Int) ≤ n then 1 else 0) := Lib.hid (by rw [HYd.out, HOy.out]; rfl)
      clear HYd HOy HIn
      by_cases h0 : n < 0
      · have HY1 : Hid (Y = 1) := Lib.hid (by rw [HY0.out, if_pos (.inl h0)])
        go_wp2
        refine bodyPost_ret (v := .tuple #[.int .i64 0, .int .i64 1]) (by simp [results, Tryz.f6, go_sem]) rfl ?_
        exact ⟨by rw [← HVV.out, HY1.out]; rfl, HB.out.trans (hS2.out.mono HB.out.size)⟩
      · by_cases h1 : (hs.length : Int) ≤ n
        · have HY1 : Hid (Y = 1) := Lib.hid (by rw [HY0.out, if_pos (.inr h1)])
          have h0' : 0 ≤ n := by omega
          go_wp2
          refine bodyPost_ret (v := .tuple #[.int .i64 0, .int .i64 1]) (by simp [results, Tryz.f6, go_sem]) rfl ?_
          exact ⟨by rw [← HVV.out, HY1.out]; rfl, HB.out.trans (hS2.out.mono HB.out.size)⟩
        · have HY1 : Hid (Y = 0) := Lib.hid (by rw [HY0.out, if_neg (by omega)])
          clear HY0
          obtain ⟨i, rfl⟩ := Int.eq_ofNat_of_zero_le (show 0 ≤ n by omega)
          have hi : i < hs.length := by omega
          have hxin := hhs _ (getD_mem (d := ⟨0, 0, 0, 0⟩) hi)
          obtain ⟨a, x, rfl, hx, -, q5, q4, -⟩ := (m3.out _ hS2).thAt hi
          have HX := Lib.hid hx
          rw [hx] at hxin
          have hnum : (1 ≤ x.budget ∧ x.budget ≤ 1099511627776) ∧ 1 ≤ x.period ∧ x.period ≤ 1099511627776 := by
            have := hxin.budget; have := hxin.period; omega
          have HN : Hid (SS i = srS (fun m => accB ⟨mn, mx, sw, ts, ls, (thPut hs i m)⟩) x.budget (x.period + 1)) := Lib.hid (by rw [HSd.out i, HX.out])
          clear hx hxin hts hhs HSd HX
          have e1 : IntKind.i64.wrap (x.period + 1) = x.period + 1 := IntWalk.i64_in _ (by omega)
          have i1 : (0 : Int) ≤ (i : Int) := by omega
          have i2 : (i : Int) < (hs.length : Int) := by omega
          have k3 := Lib.hid (fun m w r1 r2 r3 => k1.out i hi m w r1 r2 r3); have k4 := Lib.hid (fun m A ca B cb D cd w r1 r2 r3 => k2.out i m A ca B cb D cd w r1 r2 r3)
          clear k1 k2
          obtain ⟨x0, x1, x2, x3⟩ := x
          dsimp only at *
          generalize hP : (fun m => accB ⟨mn, mx, sw, ts, ls, (thPut hs i m)⟩) = P at *
          have hPm : ∀ m, accB ⟨mn, mx, sw, ts, ls, (thPut hs i m)⟩ = P m := fun m => by rw [← hP]
          simp only [hPm] at k4
          clear hP hPm
          rw [if_pos HY1.out, Int.toNat_natCast, HN.out] at HVV
          clear HN
          generalize hN : srS P x1 (x2 + 1) = N at *
          have HS0 : Hid (srS P x1 (x2 + 1) = N) := Lib.hid hN
          clear hN
          go_upto_region 11 with fail
          go_quiet (fail)
          go_wp2
          go_loopw [9, 10] (fun a b wr => ∃ l h : Int, a = .int .i64 l ∧ b = .int .i64 h ∧ Hid (srS P l h = N) ∧ (0 ≤ l ∧ l ≤ 4398046511104) ∧ (0 ≤ h ∧ h ≤ 4398046511104) ∧ Hid (Below W.heap.size W wr)) (fun a b _ => (intOf b - intOf a).toNat)
          case atStart => exact ⟨x1, x2 + 1, rfl, rfl, HS0, by omega, by omega, Lib.hid (bdrewN hS2.out _)⟩
          case round =>
            obtain ⟨l, h, rfl, rfl, HS, ⟨l1, l2⟩, ⟨h1, h2⟩, hSr⟩ := hrel
            clear q2 q4 q5
            have qr := hR _ hSr
            have e2 : IntKind.i64.wrap (h - l) = h - l := IntWalk.i64_in _ (by omega)
            have e3 : IntKind.i64.wrap (l + h) = l + h := IntWalk.i64_in _ (by omega)
            by_cases hgt : 1 < h - l
            · have HS2 := Lib.hid ((srS_step hgt).symm.trans HS.out)
              have em : l + (h - l) / 2 = (l + h) / 2 := by omega
              rw [em] at HS2
              have hm : l ≤ (l + h) / 2 ∧ (l + h) / 2 ≤ h := by omega
              have hd1 : l < (l + h) / 2 ∧ (l + h) / 2 < h := by omega
              clear em
              go_wp2_with fail
              refine (k3.out _ _ (m1.out _ hSr) (m2.out _ hSr) (m3.out _ hSr)).mono ?_
              rintro e w3 ⟨A1, a1, B1, b1, D1, d1, rfl, r1, r2, r3, hb⟩
              have hS3 := S_call' hSr hb
              have R1 := Lib.hid r1; have R2 := Lib.hid r2; have R3 := Lib.hid r3
              clear hb qr r1 r2 r3
              go_wp2_with fail
              refine (k4.out _ _ _ _ _ _ _ _ R1.out R2.out R3.out).mono ?_
              rintro e w4 ⟨rfl, hb⟩
              have hS4 := S_call' hS3 hb
              clear hb R1 R2 R3
              generalize P ((l + h) / 2) = pm at *
              cases pm with
              | true =>
                rw [if_pos rfl] at HS2
                go_wp2
                refine ⟨⟨_, _, rfl, rfl, HS2, by omega, by omega, hS4⟩, ?_⟩
                simp only [intOf]; omega
              | false =>
                rw [if_neg (by simp)] at HS2
                go_wp2
                refine ⟨⟨_, _, rfl, rfl, HS2, by omega, by omega, hS4⟩, ?_⟩
                simp only [intOf]; omega
            · rw [srS_end hgt] at HS
              go_wp2
              refine bodyPost_ret (v := .tuple #[.int .i64 l, .int .i64 0]) (by simp [results, Tryz.f6, go_sem]) rfl ?_
              exact ⟨by rw [← HVV.out, HY1.out, HS.out], HB.out.trans (hSr.out.mono HB.out.size)⟩
  · rw [if_pos hy] at HOy
    have HY0 : Hid (Y = y) := Lib.hid (by rw [HYd.out, HOy.out, if_pos hy])
    have hy1 : (y != 0) = true := by simpa using hy
    go_wp2
    refine bodyPost_ret (v := .tuple #[.int .i64 0, .int .i64 y]) (by simp [results, Tryz.f6, go_sem]) rfl ?_
    exact ⟨by rw [← HVV.out, HY0.out, if_neg hy], HB.out.trans (hS1.out.mono HB.out.size)⟩
set_option maxHeartbeats 4000000 in
set_option maxRecDepth 100000 in
theorem find2 (mn mx sw : Int) (ts : List Tk) (ls : List Ln) (hs : List Th) (A : Option Addr) (ca : Nat) (B : Option Addr) (cb : Nat) (D : Option Addr) (cd : Nat) (w : World)
    (hlt0 : ts.length ≤ 1048576) (hll : ls.length ≤ 1048576) (hlh : hs.length ≤ 1048576)
    (ht : Rd w A (ts.flatMap tkc)) (hl : Rd w B (ls.flatMap lnc)) (hh : Rd w D (hs.flatMap thc)) (hmx : I64 mx) :
    Calls Tryz.prog 6 #[cfv mn mx sw A ts.length ca B ls.length cb D hs.length cd, .int .i64 2, .int .i64 0] w
      (RetN (if oyY ⟨mn, mx, sw, ts, ls, hs⟩ = 0 then switchS ⟨mn, mx, sw, ts, ls, hs⟩ else 0) (oyY ⟨mn, mx, sw, ts, ls, hs⟩) w) := by
  have c1 := Lib.hid (fun w ht hl hh => check27_cfg mn mx sw ts ls hs A ca B cb D cd w hlt0 hll hlh ht hl hh hmx)
  have c2 := Lib.hid (fun w ht hl hh => acc37 mn mx sw ts ls hs rfl rfl rfl A ca B cb D cd w hlt0 hll hlh ht hl hh hmx)
  have k1 := Lib.hid (fun m w ht hl hh => (show Calls Tryz.prog 17 #[cfv mn mx sw A ts.length ca B ls.length cb D hs.length cd, .int .i64 2, .int .i64 0, .int .i64 m] w (RetW mn mx m ts.length ls.length hs.length ts ls hs w) from with2 mn mx sw ts ls hs A ca B cb D cd 0 rfl m w hlt0 hll hlh ht hl hh))
  have k2 := Lib.hid (fun (i : Nat) (m : Int) A ca B cb D cd w ht hl hh => acc37 mn mx m ts ls hs rfl rfl rfl A ca B cb D cd w hlt0 hll hlh ht hl hh hmx)
  have HIn : Hid (Cf.why ⟨mn, mx, sw, ts, ls, hs⟩ = 0 → (∀ x ∈ ts, TkIn x sw) ∧ ∀ x ∈ hs, ThIn x) := Lib.hid (fun h => ⟨(cfIn_of h).ts, (cfIn_of h).hs⟩)
  have HOy : Hid (oyY ⟨mn, mx, sw, ts, ls, hs⟩ = if Cf.why ⟨mn, mx, sw, ts, ls, hs⟩ ≠ 0 then Cf.why ⟨mn, mx, sw, ts, ls, hs⟩ else if accB ⟨mn, mx, sw, ts, ls, hs⟩ then 0 else 11) := Lib.hid rfl
  have HSd : Hid (switchS ⟨mn, mx, sw, ts, ls, hs⟩ = srS (fun m => accB ⟨mn, mx, m, ts, ls, hs⟩) sw (leastD ts ts.length)) := Lib.hid rfl
  have HIn2 : Hid (Cf.why ⟨mn, mx, sw, ts, ls, hs⟩ = 0 → 1 ≤ ts.length ∧ (0 ≤ sw ∧ sw ≤ 1099511627776) ∧ ∀ k, k ≤ ts.length → sw < leastD ts k ∧ leastD ts k ≤ 1099511627776) := Lib.hid (fun h => by
    have c := cfIn_of h
    have c1 := c.nt; have c2 := c.sw
    dsimp only at c1 c2
    exact ⟨c1.1, c2, leastD_in c.ts (by omega)⟩)
  have Ht := Lib.hid ht; have Hl := Lib.hid hl; have Hh := Lib.hid hh
  clear ht hl hh hmx
  unfold RetW at k1
  unfold cfv RetN at *
  generalize Cf.why ⟨mn, mx, sw, ts, ls, hs⟩ = y at *
  generalize oyY ⟨mn, mx, sw, ts, ls, hs⟩ = Y0 at *
  generalize accB ⟨mn, mx, sw, ts, ls, hs⟩ = ac at *
  generalize switchS ⟨mn, mx, sw, ts, ls, hs⟩ = SS at *
  generalize hVV : (if Y0 = 0 then SS else 0) = VV
  have HVV := Lib.hid hVV
  clear hVV
  go_enter Tryz.func6, Tryz.ntmps6
  go_upto_region 1 with fail
  refine name_world fun W hW => ?_
  have HC : Hid (W.heap[w.heap.size]? = some (.cells #[.int .i64 mn, .int .i64 mx, .int .i64 sw, .slice A ts.length ca, .slice B ls.length cb, .slice D hs.length cd] 28 (0, 0))) := Lib.hid (by rw [hW]; exact heap_alloc_new w _)
  have HB : Hid (Below w.heap.size w W) := Lib.hid (by rw [hW]; exact (Below.refl _ _).alloc (Nat.le_refl _) _)
  have hR := fun w' (h : Hid (Below W.heap.size W w')) => (box_rules (box_keep HC.out h.out)).1
  have m1 := Lib.hid (fun w' (h : Hid (Below W.heap.size W w')) => (Ht.out.below HB.out).below h.out)
  have m2 := Lib.hid (fun w' (h : Hid (Below W.heap.size W w')) => (Hl.out.below HB.out).below h.out)
  have m3 := Lib.hid (fun w' (h : Hid (Below W.heap.size W w')) => (Hh.out.below HB.out).below h.out)
  have hS0 := S_refl' W
  have q0 := hR _ hS0
  clear hW Ht Hl Hh
  go_wp2_with fail
  refine (c1.out _ (m1.out _ hS0) (m2.out _ hS0) (m3.out _ hS0)).mono ?_
  rintro e w1 ⟨rfl, hb⟩
  have hS1 := S_call' hS0 hb
  have q1 := hR _ hS1
  clear hb q0 c1
  by_cases hy : y = 0
  · obtain ⟨hts, hhs⟩ := HIn.out hy
    rw [if_neg (by simp [hy])] at HOy
    subst hy
    have hy1 : ((0 : Int) != 0) = false := by decide
    go_wp2_with fail
    refine (c2.out _ (m1.out _ hS1) (m2.out _ hS1) (m3.out _ hS1)).mono ?_
    rintro e w2 ⟨rfl, hb⟩
    have hS2 := S_call' hS1 hb
    have q2 := hR _ hS2
    clear hb q1 c2
    cases ac with
    | false =>
      have HY0 : Hid (Y0 = 11) := Lib.hid (by rw [HOy.out]; rfl)
      go_wp2
      refine bodyPost_ret (v := .tuple #[.int .i64 0, .int .i64 11]) (by simp [results, Tryz.f6, go_sem]) rfl ?_
      exact ⟨by rw [← HVV.out, HY0.out]; rfl, HB.out.trans (hS2.out.mono HB.out.size)⟩
    | true =>
      have HY1 : Hid (Y0 = 0) := Lib.hid (by rw [HOy.out]; rfl)
      rw [if_pos HY1.out] at HVV
      have hl0 := HIn2.out (by first | rfl | trivial)
      obtain ⟨hn1, ⟨hsw0, hsw1⟩, hlst⟩ := hl0
      have HLs := Lib.hid hlst
      clear hlst HOy HIn HIn2
      obtain ⟨a, x, rfl, hx, ⟨-, -, -, -⟩, g4, -⟩ := (m1.out _ hS2).tkAt (show 0 < ts.length by omega)
      have HX : Hid (x.deadline = leastD ts 0) := Lib.hid (by rw [← hx]; rfl)
      clear hx
      rw [Nat.zero_mul, addr_z] at g4
      have i1 : (0 : Int) ≤ (0 : Int) := by omega
      have i2 : (0 : Int) < (ts.length : Int) := by omega
      have k3 := Lib.hid (fun m w r1 r2 r3 => k1.out m w r1 r2 r3); have k4 := Lib.hid (fun m A ca B cb D cd w r1 r2 r3 => k2.out 0 m A ca B cb D cd w r1 r2 r3)
      clear k1 k2
      generalize hP : (fun m => accB ⟨mn, mx, m, ts, ls, hs⟩) = P at *
      have hPm : ∀ m, accB ⟨mn, mx, m, ts, ls, hs⟩ = P m := fun m => by rw [← hP]
      simp only [hPm] at k4
      clear hP hPm
      rw [HSd.out] at HVV
      clear HSd
      go_upto_region 13 with fail
      go_quiet (fail)
      go_wp2
      go_loopw [10, 74] (fun l j wr => ∃ k : Nat, k ≤ ts.length ∧ l = .int .i64 (leastD ts k) ∧ j = .int .i64 k ∧ Hid (Below W.heap.size W wr)) (fun _ j _ => ts.length - (intOf j).toNat)
      case atStart => exact ⟨0, by omega, by rw [HX.out], rfl, Lib.hid (bdrewN hS2.out _)⟩
      case round =>
        obtain ⟨k, hk, rfl, rfl, hSr⟩ := hrel
        by_cases hlt : k < ts.length
        · obtain ⟨a', y, he, hy, ⟨z0, z1, z2, z3⟩, z4, z5, z6, z7, z8, z9⟩ := (m1.out _ hSr).tkAt hlt
          cases he
          have hb2 := HLs.out k hk
          have HNx : Hid (leastD ts (k + 1) = min (leastD ts k) y.deadline) := Lib.hid (by rw [← hy]; rfl)
          clear hy q2 g4
          obtain ⟨y0, y1, y2, y3, y4, y5, y6, y7, y8, y9⟩ := y
          dsimp only at z0 z1 z2 z3 z4 z5 z6 z7 z8 z9 HNx
          generalize leastD ts k = lk at *
          go_wp2
          all_goals
            refine ⟨⟨k + 1, by omega, ?_, by go_num, hSr.out.alloc hSr.out.size _⟩, ?_⟩
            · rw [HNx.out]
              first | rfl | (congr 1; omega)
            · simp [intOf]; omega
        · obtain rfl : k = ts.length := by omega
          have hl := HLs.out _ (Nat.le_refl _)
          generalize leastD ts ts.length = LL at *
          generalize hN : srS P sw LL = N at *
          have HS0 : Hid (srS P sw LL = N) := Lib.hid hN
          clear hN q2 g4 HX
          go_wp2
          obtain ⟨wo, rfl⟩ : ∃ wo : World, wo = wr := ⟨_, rfl⟩
          go_loopw [9, 10] (fun a b wr => ∃ l h : Int, a = .int .i64 l ∧ b = .int .i64 h ∧ Hid (srS P l h = N) ∧ (0 ≤ l ∧ l ≤ 4398046511104) ∧ (0 ≤ h ∧ h ≤ 4398046511104) ∧ Hid (Below W.heap.size W wr)) (fun a b _ => (intOf b - intOf a).toNat)
          case atStart => exact ⟨sw, LL, rfl, rfl, HS0, by omega, by omega, hSr⟩
          case round =>
            obtain ⟨l, h, rfl, rfl, HS, ⟨l1, l2⟩, ⟨h1, h2⟩, hSr2⟩ := hrel
            skip
            have qr := hR _ hSr
            have e2 : IntKind.i64.wrap (h - l) = h - l := IntWalk.i64_in _ (by omega)
            have e3 : IntKind.i64.wrap (l + h) = l + h := IntWalk.i64_in _ (by omega)
            by_cases hgt : 1 < h - l
            · have HS2 := Lib.hid ((srS_step hgt).symm.trans HS.out)
              have em : l + (h - l) / 2 = (l + h) / 2 := by omega
              rw [em] at HS2
              have hm : l ≤ (l + h) / 2 ∧ (l + h) / 2 ≤ h := by omega
              have hd1 : l < (l + h) / 2 ∧ (l + h) / 2 < h := by omega
              clear em
              go_wp2_with fail
              refine (k3.out _ _ (m1.out _ hSr2) (m2.out _ hSr2) (m3.out _ hSr2)).mono ?_
              rintro e w3 ⟨A1, a1, B1, b1, D1, d1, rfl, r1, r2, r3, hb⟩
              have hS3 := S_call' hSr2 hb
              have R1 := Lib.hid r1; have R2 := Lib.hid r2; have R3 := Lib.hid r3
              clear hb qr r1 r2 r3
              go_wp2_with fail
              refine (k4.out _ _ _ _ _ _ _ _ R1.out R2.out R3.out).mono ?_
              rintro e w4 ⟨rfl, hb⟩
              have hS4 := S_call' hS3 hb
              clear hb R1 R2 R3
              generalize P ((l + h) / 2) = pm at *
              cases pm with
              | true =>
                rw [if_pos rfl] at HS2
                go_wp2
                refine ⟨⟨_, _, rfl, rfl, HS2, by omega, by omega, hS4⟩, ?_⟩
                simp only [intOf]; omega
              | false =>
                rw [if_neg (by simp)] at HS2
                go_wp2
                refine ⟨⟨_, _, rfl, rfl, HS2, by omega, by omega, hS4⟩, ?_⟩
                simp only [intOf]; omega
            · rw [srS_end hgt] at HS
              go_wp2
              refine bodyPost_ret (v := .tuple #[.int .i64 l, .int .i64 0]) (by simp [results, Tryz.f6, go_sem]) rfl ?_
              exact ⟨by rw [← HVV.out, HY1.out, HS.out], HB.out.trans (hSr2.out.mono HB.out.size)⟩
  · rw [if_pos hy] at HOy
    have HY0 : Hid (Y0 = y) := Lib.hid (by rw [HOy.out])
    have hy1 : (y != 0) = true := by simpa using hy
    go_wp2
    refine bodyPost_ret (v := .tuple #[.int .i64 0, .int .i64 y]) (by simp [results, Tryz.f6, go_sem]) rfl ?_
    exact ⟨by rw [← HVV.out, HY0.out, if_neg hy], HB.out.trans (hS1.out.mono HB.out.size)⟩
end Go.Proofs.YtlnjeelbfokdpaaGreat
/- vergelaw37: the answers that lives asks for; the walk of SenseEdge. Conditions: lists that read. -/
namespace Go.Proofs.YtlnjeelbfokdpaaGreat
open Go.RowKit Go.Shelf

def tk37 (k : Int) : Tk := ⟨2, 5, 100, 0, 50, k, 1, -1, 0, 0⟩
def ln37 : Ln := ⟨3, 4, 2, 50⟩
def th37 : Th := ⟨7, 5, 100, 4⟩
def c37 (k : Int) : Cf := ⟨4, 100, 2, [tk37 k], [ln37], [th37]⟩
structure CS37 (k : Int) (s : Nat) (w : World) : Prop where
  t : w.heap[s + 1]? = some (.cells #[.int .u8 2, .int .i64 5, .int .i64 100, .int .i64 0, .int .i64 50, .int .i64 k, .int .i64 1, .int .i64 (-1), .int .i64 0, .int .i64 0] 39 (0, 0))
  l : w.heap[s + 1 + 1]? = some (.cells #[.int .i64 3, .int .i64 4, .int .i64 2, .int .i64 50] 55 (0, 0))
  h : w.heap[s + 1 + 1 + 1]? = some (.cells #[.int .i64 7, .int .i64 5, .int .i64 100, .int .i64 4] 51 (0, 0))
theorem CS37.below {k : Int} {s : Nat} {w w' : World} (c : CS37 k s w) (hb : Below w.heap.size w w') : CS37 k s w' := ⟨box_keep c.t hb, box_keep c.l hb, box_keep c.h hb⟩
theorem CS37.alloc {k : Int} {s : Nat} {w : World} (c : CS37 k s w) (o : Obj) : CS37 k s (w.alloc o) := ⟨box_alloc c.t _, box_alloc c.l _, box_alloc c.h _⟩
theorem CS37.rt {k : Int} {s : Nat} {w : World} (c : CS37 k s w) : Rd w (some ⟨s + 1, 0, none⟩) ([tk37 k].flatMap tkc) := rd_box (z := (0, 0)) c.t
theorem CS37.rl {k : Int} {s : Nat} {w : World} (c : CS37 k s w) : Rd w (some ⟨s + 1 + 1, 0, none⟩) ([ln37].flatMap lnc) := rd_box (z := (0, 0)) c.l
theorem CS37.rh {k : Int} {s : Nat} {w : World} (c : CS37 k s w) : Rd w (some ⟨s + 1 + 1 + 1, 0, none⟩) ([th37].flatMap thc) := rd_box (z := (0, 0)) c.h
def cv37 (s : Nat) : Value := cfv 4 100 2 (some ⟨s + 1, 0, none⟩) 1 1 (some ⟨s + 1 + 1, 0, none⟩) 1 1 (some ⟨s + 1 + 1 + 1, 0, none⟩) 1 1
theorem small37 (w : World) : Calls Tryz.prog 11 #[] w fun e w' => e = .returned (cv37 w.heap.size) ∧ CS37 9 w.heap.size w' ∧ Below w.heap.size w w' := by
  unfold cv37 cfv
  go_enter Tryz.func11, Tryz.ntmps11
  go_wp2
  refine bodyPost_ret (v := .agg #[.int .i64 4, .int .i64 100, .int .i64 2, .slice (some ⟨w.heap.size + 1, 0, none⟩) 1 1, .slice (some ⟨w.heap.size + 1 + 1, 0, none⟩) 1 1, .slice (some ⟨w.heap.size + 1 + 1 + 1, 0, none⟩) 1 1]) (by simp [results, Tryz.f11, go_sem]) rfl ?_
  refine ⟨rfl, ⟨?_, ?_, ?_⟩, ?_⟩
  · exact box_alloc (box_alloc (heap_new_at _ (by simp)) _) _
  · exact box_alloc (heap_new_at _ (by simp)) _
  · exact heap_new_at _ (by simp)
  · exact (((Below.refl _ _).alloc (Nat.le_refl _) _).alloc (by simp) _).alloc (by simp; omega) _ |>.alloc (by simp; omega) _
section
theorem i64_100 : I64 100 := by unfold I64; omega
theorem p37 (k : Int) : ∀ p ∈ [tk37 k].map (·.prio) ++ [th37].map (·.prio), I64 p := by
  intro p hp
  simp [tk37, th37] at hp
  unfold I64
  omega
variable {k : Int} {s : Nat} {w : World} (c : CS37 k s w)
include c
theorem cost_37 (n : Int) : Calls Tryz.prog 5 #[cv37 s, .int .i64 n] w (RetN (if costY (c37 k) n = 0 then costS (c37 k) n.toNat else 0) (costY (c37 k) n) w) :=
  scost_any 4 100 2 [tk37 k] [ln37] [th37] _ 1 _ 1 _ 1 n w (by simp) (by decide) (by decide) c.rt c.rl c.rh i64_100 (p37 k)
theorem budget_37 (n : Int) : Calls Tryz.prog 8 #[cv37 s, .int .i64 n] w (RetN (if budgetY (c37 k) n = 0 then budgetS (c37 k) n.toNat else 0) (budgetY (c37 k) n) w) :=
  sbudget_any 4 100 2 [tk37 k] [ln37] [th37] _ 1 _ 1 _ 1 n w (by simp) (by decide) (by decide) c.rt c.rl c.rh i64_100 (p37 k)
theorem dead_37 (n : Int) : Calls Tryz.prog 9 #[cv37 s, .int .i64 n] w (RetN (if costY (c37 k) n = 0 then deadS (c37 k) n.toNat else 0) (costY (c37 k) n) w) :=
  sdead_any 4 100 2 [tk37 k] [ln37] [th37] _ 1 _ 1 _ 1 n w (by simp) (by decide) (by decide) c.rt c.rl c.rh i64_100 (p37 k)
theorem switch_37 : Calls Tryz.prog 7 #[cv37 s] w (RetN (if oyY (c37 k) = 0 then switchS (c37 k) else 0) (oyY (c37 k)) w) :=
  sswitch_any 4 100 2 [tk37 k] [ln37] [th37] _ 1 _ 1 _ 1 w (by simp) (by decide) (by decide) c.rt c.rl c.rh i64_100 (p37 k)
end
theorem switch_0 (w : World) : Calls Tryz.prog 7 #[cfv 0 0 0 none 0 0 none 0 0 none 0 0] w (RetN (if oyY ⟨0, 0, 0, [], [], []⟩ = 0 then switchS ⟨0, 0, 0, [], [], []⟩ else 0) (oyY ⟨0, 0, 0, [], [], []⟩) w) :=
  sswitch_any 0 0 0 [] [] [] none 0 none 0 none 0 w (by decide) (by decide) (by decide) (Rd.nil _ _) (Rd.nil _ _) (Rd.nil _ _) i64_0 (by simp)
theorem v37_1 : (if costY (c37 9) 0 = 0 then costS (c37 9) (0 : Int).toNat else 0) = 35 := by kernel_rfl
theorem v37_2 : (if oyY (c37 9) = 0 then switchS (c37 9) else 0) = 28 := by kernel_rfl
theorem v37_3 : (if budgetY (c37 9) 0 = 0 then budgetS (c37 9) (0 : Int).toNat else 0) = 31 := by kernel_rfl
theorem v37_4 : (if costY (c37 9) 0 = 0 then deadS (c37 9) (0 : Int).toNat else 0) = 24 := by kernel_rfl
theorem y37_1 : costY (c37 9) 0 = 0 := by kernel_rfl
theorem y37_2 : oyY (c37 9) = 0 := by kernel_rfl
theorem y37_3 : budgetY (c37 9) 0 = 0 := by kernel_rfl
theorem y37_5 : costY (c37 9) 1 = 1 := by kernel_rfl
theorem y37_6 : oyY ⟨0, 0, 0, [], [], []⟩ = 2 := by kernel_rfl
theorem y37_7 : budgetY (c37 48) 0 = 11 := by kernel_rfl
set_option maxHeartbeats 4000000 in
set_option maxRecDepth 100000 in
theorem lives37 (w : World) : Calls Tryz.prog 4 #[] w fun e w' => e = .returned (.bool true) ∧ Below w.heap.size w w' := by
  have f0 := Lib.hid (fun w => small37 w)
  have c1 := Lib.hid (fun s w (h : CS37 9 s w) => cost_37 h 0)
  have c2 := Lib.hid (fun s w (h : CS37 9 s w) => switch_37 h)
  have c3 := Lib.hid (fun s w (h : CS37 9 s w) => budget_37 h 0)
  have c4 := Lib.hid (fun s w (h : CS37 9 s w) => dead_37 h 0)
  have c5 := Lib.hid (fun s w (h : CS37 9 s w) => cost_37 h 1)
  have c6 := Lib.hid (fun w => switch_0 w)
  have c7 := Lib.hid (fun s w (h : CS37 48 s w) => budget_37 h 0)
  rw [v37_1, y37_1] at c1
  rw [v37_2, y37_2] at c2
  rw [v37_3, y37_3] at c3
  rw [v37_4, y37_1] at c4
  rw [y37_5] at c5
  rw [y37_6] at c6
  rw [y37_7] at c7
  rw [if_neg (by decide)] at c5 c6 c7
  unfold cv37 cfv RetN at *
  go_enter Tryz.func4, Tryz.ntmps4
  go_wp2_with fail
  refine (f0.out _).mono ?_
  rintro e w0 ⟨rfl, hCS, hb0⟩
  have H0 := Lib.hid hCS; have B0 := Lib.hid hb0
  clear hCS hb0
  go_upto_region 2 with fail
  refine name_world fun W hW => ?_
  have HC : Hid (W.heap[w0.heap.size]? = some (.cells #[.int .i64 4, .int .i64 100, .int .i64 2, .slice (some ⟨w.heap.size + 1, 0, none⟩) 1 1, .slice (some ⟨w.heap.size + 1 + 1, 0, none⟩) 1 1, .slice (some ⟨w.heap.size + 1 + 1 + 1, 0, none⟩) 1 1] 28 (0, 0))) := Lib.hid (by rw [hW]; exact heap_alloc_new _ _)
  have HS : Hid (CS37 9 w.heap.size W) := Lib.hid (by rw [hW]; exact H0.out.alloc _)
  have HB : Hid (Below w.heap.size w W) := Lib.hid (by rw [hW]; exact B0.out.alloc B0.out.size _)
  have hR := fun w' (h : Hid (Below W.heap.size W w')) => (box_rules (box_keep HC.out h.out)).1
  have mS := Lib.hid (fun w' (h : Hid (Below W.heap.size W w')) => HS.out.below h.out)
  have hS0 := S_refl' W
  have lS := box_lt H0.out.t
  have q0 := hR _ hS0
  clear hW B0 H0
  generalize hbc : w0.heap.size = bc at *
  go_wp2_with fail
  refine (c1.out _ _ (mS.out _ hS0)).mono ?_
  rintro e w1 ⟨rfl, hb1⟩
  have hS1 := S_call' hS0 hb1
  have q1 := hR _ hS1
  clear hb1 q0
  go_wp2_with fail
  refine (c2.out _ _ (mS.out _ hS1)).mono ?_
  rintro e w2 ⟨rfl, hb1⟩
  have hS2 := S_call' hS1 hb1
  have q2 := hR _ hS2
  clear hb1 q1
  go_wp2_with fail
  refine (c3.out _ _ (mS.out _ hS2)).mono ?_
  rintro e w3 ⟨rfl, hb1⟩
  have hS3 := S_call' hS2 hb1
  have q3 := hR _ hS3
  clear hb1 q2
  go_wp2_with fail
  refine (c4.out _ _ (mS.out _ hS3)).mono ?_
  rintro e w4 ⟨rfl, hb1⟩
  have hS4 := S_call' hS3 hb1
  have q4 := hR _ hS4
  clear hb1 q3
  go_wp2_with fail
  refine (c5.out _ _ (mS.out _ hS4)).mono ?_
  rintro e w5 ⟨rfl, hb1⟩
  have hS5 := S_call' hS4 hb1
  have q5 := hR _ hS5
  clear hb1 q4
  go_wp2_with fail
  refine (c6.out _).mono ?_
  rintro e w6 ⟨rfl, hb1⟩
  have hS6 := S_call' hS5 hb1
  have q6 := hR _ hS6
  clear hb1 q5
  have HT6 := Lib.hid (mS.out _ hS6)
  obtain ⟨tx, ty⟩ := box_rules HT6.out.t
  have tx5 : w6.cell? ⟨w.heap.size + 1, 5, none⟩ = some (.int .i64 9) := tx 5
  have ty5 : w6.frozen? ⟨w.heap.size + 1, 5, none⟩ = false := ty 5
  go_upto_region 9 with fail
  refine name_world fun U hU => ?_
  have HU : Hid (CS37 48 w.heap.size U) := Lib.hid (by
    rw [hU]
    exact ⟨box_set (i := 5) HT6.out.t _, box_far HT6.out.l (p := ⟨w.heap.size + 1, 5, none⟩) (by show _ ≠ w.heap.size + 1; omega) _, box_far HT6.out.h (p := ⟨w.heap.size + 1, 5, none⟩) (by show _ ≠ w.heap.size + 1; omega) _⟩)
  have HCU : Hid (U.heap[bc]? = some (.cells #[.int .i64 4, .int .i64 100, .int .i64 2, .slice (some ⟨w.heap.size + 1, 0, none⟩) 1 1, .slice (some ⟨w.heap.size + 1 + 1, 0, none⟩) 1 1, .slice (some ⟨w.heap.size + 1 + 1 + 1, 0, none⟩) 1 1] 28 (0, 0))) := Lib.hid (by rw [hU]; exact box_far (box_keep HC.out hS6.out) (p := ⟨w.heap.size + 1, 5, none⟩) (by show bc ≠ w.heap.size + 1; omega) _)
  have HBU : Hid (Below w.heap.size w U) := Lib.hid (by rw [hU]; exact (HB.out.trans (hS6.out.mono HB.out.size)).setCell (p := ⟨w.heap.size + 1, 5, none⟩) (by show _ ≤ w.heap.size + 1; omega) _)
  clear hU tx ty tx5 ty5 q6 HT6
  obtain ⟨ux, uy⟩ := box_rules HCU.out
  go_wp2_with fail
  refine (c7.out _ U HU.out).mono ?_
  rintro e w7 ⟨rfl, hb1⟩
  have HB7 := Lib.hid (HBU.out.trans (hb1.mono HBU.out.size))
  clear hb1 ux uy
  go_wp2
  go_ret
  exact ⟨rfl, HB7.out⟩
end Go.Proofs.YtlnjeelbfokdpaaGreat
/- vergeref37: the walk of Deadline; vergelaw37: the walk of SenseTells. Conditions: lists that read. -/
namespace Go.Proofs.YtlnjeelbfokdpaaGreat
open Go.RowKit Go.Shelf

set_option maxHeartbeats 4000000 in
set_option maxRecDepth 100000 in
theorem dead37 (mn mx sw : Int) (ts : List Tk) (ls : List Ln) (hs : List Th) (A : Option Addr) (ca : Nat) (B : Option Addr) (cb : Nat) (D : Option Addr) (cd : Nat) (n : Int) (w : World)
    (hlt0 : ts.length ≤ 1048576) (hll : ls.length ≤ 1048576) (hlh : hs.length ≤ 1048576)
    (ht : Rd w A (ts.flatMap tkc)) (hl : Rd w B (ls.flatMap lnc)) (hh : Rd w D (hs.flatMap thc)) (hmx : I64 mx) :
    Calls Tryz.prog 10 #[cfv mn mx sw A ts.length ca B ls.length cb D hs.length cd, .int .i64 n] w
      (RetN (if costY ⟨mn, mx, sw, ts, ls, hs⟩ n = 0 then deadS ⟨mn, mx, sw, ts, ls, hs⟩ n.toNat else 0) (costY ⟨mn, mx, sw, ts, ls, hs⟩ n) w) := by
  have c1 := Lib.hid (fun w ht hl hh => check27_cfg mn mx sw ts ls hs A ca B cb D cd w hlt0 hll hlh ht hl hh hmx)
  have c2 := Lib.hid (fun w ht hl hh => acc37 mn mx sw ts ls hs rfl rfl rfl A ca B cb D cd w hlt0 hll hlh ht hl hh hmx)
  have c3 := Lib.hid (fun hy k hk w ht hl hh => bd28_one mn mx sw ts ls hs A ca B cb D cd w hlt0 hll hlh hy k hk ht hl hh hmx)
  have HIn : Hid (Cf.why ⟨mn, mx, sw, ts, ls, hs⟩ = 0 → (0 ≤ sw ∧ sw ≤ 1099511627776) ∧ ∀ x ∈ ts, TkIn x sw) := Lib.hid (fun h => by
    have c := cfIn_of h
    have c2 := c.sw
    dsimp only at c2
    exact ⟨c2, c.ts⟩)
  have HYd : Hid (costY ⟨mn, mx, sw, ts, ls, hs⟩ n = if oyY ⟨mn, mx, sw, ts, ls, hs⟩ ≠ 0 then oyY ⟨mn, mx, sw, ts, ls, hs⟩ else if n < 0 ∨ (ts.length : Int) ≤ n then 1 else 0) := Lib.hid rfl
  have HOy : Hid (oyY ⟨mn, mx, sw, ts, ls, hs⟩ = if Cf.why ⟨mn, mx, sw, ts, ls, hs⟩ ≠ 0 then Cf.why ⟨mn, mx, sw, ts, ls, hs⟩ else if accB ⟨mn, mx, sw, ts, ls, hs⟩ then 0 else 11) := Lib.hid rfl
  have HSd : Hid (∀ i, deadS ⟨mn, mx, sw, ts, ls, hs⟩ i = max (bdF mn sw ts ls hs i).1 ((ts.getD i tk0).cost + sw)) := Lib.hid (fun _ => rfl)
  have HGo : Hid (∀ k, accB ⟨mn, mx, sw, ts, ls, hs⟩ = true → Cf.why ⟨mn, mx, sw, ts, ls, hs⟩ = 0 → k < ts.length → (bdF mn sw ts ls hs k).2 = 0) := Lib.hid (fun k h1 h2 hk => acc_good h1 h2 k hk)
  have Ht := Lib.hid ht; have Hl := Lib.hid hl; have Hh := Lib.hid hh
  clear ht hl hh hmx
  unfold cfv RetN at *
  generalize Cf.why ⟨mn, mx, sw, ts, ls, hs⟩ = y at *
  generalize oyY ⟨mn, mx, sw, ts, ls, hs⟩ = Y0 at *
  generalize accB ⟨mn, mx, sw, ts, ls, hs⟩ = ac at *
  generalize costY ⟨mn, mx, sw, ts, ls, hs⟩ n = Y at *
  generalize deadS ⟨mn, mx, sw, ts, ls, hs⟩ = SS at *
  generalize bdF mn sw ts ls hs = bf at *
  generalize hVV : (if Y = 0 then SS n.toNat else 0) = VV
  have HVV := Lib.hid hVV
  clear hVV
  go_enter Tryz.func10, Tryz.ntmps10
  go_upto_region 1 with fail
  refine name_world fun W hW => ?_
  have HC : Hid (W.heap[w.heap.size]? = some (.cells #[.int .i64 mn, .int .i64 mx, .int .i64 sw, .slice A ts.length ca, .slice B ls.length cb, .slice D hs.length cd] 28 (0, 0))) := Lib.hid (by rw [hW]; exact heap_alloc_new w _)
  have HB : Hid (Below w.heap.size w W) := Lib.hid (by rw [hW]; exact (Below.refl _ _).alloc (Nat.le_refl _) _)
  have hR := fun w' (h : Hid (Below W.heap.size W w')) => (box_rules (box_keep HC.out h.out)).1
  have m1 := Lib.hid (fun w' (h : Hid (Below W.heap.size W w')) => (Ht.out.below HB.out).below h.out)
  have m2 := Lib.hid (fun w' (h : Hid (Below W.heap.size W w')) => (Hl.out.below HB.out).below h.out)
  have m3 := Lib.hid (fun w' (h : Hid (Below W.heap.size W w')) => (Hh.out.below HB.out).below h.out)
  have hS0 := S_refl' W
  have q0 := hR _ hS0
  clear hW Ht Hl Hh
  go_wp2_with fail
  refine (c1.out _ (m1.out _ hS0) (m2.out _ hS0) (m3.out _ hS0)).mono ?_
  rintro e w1 ⟨rfl, hb⟩
  have hS1 := S_call' hS0 hb
  have q1 := hR _ hS1
  clear hb q0 c1
  by_cases hy : y = 0
  · obtain ⟨⟨hsw0, hsw1⟩, hts⟩ := HIn.out hy
    have HTs := Lib.hid hts
    clear hts HIn
    rw [if_neg (by simp [hy])] at HOy
    have c4 := Lib.hid (fun k hk w r1 r2 r3 => c3.out hy k hk w r1 r2 r3)
    have HG2 := Lib.hid (fun k h1 h2 => HGo.out k h1 hy h2)
    subst hy
    clear c3 HGo
    have hy1 : ((0 : Int) != 0) = false := by decide
    go_wp2_with fail
    refine (c2.out _ (m1.out _ hS1) (m2.out _ hS1) (m3.out _ hS1)).mono ?_
    rintro e w2 ⟨rfl, hb⟩
    have hS2 := S_call' hS1 hb
    have q2 := hR _ hS2
    clear hb q1 c2
    cases ac with
    | false =>
      have HY0 : Hid (Y = 11) := Lib.hid (by rw [HYd.out, HOy.out]; rfl)
      go_wp2
      refine bodyPost_ret (v := .tuple #[.int .i64 0, .int .i64 11]) (by simp [results, Tryz.f10, go_sem]) rfl ?_
      exact ⟨by rw [← HVV.out, HY0.out]; rfl, HB.out.trans (hS2.out.mono HB.out.size)⟩
    | true =>
      have HY0 : Hid (Y = if n < 0 ∨ (ts.length : Int) ≤ n then 1 else 0) := Lib.hid (by rw [HYd.out, HOy.out]; rfl)
      clear HYd HOy
      by_cases h0 : n < 0
      · have HY1 : Hid (Y = 1) := Lib.hid (by rw [HY0.out, if_pos (.inl h0)])
        go_wp2
        refine bodyPost_ret (v := .tuple #[.int .i64 0, .int .i64 1]) (by simp [results, Tryz.f10, go_sem]) rfl ?_
        exact ⟨by rw [← HVV.out, HY1.out]; rfl, HB.out.trans (hS2.out.mono HB.out.size)⟩
      · by_cases h1 : (ts.length : Int) ≤ n
        · have HY1 : Hid (Y = 1) := Lib.hid (by rw [HY0.out, if_pos (.inr h1)])
          have h0' : 0 ≤ n := by omega
          go_wp2
          refine bodyPost_ret (v := .tuple #[.int .i64 0, .int .i64 1]) (by simp [results, Tryz.f10, go_sem]) rfl ?_
          exact ⟨by rw [← HVV.out, HY1.out]; rfl, HB.out.trans (hS2.out.mono HB.out.size)⟩
        · have HY1 : Hid (Y = 0) := Lib.hid (by rw [HY0.out, if_neg (by omega)])
          clear HY0
          obtain ⟨i, rfl⟩ := Int.eq_ofNat_of_zero_le (show 0 ≤ n by omega)
          have hi : i < ts.length := by omega
          have hxin := HTs.out _ (getD_mem (d := tk0) hi)
          have HZ := Lib.hid (HG2.out i (by first | rfl | trivial) hi)
          have HN0 := Lib.hid (HSd.out i)
          have c5 := Lib.hid (fun w r1 r2 r3 => c4.out i hi w r1 r2 r3)
          generalize hxx : ts.getD i tk0 = xx at *
          have HX := Lib.hid hxx
          clear hxx
          have hnum : (1 ≤ xx.cost ∧ xx.cost ≤ 1099511627776) := by have := hxin.cost; have := hxin.deadline; have := hxin.period; omega
          clear HG2 HSd c4 hxin HTs
          rw [HZ.out] at c5
          clear HZ
          generalize (bf i).1 = b at *
          have i1 : (0 : Int) ≤ (i : Int) := by omega
          have i2 : (i : Int) < (ts.length : Int) := by omega
          go_wp2_with fail
          refine (c5.out _ (m1.out _ hS2) (m2.out _ hS2) (m3.out _ hS2)).mono ?_
          rintro e w3 ⟨rfl, hb⟩
          have hS3 := S_call' hS2 hb
          have q3 := hR _ hS3
          clear hb q2 c5
          obtain ⟨a, x', rfl, hx', ⟨-, -, -, -⟩, -, g5, -, -, -, -⟩ := (m1.out _ hS3).tkAt hi
          obtain rfl := HX.out.symm.trans hx'
          have e1 : IntKind.i64.wrap (xx.cost + sw) = xx.cost + sw := IntWalk.i64_in _ (by omega)
          clear hx'
          obtain ⟨x0, x1, x2, x3, x4, x5, x6, x7, x8, x9⟩ := xx
          dsimp only at *
          by_cases hm : b ≤ x5 + sw
          · have HN2 := Lib.hid (show SS i = x5 + sw by rw [HN0.out]; omega)
            go_wp2
            go_quiet (fail)
            go_wp2
            all_goals
              refine bodyPost_ret (v := .tuple #[.int .i64 (x5 + sw), .int .i64 0]) (by simp [results, Tryz.f10, go_sem] <;> omega) rfl ?_
              exact ⟨by rw [← HVV.out, HY1.out, if_pos rfl, Int.toNat_natCast, HN2.out], bdrewN (HB.out.trans (hS3.out.mono HB.out.size)) _⟩
          · have HN2 := Lib.hid (show SS i = b by rw [HN0.out]; omega)
            go_wp2
            go_quiet (fail)
            go_wp2
            all_goals
              refine bodyPost_ret (v := .tuple #[.int .i64 b, .int .i64 0]) (by simp [results, Tryz.f10, go_sem]) rfl ?_
              exact ⟨by rw [← HVV.out, HY1.out, if_pos rfl, Int.toNat_natCast, HN2.out], bdrewN (HB.out.trans (hS3.out.mono HB.out.size)) _⟩
  · rw [if_pos hy] at HOy
    have HY0 : Hid (Y = y) := Lib.hid (by rw [HYd.out, HOy.out, if_pos hy])
    have hy1 : (y != 0) = true := by simpa using hy
    go_wp2
    refine bodyPost_ret (v := .tuple #[.int .i64 0, .int .i64 y]) (by simp [results, Tryz.f10, go_sem]) rfl ?_
    exact ⟨by rw [← HVV.out, HY0.out, if_neg hy], HB.out.trans (hS1.out.mono HB.out.size)⟩
set_option maxHeartbeats 4000000 in
set_option maxRecDepth 100000 in
theorem tells37_cfg (mn mx sw : Int) (ts : List Tk) (ls : List Ln) (hs : List Th) (A : Option Addr) (ca : Nat) (B : Option Addr) (cb : Nat) (D : Option Addr) (cd : Nat) (n : Int) (w : World)
    (hlt0 : ts.length ≤ 1048576) (hll : ls.length ≤ 1048576) (hlh : hs.length ≤ 1048576)
    (ht : Rd w A (ts.flatMap tkc)) (hl : Rd w B (ls.flatMap lnc)) (hh : Rd w D (hs.flatMap thc)) (hmx : I64 mx) (ht64 : ∀ p ∈ ts.map (·.prio) ++ hs.map (·.prio), I64 p) :
    Calls Tryz.prog 3 #[cfv mn mx sw A ts.length ca B ls.length cb D hs.length cd, .int .i64 n] w fun e w' => e = .returned (.bool true) ∧ Below w.heap.size w w' := by
  have f0 := Lib.hid (fun w => lives37 w)
  have c1 := Lib.hid (fun w ht hl hh => scost_any mn mx sw ts ls hs A ca B cb D cd n w hlt0 hll hlh ht hl hh hmx ht64)
  have c2 := Lib.hid (fun w ht hl hh => sswitch_any mn mx sw ts ls hs A ca B cb D cd w hlt0 hll hlh ht hl hh hmx ht64)
  have c3 := Lib.hid (fun w ht hl hh => sbudget_any mn mx sw ts ls hs A ca B cb D cd n w hlt0 hll hlh ht hl hh hmx ht64)
  have c4 := Lib.hid (fun w ht hl hh => sdead_any mn mx sw ts ls hs A ca B cb D cd n w hlt0 hll hlh ht hl hh hmx ht64)
  have k1 := Lib.hid (fun w ht hl hh => find1 mn mx sw ts ls hs A ca B cb D cd n w hlt0 hll hlh ht hl hh hmx)
  have k2 := Lib.hid (fun w ht hl hh => find2 mn mx sw ts ls hs A ca B cb D cd w hlt0 hll hlh ht hl hh hmx)
  have k3 := Lib.hid (fun w ht hl hh => find3 mn mx sw ts ls hs A ca B cb D cd n w hlt0 hll hlh ht hl hh hmx)
  have k4 := Lib.hid (fun w ht hl hh => dead37 mn mx sw ts ls hs A ca B cb D cd n w hlt0 hll hlh ht hl hh hmx)
  have Ht := Lib.hid ht; have Hl := Lib.hid hl; have Hh := Lib.hid hh
  clear ht hl hh hmx ht64
  unfold RetN cfv at *
  generalize (if costY ⟨mn, mx, sw, ts, ls, hs⟩ n = 0 then costS ⟨mn, mx, sw, ts, ls, hs⟩ n.toNat else 0) = x1 at *
  generalize (if costY ⟨mn, mx, sw, ts, ls, hs⟩ n = 0 then deadS ⟨mn, mx, sw, ts, ls, hs⟩ n.toNat else 0) = x4 at *
  generalize (if oyY ⟨mn, mx, sw, ts, ls, hs⟩ = 0 then switchS ⟨mn, mx, sw, ts, ls, hs⟩ else 0) = x2 at *
  generalize (if budgetY ⟨mn, mx, sw, ts, ls, hs⟩ n = 0 then budgetS ⟨mn, mx, sw, ts, ls, hs⟩ n.toNat else 0) = x3 at *
  generalize costY ⟨mn, mx, sw, ts, ls, hs⟩ n = y1 at *
  generalize oyY ⟨mn, mx, sw, ts, ls, hs⟩ = y2 at *
  generalize budgetY ⟨mn, mx, sw, ts, ls, hs⟩ n = y3 at *
  go_enter Tryz.func3, Tryz.ntmps3
  go_upto_region 1 with fail
  refine name_world fun W hW => ?_
  have HC : Hid (W.heap[w.heap.size]? = some (.cells #[.int .i64 mn, .int .i64 mx, .int .i64 sw, .slice A ts.length ca, .slice B ls.length cb, .slice D hs.length cd] 28 (0, 0))) := Lib.hid (by rw [hW]; exact heap_alloc_new w _)
  have HB : Hid (Below w.heap.size w W) := Lib.hid (by rw [hW]; exact (Below.refl _ _).alloc (Nat.le_refl _) _)
  have hR := fun w' (h : Hid (Below W.heap.size W w')) => (box_rules (box_keep HC.out h.out)).1
  have m1 := Lib.hid (fun w' (h : Hid (Below W.heap.size W w')) => (Ht.out.below HB.out).below h.out)
  have m2 := Lib.hid (fun w' (h : Hid (Below W.heap.size W w')) => (Hl.out.below HB.out).below h.out)
  have m3 := Lib.hid (fun w' (h : Hid (Below W.heap.size W w')) => (Hh.out.below HB.out).below h.out)
  have hS0 := S_refl' W
  have q0 := hR _ hS0
  clear hW Ht Hl Hh
  by_cases hb : (40 : Int) < (ts.length : Int) + ls.length + hs.length
  · go_wp2_with (go_at_call 4; refine (f0.out _).mono ?_; rintro e w' ⟨rfl, hb⟩)
    go_ret
    exact ⟨rfl, HB.out.trans (Below.mono (B := W.heap.size) (by assumption) HB.out.size)⟩
  · go_wp2_with fail
    refine (c1.out _ (m1.out _ hS0) (m2.out _ hS0) (m3.out _ hS0)).mono ?_
    rintro e w1 ⟨rfl, hb1⟩
    have hS1 := S_call' hS0 hb1
    have q1 := hR _ hS1
    clear hb1 q0
    go_wp2_with fail
    refine (k1.out _ (m1.out _ hS1) (m2.out _ hS1) (m3.out _ hS1)).mono ?_
    rintro e w2 ⟨rfl, hb1⟩
    have hS2 := S_call' hS1 hb1
    have q2 := hR _ hS2
    clear hb1 q1
    go_wp2_with fail
    refine (c2.out _ (m1.out _ hS2) (m2.out _ hS2) (m3.out _ hS2)).mono ?_
    rintro e w3 ⟨rfl, hb1⟩
    have hS3 := S_call' hS2 hb1
    have q3 := hR _ hS3
    clear hb1 q2
    go_wp2_with fail
    refine (k2.out _ (m1.out _ hS3) (m2.out _ hS3) (m3.out _ hS3)).mono ?_
    rintro e w4 ⟨rfl, hb1⟩
    have hS4 := S_call' hS3 hb1
    have q4 := hR _ hS4
    clear hb1 q3
    go_wp2_with fail
    refine (c3.out _ (m1.out _ hS4) (m2.out _ hS4) (m3.out _ hS4)).mono ?_
    rintro e w5 ⟨rfl, hb1⟩
    have hS5 := S_call' hS4 hb1
    have q5 := hR _ hS5
    clear hb1 q4
    go_wp2_with fail
    refine (k3.out _ (m1.out _ hS5) (m2.out _ hS5) (m3.out _ hS5)).mono ?_
    rintro e w6 ⟨rfl, hb1⟩
    have hS6 := S_call' hS5 hb1
    have q6 := hR _ hS6
    clear hb1 q5
    go_wp2_with fail
    refine (c4.out _ (m1.out _ hS6) (m2.out _ hS6) (m3.out _ hS6)).mono ?_
    rintro e w7 ⟨rfl, hb1⟩
    have hS7 := S_call' hS6 hb1
    have q7 := hR _ hS7
    clear hb1 q6
    go_wp2_with fail
    refine (k4.out _ (m1.out _ hS7) (m2.out _ hS7) (m3.out _ hS7)).mono ?_
    rintro e w8 ⟨rfl, hb1⟩
    have hS8 := S_call' hS7 hb1
    have q8 := hR _ hS8
    clear hb1 q7
    go_wp2_with fail
    refine (f0.out _).mono ?_
    rintro e w9 ⟨rfl, hb1⟩
    have hS9 := S_call' hS8 hb1
    have q9 := hR _ hS9
    clear hb1 q8
    go_wp2
    go_ret
    exact ⟨rfl, HB.out.trans (hS9.out.mono HB.out.size)⟩
end Go.Proofs.YtlnjeelbfokdpaaGreat

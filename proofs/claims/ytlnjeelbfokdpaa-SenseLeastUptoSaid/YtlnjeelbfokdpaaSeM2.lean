/- Package sense: the walks of Cost, Budget. Conditions: lists that read. -/
import Derived.Test.YtlnjeelbfokdpaaSeM1
import Derived.Laws.EntriesVeiled
namespace Go.Proofs.Ytlnjeelbfokdpaa
open Go.RowKit Go.Shelf

/-- Why nothing is told of the one at i. -/
def sY (Y : Int) (len : Nat) (i : Int) : Int := if Y ≠ 0 then Y else if i < 0 ∨ (len : Int) ≤ i then 1 else 0
theorem oyY_zero {c : Cf} (h : oyY c = 0) : c.why = 0 ∧ accB c = true := by
  unfold oyY at h
  by_cases h1 : c.why ≠ 0
  · rw [if_pos h1] at h; exact absurd h h1
  · rw [if_neg h1] at h
    refine ⟨by simpa using h1, ?_⟩
    cases ha : accB c with
    | true => rfl
    | false => rw [ha] at h; simp at h
def costS (c : Cf) (i : Nat) : Int := srS (fun n => accB ⟨c.mn, c.mx, c.sw, tkPut c.ts i n, c.ls, c.hs⟩) (c.ts.getD i tk0).cost ((c.ts.getD i tk0).deadline + 1)
def budgetS (c : Cf) (i : Nat) : Int := srS (fun n => accB ⟨c.mn, c.mx, c.sw, c.ts, c.ls, thPut c.hs i n⟩) (c.hs.getD i ⟨0, 0, 0, 0⟩).budget ((c.hs.getD i ⟨0, 0, 0, 0⟩).period + 1)
def costY (c : Cf) (i : Int) : Int := sY (oyY c) c.ts.length i
def budgetY (c : Cf) (i : Int) : Int := sY (oyY c) c.hs.length i
set_option maxHeartbeats 4000000 in
set_option maxRecDepth 100000 in
theorem scost_any (mn mx sw : Int) (ts : List Tk) (ls : List Ln) (hs : List Th) (A : Option Addr) (ca : Nat) (B : Option Addr) (cb : Nat) (D : Option Addr) (cd : Nat) (n : Int) (w : World)
    (hlt0 : ts.length ≤ 1048576) (hll : ls.length ≤ 1048576) (hlh : hs.length ≤ 1048576)
    (ht : Rd w A (ts.flatMap tkc)) (hl : Rd w B (ls.flatMap lnc)) (hh : Rd w D (hs.flatMap thc)) (hmx : I64 mx) (ht64 : ∀ p ∈ ts.map (·.prio) ++ hs.map (·.prio), I64 p) :
    Calls Try.prog 15 #[cfv mn mx sw A ts.length ca B ls.length cb D hs.length cd, .int .i64 n] w
      (RetN (if costY ⟨mn, mx, sw, ts, ls, hs⟩ n = 0 then costS ⟨mn, mx, sw, ts, ls, hs⟩ n.toNat else 0) (costY ⟨mn, mx, sw, ts, ls, hs⟩ n) w) := by
  have c1 := Lib.hid (fun w ht hl hh => sopen_any mn mx sw ts ls hs A ca B cb D cd w hlt0 hll hlh ht hl hh hmx ht64)
  have HIn : Hid (oyY ⟨mn, mx, sw, ts, ls, hs⟩ = 0 → (∀ x ∈ ts, TkIn x sw) ∧ ∀ x ∈ hs, ThIn x) := Lib.hid (fun h => ⟨(cfIn_of (oyY_zero h).1).ts, (cfIn_of (oyY_zero h).1).hs⟩)
  have HA : Hid (∀ (w0 : World), Rd w0 B (ls.flatMap lnc) → ∀ (i p : Nat) (A1 : Option Addr) (c1 : Nat) (D1 : Option Addr) (d1 : Nat) (bq : Nat) (cv : Value) (ct : TypeId), i < ts.length → ∀ (m : Int) (wx : World), PrQ mn mx ts.length ls.length hs.length p w0.heap.size A1 c1 B cb D1 d1 31 bq cv ct (fun _ => sw) (tkPut ts i) (fun _ => hs) w0 m wx →
      Calls Try.prog 10 #[cfv mn mx sw A1 ts.length c1 B ls.length cb D1 hs.length d1] wx fun e w' => e = .returned (.bool (accB ⟨mn, mx, sw, tkPut ts i m, ls, hs⟩)) ∧ Below wx.heap.size wx w') := Lib.hid (fun w0 hl0 i p A1 c1 D1 d1 bq cv ct hi m wx h =>
    acc_pr ls h.1 (tkPut_len ts i m) rfl rfl hlt0 hll hlh hl0 hmx (fun q hq => by
      rcases List.mem_append.1 hq with h | h
      · exact ht64 q (List.mem_append_left _ (tkPut_prio hi h))
      · exact ht64 q (List.mem_append_right _ h)))
  have HYd : Hid (costY ⟨mn, mx, sw, ts, ls, hs⟩ n = sY (oyY ⟨mn, mx, sw, ts, ls, hs⟩) ts.length n) := Lib.hid rfl
  have HSd : Hid (∀ i, costS ⟨mn, mx, sw, ts, ls, hs⟩ i = srS (fun n => accB ⟨mn, mx, sw, tkPut ts i n, ls, hs⟩) (ts.getD i tk0).cost ((ts.getD i tk0).deadline + 1)) := Lib.hid (fun _ => rfl)
  have Ht := Lib.hid ht; have Hl := Lib.hid hl; have Hh := Lib.hid hh
  clear ht hl hh hmx ht64
  unfold cfv RetN at *
  generalize oyY ⟨mn, mx, sw, ts, ls, hs⟩ = Y0 at *
  generalize costY ⟨mn, mx, sw, ts, ls, hs⟩ n = Y at *
  generalize costS ⟨mn, mx, sw, ts, ls, hs⟩ = SS at *
  unfold sY at HYd
  generalize hVV : (if Y = 0 then SS n.toNat else 0) = VV
  have HVV := Lib.hid hVV
  clear hVV
  go_enter Try.func15, Try.ntmps15
  go_upto_region 1 with fail
  refine name_world fun W hW => ?_
  have HC : Hid (W.heap[w.heap.size]? = some (.cells #[.int .i64 mn, .int .i64 mx, .int .i64 sw, .slice A ts.length ca, .slice B ls.length cb, .slice D hs.length cd] 29 (0, 0))) := Lib.hid (by rw [hW]; exact heap_alloc_new w _)
  have HB : Hid (Below w.heap.size w W) := Lib.hid (by rw [hW]; exact (Below.refl _ _).alloc (Nat.le_refl _) _)
  have HlW := Lib.hid (Hl.out.below HB.out)
  have q0 := (box_rules HC.out).1
  have lW := box_lt HC.out
  clear hW
  go_wp2_with fail
  refine (c1.out W (Ht.out.below HB.out) HlW.out (Hh.out.below HB.out)).mono ?_
  rintro e w1 ⟨v, rfl, hb, hv1, hv2⟩
  have HC1 := Lib.hid (box_keep HC.out hb)
  have HB1 := Lib.hid (HB.out.trans (hb.mono HB.out.size))
  have HV1 := Lib.hid hv1; have HV2 := Lib.hid hv2
  clear hb hv1 hv2 q0 c1 Ht Hl Hh
  obtain ⟨cx, cy⟩ := box_rules HC1.out
  by_cases hY0 : Y0 = 0
  · rw [if_neg (by simp [hY0])] at HYd
    obtain ⟨hts, hhs⟩ := HIn.out hY0
    have HV := Lib.hid (HV2.out hY0)
    subst hY0
    have hy1 : ((0 : Int) != 0) = false := by decide
    clear HV1 HV2 HIn
    by_cases h0 : n < 0
    · rw [if_pos (.inl h0)] at HYd
      have HY1 := Lib.hid HYd.out
      go_wp2
      refine bodyPost_ret (v := .tuple #[.int .i64 0, .int .i64 1]) (by simp [results, Try.f15, go_sem]) rfl ?_
      exact ⟨by rw [← HVV.out, HY1.out]; rfl, HB1.out⟩
    · by_cases h1 : (ts.length : Int) ≤ n
      · rw [if_pos (.inr h1)] at HYd
        have HY1 := Lib.hid HYd.out
        go_wp2
        refine bodyPost_ret (v := .tuple #[.int .i64 0, .int .i64 1]) (by simp [results, Try.f15, go_sem]) rfl ?_
        exact ⟨by rw [← HVV.out, HY1.out]; rfl, HB1.out⟩
      · rw [if_neg (by omega)] at HYd
        obtain ⟨i, rfl⟩ := Int.eq_ofNat_of_zero_le (show 0 ≤ n by omega)
        have hi : i < ts.length := by omega
        obtain ⟨p, A1, c1, D1, d1, rfl, hI⟩ := HV.out
        have HI := Lib.hid hI
        clear HV hI
        have hxin := hts _ (getD_mem (d := tk0) hi)
        have hr1 := own_rdK HI.out.o1
        obtain ⟨a, x, rfl, hx, ⟨-, -, -, -⟩, q0', -⟩ := hr1.tkAt hi
        have HX := Lib.hid hx
        rw [hx] at hxin
        have hnum : (1 ≤ x.cost ∧ x.cost ≤ 1099511627776) ∧ 1 ≤ x.deadline ∧ x.deadline ≤ 1099511627776 := by
          have := hxin.cost; have := hxin.deadline; have := hxin.period; omega
        clear hx hxin hts hhs
        obtain ⟨px, py⟩ := box_rules HI.out.boxp
        have lp := box_lt HI.out.boxp
        go_upto_region 7 with fail
        refine name_world fun V hV => ?_
        have HQ : Hid (V.heap[w1.heap.size]? = some (.cells #[.pointer (some (a.add (i * 10)))] 76 (0, 0))) := Lib.hid (by rw [hV]; exact heap_alloc_new _ _)
        have HIV := Lib.hid (HI.out.below (show Below w1.heap.size w1 V by rw [hV]; exact (Below.refl _ _).alloc (Nat.le_refl _) _))
        have hpq : w1.heap.size ≠ p := by omega
        clear hV px py HI q0' hr1
        generalize w1.heap.size = bq at *
        obtain ⟨px, py⟩ := box_rules HIV.out.boxp
        go_upto_region 8 with fail
        refine name_world fun U hU => ?_
        have HP : Hid (PrQ mn mx ts.length ls.length hs.length p W.heap.size (some a) c1 B cb D1 d1 31 bq (.pointer (some (a.add (i * 10)))) 76 (fun _ => sw) (tkPut ts i) (fun _ => hs) W x.cost U) := Lib.hid (by
          rw [hU]
          have h2 := HIV.out.putF (.func (.func 31) #[] #[.pointer (some ⟨bq, 0, none⟩)])
          refine ⟨?_, box_far HQ.out (p := ⟨p, 6, none⟩) hpq _⟩
          have e : tkPut ts i x.cost = ts := by rw [← HX.out]; exact tkPut_self hi
          dsimp only
          rw [e]
          exact h2)
        clear hU px py HIV HQ
        obtain ⟨pux, puy⟩ := box_rules HP.out.1.boxp
        obtain ⟨qux, quy⟩ := box_rules HP.out.2
        have hr2 := own_rdK HP.out.1.o1
        have hx2 : (tkPut ts i x.cost).getD i tk0 = x := by
          have e : tkPut ts i x.cost = ts := by rw [← HX.out]; exact tkPut_self hi
          rw [e]; exact HX.out
        have hi3 : i < (tkPut ts i x.cost).length := by rw [tkPut_len]; exact hi
        obtain ⟨a', x', he, hx', ⟨-, -, -, -⟩, g4, g5, -, -, -, -⟩ := hr2.tkAt hi3
        cases he
        have e9 : x = x' := (hx'.symm.trans hx2).symm
        subst e9
        have hU0 := S_refl' U
        have HPk := Lib.hid (fun w' (h : Hid (Below U.heap.size U w')) => HP.out.below h.out)
        have rq := fun w' (h : Hid (Below U.heap.size U w')) => (box_rules (box_keep HP.out.2 h.out)).1
        have r1 := fun w' (h : Hid (Below U.heap.size U w')) => cell_of_below h.out g5
        have r2 := fun w' (h : Hid (Below U.heap.size U w')) => cell_of_below h.out g4
        have f9 := Lib.hid (fun w' (h : Hid (Below U.heap.size U w')) => srch_cost (fun m => accB ⟨mn, mx, sw, tkPut ts i m, ls, hs⟩) (fun m m' wx hh => cost_put hi m m' wx hh) (HA.out W HlW.out i p (some a) c1 D1 d1 bq (.pointer (some (a.add (i * 10)))) 76 hi) x.cost (x.deadline + 1) x.cost (by omega) (by omega) w' (HPk.out w' h))
        have HN : Hid (SS i = srS (fun m => accB ⟨mn, mx, sw, tkPut ts i m, ls, hs⟩) x.cost (x.deadline + 1)) := Lib.hid (by rw [HSd.out i, HX.out])
        generalize srS (fun m => accB ⟨mn, mx, sw, tkPut ts i m, ls, hs⟩) x.cost (x.deadline + 1) = N at *
        have e1 : IntKind.i64.wrap (x.deadline + 1) = x.deadline + 1 := IntWalk.i64_in _ (by omega)
        obtain ⟨x0, x1, x2, x3, x4, x5, x6, x7, x8, x9⟩ := x
        dsimp only at *
        clear HP HSd HA HPk pux puy qux quy hr2 hx2
        have rq0 := rq _ hU0
        have hbW : w.heap.size ≤ W.heap.size := HB.out.size
        clear rq r1 r2
        refine wp_region_still_tail 10 (by kernel_rfl) (by kernel_rfl) ?_
        simp only [List.take_succ_cons, List.take_zero, List.drop_succ_cons, List.drop_zero]
        repeat still_step
        refine wpStill_nil ?_
        change wpList _ _ _ _ _ U.drew
        go_wp2_with fail
        refine (f9.out _ (S_drew' hU0)).mono ?_
        rintro e w5 ⟨rfl, hb⟩
        have HB5 := Lib.hid (HB.out.trans (hb.mono hbW))
        clear hb f9
        go_wp2
        refine bodyPost_ret (v := .tuple #[.int .i64 N, .int .i64 0]) (by simp [results, Try.f15, go_sem]) rfl ?_
        exact ⟨by rw [← HVV.out, HYd.out, if_pos rfl, Int.toNat_natCast, HN.out], HB5.out⟩
  · rw [if_pos hY0] at HYd
    have hv := HV1.out hY0
    subst hv
    have hy1 : (Y0 != 0) = true := by simpa using hY0
    have HY1 := Lib.hid HYd.out
    go_wp2
    refine bodyPost_ret (v := .tuple #[.int .i64 0, .int .i64 Y0]) (by simp [results, Try.f15, go_sem]) rfl ?_
    exact ⟨by rw [← HVV.out, HY1.out, if_neg hY0], HB1.out⟩
set_option maxHeartbeats 4000000 in
set_option maxRecDepth 100000 in
theorem sbudget_any (mn mx sw : Int) (ts : List Tk) (ls : List Ln) (hs : List Th) (A : Option Addr) (ca : Nat) (B : Option Addr) (cb : Nat) (D : Option Addr) (cd : Nat) (n : Int) (w : World)
    (hlt0 : ts.length ≤ 1048576) (hll : ls.length ≤ 1048576) (hlh : hs.length ≤ 1048576)
    (ht : Rd w A (ts.flatMap tkc)) (hl : Rd w B (ls.flatMap lnc)) (hh : Rd w D (hs.flatMap thc)) (hmx : I64 mx) (ht64 : ∀ p ∈ ts.map (·.prio) ++ hs.map (·.prio), I64 p) :
    Calls Try.prog 17 #[cfv mn mx sw A ts.length ca B ls.length cb D hs.length cd, .int .i64 n] w
      (RetN (if budgetY ⟨mn, mx, sw, ts, ls, hs⟩ n = 0 then budgetS ⟨mn, mx, sw, ts, ls, hs⟩ n.toNat else 0) (budgetY ⟨mn, mx, sw, ts, ls, hs⟩ n) w) := by
  have c1 := Lib.hid (fun w ht hl hh => sopen_any mn mx sw ts ls hs A ca B cb D cd w hlt0 hll hlh ht hl hh hmx ht64)
  have HIn : Hid (oyY ⟨mn, mx, sw, ts, ls, hs⟩ = 0 → (∀ x ∈ ts, TkIn x sw) ∧ ∀ x ∈ hs, ThIn x) := Lib.hid (fun h => ⟨(cfIn_of (oyY_zero h).1).ts, (cfIn_of (oyY_zero h).1).hs⟩)
  have HA : Hid (∀ (w0 : World), Rd w0 B (ls.flatMap lnc) → ∀ (i p : Nat) (A1 : Option Addr) (c1 : Nat) (D1 : Option Addr) (d1 : Nat) (bq : Nat) (cv : Value) (ct : TypeId), i < hs.length → ∀ (m : Int) (wx : World), PrQ mn mx ts.length ls.length hs.length p w0.heap.size A1 c1 B cb D1 d1 34 bq cv ct (fun _ => sw) (fun _ => ts) (thPut hs i) w0 m wx →
      Calls Try.prog 10 #[cfv mn mx sw A1 ts.length c1 B ls.length cb D1 hs.length d1] wx fun e w' => e = .returned (.bool (accB ⟨mn, mx, sw, ts, ls, thPut hs i m⟩)) ∧ Below wx.heap.size wx w') := Lib.hid (fun w0 hl0 i p A1 c1 D1 d1 bq cv ct hi m wx h =>
    acc_pr ls h.1 rfl rfl (thPut_len hs i m) hlt0 hll hlh hl0 hmx (fun q hq => by
      rcases List.mem_append.1 hq with h | h
      · exact ht64 q (List.mem_append_left _ h)
      · exact ht64 q (List.mem_append_right _ (thPut_prio hi h))))
  have HYd : Hid (budgetY ⟨mn, mx, sw, ts, ls, hs⟩ n = sY (oyY ⟨mn, mx, sw, ts, ls, hs⟩) hs.length n) := Lib.hid rfl
  have HSd : Hid (∀ i, budgetS ⟨mn, mx, sw, ts, ls, hs⟩ i = srS (fun n => accB ⟨mn, mx, sw, ts, ls, thPut hs i n⟩) (hs.getD i ⟨0, 0, 0, 0⟩).budget ((hs.getD i ⟨0, 0, 0, 0⟩).period + 1)) := Lib.hid (fun _ => rfl)
  have Ht := Lib.hid ht; have Hl := Lib.hid hl; have Hh := Lib.hid hh
  clear ht hl hh hmx ht64
  unfold cfv RetN at *
  generalize oyY ⟨mn, mx, sw, ts, ls, hs⟩ = Y0 at *
  generalize budgetY ⟨mn, mx, sw, ts, ls, hs⟩ n = Y at *
  generalize budgetS ⟨mn, mx, sw, ts, ls, hs⟩ = SS at *
  unfold sY at HYd
  generalize hVV : (if Y = 0 then SS n.toNat else 0) = VV
  have HVV := Lib.hid hVV
  clear hVV
  go_enter Try.func17, Try.ntmps17
  go_upto_region 1 with fail
  refine name_world fun W hW => ?_
  have HC : Hid (W.heap[w.heap.size]? = some (.cells #[.int .i64 mn, .int .i64 mx, .int .i64 sw, .slice A ts.length ca, .slice B ls.length cb, .slice D hs.length cd] 29 (0, 0))) := Lib.hid (by rw [hW]; exact heap_alloc_new w _)
  have HB : Hid (Below w.heap.size w W) := Lib.hid (by rw [hW]; exact (Below.refl _ _).alloc (Nat.le_refl _) _)
  have HlW := Lib.hid (Hl.out.below HB.out)
  have q0 := (box_rules HC.out).1
  have lW := box_lt HC.out
  clear hW
  go_wp2_with fail
  refine (c1.out W (Ht.out.below HB.out) HlW.out (Hh.out.below HB.out)).mono ?_
  rintro e w1 ⟨v, rfl, hb, hv1, hv2⟩
  have HC1 := Lib.hid (box_keep HC.out hb)
  have HB1 := Lib.hid (HB.out.trans (hb.mono HB.out.size))
  have HV1 := Lib.hid hv1; have HV2 := Lib.hid hv2
  clear hb hv1 hv2 q0 c1 Ht Hl Hh
  obtain ⟨cx, cy⟩ := box_rules HC1.out
  by_cases hY0 : Y0 = 0
  · rw [if_neg (by simp [hY0])] at HYd
    obtain ⟨hts, hhs⟩ := HIn.out hY0
    have HV := Lib.hid (HV2.out hY0)
    subst hY0
    have hy1 : ((0 : Int) != 0) = false := by decide
    clear HV1 HV2 HIn
    by_cases h0 : n < 0
    · rw [if_pos (.inl h0)] at HYd
      have HY1 := Lib.hid HYd.out
      go_wp2
      refine bodyPost_ret (v := .tuple #[.int .i64 0, .int .i64 1]) (by simp [results, Try.f17, go_sem]) rfl ?_
      exact ⟨by rw [← HVV.out, HY1.out]; rfl, HB1.out⟩
    · by_cases h1 : (hs.length : Int) ≤ n
      · rw [if_pos (.inr h1)] at HYd
        have HY1 := Lib.hid HYd.out
        go_wp2
        refine bodyPost_ret (v := .tuple #[.int .i64 0, .int .i64 1]) (by simp [results, Try.f17, go_sem]) rfl ?_
        exact ⟨by rw [← HVV.out, HY1.out]; rfl, HB1.out⟩
      · rw [if_neg (by omega)] at HYd
        obtain ⟨i, rfl⟩ := Int.eq_ofNat_of_zero_le (show 0 ≤ n by omega)
        have hi : i < hs.length := by omega
        obtain ⟨p, A1, c1, D1, d1, rfl, hI⟩ := HV.out
        have HI := Lib.hid hI
        clear HV hI
        have hxin := hhs _ (getD_mem (d := ⟨0, 0, 0, 0⟩) hi)
        have hr1 := own_rdK HI.out.o3
        obtain ⟨a, x, rfl, hx, -, q0', -⟩ := hr1.thAt hi
        have HX := Lib.hid hx
        rw [hx] at hxin
        have hnum : (1 ≤ x.budget ∧ x.budget ≤ 1099511627776) ∧ 1 ≤ x.period ∧ x.period ≤ 1099511627776 := by
          have := hxin.budget; have := hxin.period; omega
        clear hx hxin hts hhs
        obtain ⟨px, py⟩ := box_rules HI.out.boxp
        have lp := box_lt HI.out.boxp
        go_upto_region 7 with fail
        refine name_world fun V hV => ?_
        have HQ : Hid (V.heap[w1.heap.size]? = some (.cells #[.pointer (some (a.add (i * 4)))] 81 (0, 0))) := Lib.hid (by rw [hV]; exact heap_alloc_new _ _)
        have HIV := Lib.hid (HI.out.below (show Below w1.heap.size w1 V by rw [hV]; exact (Below.refl _ _).alloc (Nat.le_refl _) _))
        have hpq : w1.heap.size ≠ p := by omega
        clear hV px py HI q0' hr1
        generalize w1.heap.size = bq at *
        obtain ⟨px, py⟩ := box_rules HIV.out.boxp
        go_upto_region 8 with fail
        refine name_world fun U hU => ?_
        have HP : Hid (PrQ mn mx ts.length ls.length hs.length p W.heap.size A1 c1 B cb (some a) d1 34 bq (.pointer (some (a.add (i * 4)))) 81 (fun _ => sw) (fun _ => ts) (thPut hs i) W x.budget U) := Lib.hid (by
          rw [hU]
          have h2 := HIV.out.putF (.func (.func 34) #[] #[.pointer (some ⟨bq, 0, none⟩)])
          refine ⟨?_, box_far HQ.out (p := ⟨p, 6, none⟩) hpq _⟩
          have e : thPut hs i x.budget = hs := by rw [← HX.out]; exact thPut_self hi
          dsimp only
          rw [e]
          exact h2)
        clear hU px py HIV HQ
        obtain ⟨pux, puy⟩ := box_rules HP.out.1.boxp
        obtain ⟨qux, quy⟩ := box_rules HP.out.2
        have hr2 := own_rdK HP.out.1.o3
        have hx2 : (thPut hs i x.budget).getD i ⟨0, 0, 0, 0⟩ = x := by
          have e : thPut hs i x.budget = hs := by rw [← HX.out]; exact thPut_self hi
          rw [e]; exact HX.out
        have hi3 : i < (thPut hs i x.budget).length := by rw [thPut_len]; exact hi
        obtain ⟨a', x', he, hx', -, g5, g4, -⟩ := hr2.thAt hi3
        cases he
        have e9 : x = x' := (hx'.symm.trans hx2).symm
        subst e9
        have hU0 := S_refl' U
        have HPk := Lib.hid (fun w' (h : Hid (Below U.heap.size U w')) => HP.out.below h.out)
        have rq := fun w' (h : Hid (Below U.heap.size U w')) => (box_rules (box_keep HP.out.2 h.out)).1
        have r1 := fun w' (h : Hid (Below U.heap.size U w')) => cell_of_below h.out g5
        have r2 := fun w' (h : Hid (Below U.heap.size U w')) => cell_of_below h.out g4
        have f9 := Lib.hid (fun w' (h : Hid (Below U.heap.size U w')) => srch_budget (fun m => accB ⟨mn, mx, sw, ts, ls, thPut hs i m⟩) (fun m m' wx hh => budget_put hi m m' wx hh) (HA.out W HlW.out i p A1 c1 (some a) d1 bq (.pointer (some (a.add (i * 4)))) 81 hi) x.budget (x.period + 1) x.budget (by omega) (by omega) w' (HPk.out w' h))
        have HN : Hid (SS i = srS (fun m => accB ⟨mn, mx, sw, ts, ls, thPut hs i m⟩) x.budget (x.period + 1)) := Lib.hid (by rw [HSd.out i, HX.out])
        generalize srS (fun m => accB ⟨mn, mx, sw, ts, ls, thPut hs i m⟩) x.budget (x.period + 1) = N at *
        have e1 : IntKind.i64.wrap (x.period + 1) = x.period + 1 := IntWalk.i64_in _ (by omega)
        obtain ⟨x0, x1, x2, x3⟩ := x
        dsimp only at *
        clear HP HSd HA HPk pux puy qux quy hr2 hx2
        have rq0 := rq _ hU0
        have hbW : w.heap.size ≤ W.heap.size := HB.out.size
        clear rq r1 r2
        refine wp_region_still_tail 10 (by kernel_rfl) (by kernel_rfl) ?_
        simp only [List.take_succ_cons, List.take_zero, List.drop_succ_cons, List.drop_zero]
        repeat still_step
        refine wpStill_nil ?_
        change wpList _ _ _ _ _ U.drew
        go_wp2_with fail
        refine (f9.out _ (S_drew' hU0)).mono ?_
        rintro e w5 ⟨rfl, hb⟩
        have HB5 := Lib.hid (HB.out.trans (hb.mono hbW))
        clear hb f9
        go_wp2
        refine bodyPost_ret (v := .tuple #[.int .i64 N, .int .i64 0]) (by simp [results, Try.f17, go_sem]) rfl ?_
        exact ⟨by rw [← HVV.out, HYd.out, if_pos rfl, Int.toNat_natCast, HN.out], HB5.out⟩
  · rw [if_pos hY0] at HYd
    have hv := HV1.out hY0
    subst hv
    have hy1 : (Y0 != 0) = true := by simpa using hY0
    have HY1 := Lib.hid HYd.out
    go_wp2
    refine bodyPost_ret (v := .tuple #[.int .i64 0, .int .i64 Y0]) (by simp [results, Try.f17, go_sem]) rfl ?_
    exact ⟨by rw [← HVV.out, HY1.out, if_neg hY0], HB1.out⟩
end Go.Proofs.Ytlnjeelbfokdpaa
/- Package sense: the walks of Switch, Deadline. Conditions: lists that read. -/
namespace Go.Proofs.Ytlnjeelbfokdpaa
open Go.RowKit Go.Shelf

theorem bd_zero' {f : Nat → Int × Int} {n : Nat} (h : (bdY f n).2.2 = 0) : ∀ k, k ≤ n → ∀ j, j < k → (f j).2 = 0
  | 0, _, j, hj => absurd hj (Nat.not_lt_zero _)
  | k + 1, hk, j, hj => by
    have ih := bd_zero' h k (by omega)
    by_cases e : j = k
    · subst e
      apply Classical.byContradiction
      intro hb
      rw [bd_bad (by omega) ih hb] at h
      exact hb h
    · exact ih j (by omega)
def leastD (ts : List Tk) : Nat → Int
  | 0 => (ts.getD 0 tk0).deadline
  | k + 1 => min (leastD ts k) (ts.getD k tk0).deadline
theorem leastD_in {ts : List Tk} {sw : Int} (h : ∀ t ∈ ts, TkIn t sw) (h0 : 0 < ts.length) : ∀ k, k ≤ ts.length → sw < leastD ts k ∧ leastD ts k ≤ 1099511627776
  | 0, _ => by
    have hx := h _ (getD_mem (d := tk0) h0)
    have := hx.late; have := hx.cost; have := hx.deadline; have := hx.period
    show sw < (ts.getD 0 tk0).deadline ∧ _
    exact ⟨by omega, by show (ts.getD 0 tk0).deadline ≤ _; omega⟩
  | k + 1, hk => by
    have ih := leastD_in h h0 k (by omega)
    have hx := h _ (getD_mem (d := tk0) (by omega : k < ts.length))
    have := hx.late; have := hx.cost
    show sw < min _ _ ∧ min _ _ ≤ _
    omega
theorem leastD_at (ts : List Tk) : ∀ k, leastD ts k = (ts.getD 0 tk0).deadline ∨ ∃ j, j < k ∧ leastD ts k = (ts.getD j tk0).deadline
  | 0 => .inl rfl
  | k + 1 => by
    show min (leastD ts k) (ts.getD k tk0).deadline = _ ∨ _
    rcases Int.le_total (leastD ts k) (ts.getD k tk0).deadline with h | h
    · rcases leastD_at ts k with e | ⟨j, hj, e⟩
      · exact .inl (by omega)
      · exact .inr ⟨j, by omega, by show min (leastD ts k) (ts.getD k tk0).deadline = _; omega⟩
    · exact .inr ⟨k, by omega, by show min (leastD ts k) (ts.getD k tk0).deadline = _; omega⟩
def switchS (c : Cf) : Int := srS (fun n => accB ⟨c.mn, c.mx, n, c.ts, c.ls, c.hs⟩) c.sw (leastD c.ts c.ts.length)
def deadS (c : Cf) (i : Nat) : Int := max (bdF c.mn c.sw c.ts c.ls c.hs i).1 ((c.ts.getD i tk0).cost + c.sw)
theorem acc_good {c : Cf} (h : accB c = true) (hw : c.why = 0) : ∀ k, k < c.ts.length → (bdF c.mn c.sw c.ts c.ls c.hs k).2 = 0 := by
  unfold accB bndR at h
  rw [if_neg (by simp [hw])] at h
  have h2 : (bdY (bdF c.mn c.sw c.ts c.ls c.hs) c.ts.length).2.2 = 0 := by simpa using h
  exact fun k hk => bd_zero' h2 _ (Nat.le_refl _) k hk
set_option maxHeartbeats 4000000 in
set_option maxRecDepth 100000 in
theorem sswitch_any (mn mx sw : Int) (ts : List Tk) (ls : List Ln) (hs : List Th) (A : Option Addr) (ca : Nat) (B : Option Addr) (cb : Nat) (D : Option Addr) (cd : Nat) (w : World)
    (hlt0 : ts.length ≤ 1048576) (hll : ls.length ≤ 1048576) (hlh : hs.length ≤ 1048576)
    (ht : Rd w A (ts.flatMap tkc)) (hl : Rd w B (ls.flatMap lnc)) (hh : Rd w D (hs.flatMap thc)) (hmx : I64 mx) (ht64 : ∀ p ∈ ts.map (·.prio) ++ hs.map (·.prio), I64 p) :
    Calls Try.prog 16 #[cfv mn mx sw A ts.length ca B ls.length cb D hs.length cd] w
      (RetN (if oyY ⟨mn, mx, sw, ts, ls, hs⟩ = 0 then switchS ⟨mn, mx, sw, ts, ls, hs⟩ else 0) (oyY ⟨mn, mx, sw, ts, ls, hs⟩) w) := by
  have c1 := Lib.hid (fun w ht hl hh => sopen_any mn mx sw ts ls hs A ca B cb D cd w hlt0 hll hlh ht hl hh hmx ht64)
  have HIn : Hid (oyY ⟨mn, mx, sw, ts, ls, hs⟩ = 0 → 1 ≤ ts.length ∧ (0 ≤ sw ∧ sw ≤ 1099511627776) ∧ ∀ k, k ≤ ts.length → sw < leastD ts k ∧ leastD ts k ≤ 1099511627776) := Lib.hid (fun h => by
    have c := cfIn_of (oyY_zero h).1
    have c1 := c.nt; have c2 := c.sw
    dsimp only at c1 c2
    exact ⟨c1.1, c2, leastD_in c.ts (by omega)⟩)
  have HA : Hid (∀ (w0 : World), Rd w0 B (ls.flatMap lnc) → ∀ (p : Nat) (A1 : Option Addr) (c1 : Nat) (D1 : Option Addr) (d1 : Nat) (bq : Nat) (cv : Value) (ct : TypeId) (m : Int) (wx : World), PrQ mn mx ts.length ls.length hs.length p w0.heap.size A1 c1 B cb D1 d1 33 bq cv ct (fun n => n) (fun _ => ts) (fun _ => hs) w0 m wx →
      Calls Try.prog 10 #[cfv mn mx m A1 ts.length c1 B ls.length cb D1 hs.length d1] wx fun e w' => e = .returned (.bool (accB ⟨mn, mx, m, ts, ls, hs⟩)) ∧ Below wx.heap.size wx w') := Lib.hid (fun w0 hl0 p A1 c1 D1 d1 bq cv ct m wx h =>
    acc_pr ls h.1 rfl rfl rfl hlt0 hll hlh hl0 hmx ht64)
  have HSd : Hid (switchS ⟨mn, mx, sw, ts, ls, hs⟩ = srS (fun n => accB ⟨mn, mx, n, ts, ls, hs⟩) sw (leastD ts ts.length)) := Lib.hid rfl
  have Ht := Lib.hid ht; have Hl := Lib.hid hl; have Hh := Lib.hid hh
  clear ht hl hh hmx ht64
  unfold cfv RetN at *
  generalize oyY ⟨mn, mx, sw, ts, ls, hs⟩ = Y0 at *
  generalize switchS ⟨mn, mx, sw, ts, ls, hs⟩ = SS at *
  generalize hVV : (if Y0 = 0 then SS else 0) = VV
  have HVV := Lib.hid hVV
  clear hVV
  go_enter Try.func16, Try.ntmps16
  go_upto_region 1 with fail
  refine name_world fun W hW => ?_
  have HC : Hid (W.heap[w.heap.size]? = some (.cells #[.int .i64 mn, .int .i64 mx, .int .i64 sw, .slice A ts.length ca, .slice B ls.length cb, .slice D hs.length cd] 29 (0, 0))) := Lib.hid (by rw [hW]; exact heap_alloc_new w _)
  have HB : Hid (Below w.heap.size w W) := Lib.hid (by rw [hW]; exact (Below.refl _ _).alloc (Nat.le_refl _) _)
  have HlW := Lib.hid (Hl.out.below HB.out)
  have q0 := (box_rules HC.out).1
  have lW := box_lt HC.out
  clear hW
  go_wp2_with fail
  refine (c1.out W (Ht.out.below HB.out) HlW.out (Hh.out.below HB.out)).mono ?_
  rintro e w1 ⟨v, rfl, hb, hv1, hv2⟩
  have HB1 := Lib.hid (HB.out.trans (hb.mono HB.out.size))
  have HV1 := Lib.hid hv1; have HV2 := Lib.hid hv2
  clear hb hv1 hv2 q0 c1 Ht Hl Hh
  by_cases hY0 : Y0 = 0
  · obtain ⟨hn1, ⟨hsw0, hsw1⟩, hlst⟩ := HIn.out hY0
    have HLs := Lib.hid hlst
    have HV := Lib.hid (HV2.out hY0)
    rw [if_pos hY0] at HVV
    subst hY0
    have hy1 : ((0 : Int) != 0) = false := by decide
    clear HV1 HV2 HIn hlst
    obtain ⟨p, A1, c1, D1, d1, rfl, hI⟩ := HV.out
    have HI := Lib.hid hI
    clear HV hI
    go_upto_region 2 with fail
    refine name_world fun V hV => ?_
    have HQ : Hid (V.heap[w1.heap.size]? = some (.cells #[.pointer (some ⟨p, 0, none⟩)] 73 (0, 0))) := Lib.hid (by rw [hV]; exact heap_alloc_new _ _)
    have HIV := Lib.hid (HI.out.below (show Below w1.heap.size w1 V by rw [hV]; exact (Below.refl _ _).alloc (Nat.le_refl _) _))
    have hpq : w1.heap.size ≠ p := by have := box_lt HI.out.boxp; omega
    have lq := box_lt HQ.out
    clear hV HI
    generalize w1.heap.size = bq at *
    obtain ⟨px, py⟩ := box_rules HIV.out.boxp
    obtain ⟨qx, qy⟩ := box_rules HQ.out
    obtain ⟨a, x, rfl, hx, ⟨-, -, -, -⟩, g4, -⟩ := (own_rdK HIV.out.o1).tkAt (show 0 < ts.length by omega)
    have HX : Hid (x.deadline = leastD ts 0) := Lib.hid (by rw [← hx]; rfl)
    clear hx
    rw [Nat.zero_mul, addr_z] at g4
    go_wp2
    go_loopw [6, 31] (fun l j wr => ∃ k : Nat, k ≤ ts.length ∧ l = .int .i64 (leastD ts k) ∧ j = .int .i64 k ∧ Hid (Below V.heap.size V wr)) (fun _ j _ => ts.length - (intOf j).toNat)
    case atStart => exact ⟨0, by omega, by rw [HX.out], rfl, S_refl' V⟩
    case round =>
      obtain ⟨k, hk, rfl, rfl, hSr⟩ := hrel
      by_cases hlt : k < ts.length
      · obtain ⟨a', y, he, hy, ⟨z0, z1, z2, z3⟩, z4, z5, z6, z7, z8, z9⟩ := ((own_rdK HIV.out.o1).below hSr.out).tkAt hlt
        cases he
        have hb2 := HLs.out k hk
        have HNx : Hid (leastD ts (k + 1) = min (leastD ts k) y.deadline) := Lib.hid (by rw [← hy]; rfl)
        clear hy px py qx qy g4
        obtain ⟨y0, y1, y2, y3, y4, y5, y6, y7, y8, y9⟩ := y
        dsimp only at z0 z1 z2 z3 z4 z5 z6 z7 z8 z9 HNx
        generalize leastD ts k = lk at *
        go_wp2
        all_goals
          refine ⟨⟨k + 1, by omega, ?_, by go_num, hSr.out.alloc hSr.out.size _⟩, ?_⟩
          · rw [HNx.out]
            first | rfl | (congr 1; omega)
          · simp [intOf]; omega
      · obtain rfl : k = ts.length := by omega
        have hl := HLs.out _ (Nat.le_refl _)
        have HIr := Lib.hid (HIV.out.below hSr.out)
        have HQr := Lib.hid (box_keep HQ.out hSr.out)
        clear px py qx qy g4 HIV HQ
        obtain ⟨px, py⟩ := box_rules HIr.out.boxp
        obtain ⟨qx, qy⟩ := box_rules HQr.out
        go_upto_region 11 with fail
        refine name_world fun U hU => ?_
        have HP : Hid (PrQ mn mx ts.length ls.length hs.length p W.heap.size (some a) c1 B cb D1 d1 33 bq (.pointer (some ⟨p, 0, none⟩)) 73 (fun n => n) (fun _ => ts) (fun _ => hs) W sw U) := Lib.hid (by
          rw [hU]
          exact ⟨HIr.out.putF (.func (.func 33) #[] #[.pointer (some ⟨bq, 0, none⟩)]), box_far HQr.out (p := ⟨p, 6, none⟩) hpq _⟩)
        clear hU px py qx qy HIr HQr
        obtain ⟨pux, puy⟩ := box_rules HP.out.1.boxp
        obtain ⟨qux, quy⟩ := box_rules HP.out.2
        have hU0 := S_refl' U
        have HPk := Lib.hid (fun w' (h : Hid (Below U.heap.size U w')) => HP.out.below h.out)
        generalize leastD ts ts.length = LL at *
        have f9 := Lib.hid (fun w' (h : Hid (Below U.heap.size U w')) => srch_switch (fun m => accB ⟨mn, mx, m, ts, ls, hs⟩) (fun m m' wx hh => switch_put m m' wx hh) (HA.out W HlW.out p (some a) c1 D1 d1 bq (.pointer (some ⟨p, 0, none⟩)) 73) sw LL sw (by omega) (by omega) w' (HPk.out w' h))
        generalize srS (fun m => accB ⟨mn, mx, m, ts, ls, hs⟩) sw LL = N at *
        clear HP HA HPk
        have hbW : w.heap.size ≤ W.heap.size := HB.out.size
        refine wp_region_still_tail 7 (by kernel_rfl) (by kernel_rfl) ?_
        simp only [List.take_succ_cons, List.take_zero, List.drop_succ_cons, List.drop_zero]
        repeat still_step
        refine wpStill_nil ?_
        change wpList _ _ _ _ _ U.drew
        go_wp2_with fail
        refine (f9.out _ (S_drew' hU0)).mono ?_
        rintro e w5 ⟨rfl, hb⟩
        have HB5 := Lib.hid (HB.out.trans (hb.mono hbW))
        clear hb f9
        go_wp2
        refine bodyPost_ret (v := .tuple #[.int .i64 N, .int .i64 0]) (by simp [results, Try.f16, go_sem]) rfl ?_
        exact ⟨by rw [← HVV.out, HSd.out], HB5.out⟩
  · rw [if_neg hY0] at HVV
    have hv := HV1.out hY0
    subst hv
    have hy1 : (Y0 != 0) = true := by simpa using hY0
    go_wp2
    refine bodyPost_ret (v := .tuple #[.int .i64 0, .int .i64 Y0]) (by simp [results, Try.f16, go_sem]) rfl ?_
    exact ⟨by rw [← HVV.out], HB1.out.alloc HB1.out.size _⟩
set_option maxHeartbeats 4000000 in
set_option maxRecDepth 100000 in
theorem sdead_any (mn mx sw : Int) (ts : List Tk) (ls : List Ln) (hs : List Th) (A : Option Addr) (ca : Nat) (B : Option Addr) (cb : Nat) (D : Option Addr) (cd : Nat) (n : Int) (w : World)
    (hlt0 : ts.length ≤ 1048576) (hll : ls.length ≤ 1048576) (hlh : hs.length ≤ 1048576)
    (ht : Rd w A (ts.flatMap tkc)) (hl : Rd w B (ls.flatMap lnc)) (hh : Rd w D (hs.flatMap thc)) (hmx : I64 mx) (ht64 : ∀ p ∈ ts.map (·.prio) ++ hs.map (·.prio), I64 p) :
    Calls Try.prog 19 #[cfv mn mx sw A ts.length ca B ls.length cb D hs.length cd, .int .i64 n] w
      (RetN (if costY ⟨mn, mx, sw, ts, ls, hs⟩ n = 0 then deadS ⟨mn, mx, sw, ts, ls, hs⟩ n.toNat else 0) (costY ⟨mn, mx, sw, ts, ls, hs⟩ n) w) := by
  have c1 := Lib.hid (fun w ht hl hh => sopen_any mn mx sw ts ls hs A ca B cb D cd w hlt0 hll hlh ht hl hh hmx ht64)
  have HIn : Hid (oyY ⟨mn, mx, sw, ts, ls, hs⟩ = 0 → (∀ x ∈ ts, TkIn x sw) ∧ ∀ x ∈ hs, ThIn x) := Lib.hid (fun h => ⟨(cfIn_of (oyY_zero h).1).ts, (cfIn_of (oyY_zero h).1).hs⟩)
  have HGd : Hid (oyY ⟨mn, mx, sw, ts, ls, hs⟩ = 0 → (0 ≤ sw ∧ sw ≤ 1099511627776) ∧ ∀ k, k < ts.length → (bdF mn sw ts ls hs k).2 = 0 ∧ ∀ (A1 : Option Addr) (c1 : Nat) (D1 : Option Addr) (d1 : Nat) (w1 : World), Rd w1 A1 (ts.flatMap tkc) → Rd w1 B (ls.flatMap lnc) → Rd w1 D1 (hs.flatMap thc) → Calls Try.prog 13 #[cfv mn mx sw A1 ts.length c1 B ls.length cb D1 hs.length d1, .int .i64 (k : Int)] w1 (RetN (bdF mn sw ts ls hs k).1 (bdF mn sw ts ls hs k).2 w1)) := Lib.hid (fun h => by
    obtain ⟨h1, h2⟩ := oyY_zero h
    have c2 := (cfIn_of h1).sw
    dsimp only at c2
    exact ⟨c2, fun k hk => ⟨acc_good h2 h1 k hk, fun A1 c1 D1 d1 w1 r1 r2 r3 => bd_one mn mx sw ts ls hs A1 c1 B cb D1 d1 w1 hlt0 hll hlh h1 k hk r1 r2 r3 hmx ht64⟩⟩)
  have HYd : Hid (costY ⟨mn, mx, sw, ts, ls, hs⟩ n = sY (oyY ⟨mn, mx, sw, ts, ls, hs⟩) ts.length n) := Lib.hid rfl
  have HSd : Hid (∀ i, deadS ⟨mn, mx, sw, ts, ls, hs⟩ i = max (bdF mn sw ts ls hs i).1 ((ts.getD i tk0).cost + sw)) := Lib.hid (fun _ => rfl)
  have Ht := Lib.hid ht; have Hl := Lib.hid hl; have Hh := Lib.hid hh
  clear ht hl hh hmx ht64
  unfold cfv RetN at *
  generalize oyY ⟨mn, mx, sw, ts, ls, hs⟩ = Y0 at *
  generalize costY ⟨mn, mx, sw, ts, ls, hs⟩ n = Y at *
  generalize deadS ⟨mn, mx, sw, ts, ls, hs⟩ = SS at *
  generalize bdF mn sw ts ls hs = bf at *
  unfold sY at HYd
  generalize hVV : (if Y = 0 then SS n.toNat else 0) = VV
  have HVV := Lib.hid hVV
  clear hVV
  go_enter Try.func19, Try.ntmps19
  go_upto_region 1 with fail
  refine name_world fun W hW => ?_
  have HC : Hid (W.heap[w.heap.size]? = some (.cells #[.int .i64 mn, .int .i64 mx, .int .i64 sw, .slice A ts.length ca, .slice B ls.length cb, .slice D hs.length cd] 29 (0, 0))) := Lib.hid (by rw [hW]; exact heap_alloc_new w _)
  have HB : Hid (Below w.heap.size w W) := Lib.hid (by rw [hW]; exact (Below.refl _ _).alloc (Nat.le_refl _) _)
  have HlW := Lib.hid (Hl.out.below HB.out)
  have q0 := (box_rules HC.out).1
  have lW := box_lt HC.out
  clear hW
  go_wp2_with fail
  refine (c1.out W (Ht.out.below HB.out) HlW.out (Hh.out.below HB.out)).mono ?_
  rintro e w1 ⟨v, rfl, hb, hv1, hv2⟩
  have HC1 := Lib.hid (box_keep HC.out hb)
  have HB1 := Lib.hid (HB.out.trans (hb.mono HB.out.size))
  have HV1 := Lib.hid hv1; have HV2 := Lib.hid hv2
  clear hb hv1 hv2 q0 c1 Ht Hl Hh
  obtain ⟨cx, cy⟩ := box_rules HC1.out
  by_cases hY0 : Y0 = 0
  · rw [if_neg (by simp [hY0])] at HYd
    obtain ⟨hts, hhs⟩ := HIn.out hY0
    obtain ⟨⟨hsw0, hsw1⟩, hgd⟩ := HGd.out hY0
    have HG := Lib.hid hgd
    clear hgd HGd
    have HV := Lib.hid (HV2.out hY0)
    subst hY0
    have hy1 : ((0 : Int) != 0) = false := by decide
    clear HV1 HV2 HIn
    by_cases h0 : n < 0
    · rw [if_pos (.inl h0)] at HYd
      have HY1 := Lib.hid HYd.out
      go_wp2
      refine bodyPost_ret (v := .tuple #[.int .i64 0, .int .i64 1]) (by simp [results, Try.f19, go_sem]) rfl ?_
      exact ⟨by rw [← HVV.out, HY1.out]; rfl, HB1.out⟩
    · by_cases h1 : (ts.length : Int) ≤ n
      · rw [if_pos (.inr h1)] at HYd
        have HY1 := Lib.hid HYd.out
        go_wp2
        refine bodyPost_ret (v := .tuple #[.int .i64 0, .int .i64 1]) (by simp [results, Try.f19, go_sem]) rfl ?_
        exact ⟨by rw [← HVV.out, HY1.out]; rfl, HB1.out⟩
      · rw [if_neg (by omega)] at HYd
        obtain ⟨i, rfl⟩ := Int.eq_ofNat_of_zero_le (show 0 ≤ n by omega)
        have hi : i < ts.length := by omega
        obtain ⟨p, A1, c1, D1, d1, rfl, hI⟩ := HV.out
        have HI := Lib.hid hI
        clear HV hI
        have hxin := hts _ (getD_mem (d := tk0) hi)
        have hr1 := own_rdK HI.out.o1
        obtain ⟨a, x, rfl, hx, ⟨-, -, -, -⟩, q0', -⟩ := hr1.tkAt hi
        have HX := Lib.hid hx
        rw [hx] at hxin
        have hnum : (1 ≤ x.cost ∧ x.cost ≤ 1099511627776) ∧ 1 ≤ x.deadline ∧ x.deadline ≤ 1099511627776 := by
          have := hxin.cost; have := hxin.deadline; have := hxin.period; omega
        clear hx hxin hts hhs
        obtain ⟨px, py⟩ := box_rules HI.out.boxp
        have HlI := Lib.hid (HlW.out.below HI.out.low)
        obtain ⟨hz, hcall⟩ := HG.out i hi
        have HBd := Lib.hid (hcall (some a) c1 D1 d1 w1 (own_rdK HI.out.o1) HlI.out (own_rdK HI.out.o3))
        have HN : Hid (SS i = max (bf i).1 (x.cost + sw)) := Lib.hid (by rw [HSd.out i, HX.out])
        rw [hz] at HBd
        clear hcall HG HSd
        generalize (bf i).1 = b at *
        go_wp2_with fail
        refine HBd.out.mono ?_
        rintro e w5 ⟨rfl, hb⟩
        have HI5 := Lib.hid (HI.out.below hb)
        have HB5 := Lib.hid (HB1.out.trans (hb.mono HB1.out.size))
        clear hb HBd px py HI
        obtain ⟨px, py⟩ := box_rules HI5.out.boxp
        obtain ⟨a', x', he, hx', ⟨-, -, -, -⟩, -, g5, -, -, -, -⟩ := (own_rdK HI5.out.o1).tkAt hi
        cases he
        obtain rfl := HX.out.symm.trans hx'
        have e1 : IntKind.i64.wrap (x.cost + sw) = x.cost + sw := IntWalk.i64_in _ (by omega)
        clear hx'
        obtain ⟨x0, x1, x2, x3, x4, x5, x6, x7, x8, x9⟩ := x
        dsimp only at *
        by_cases hm : b ≤ x5 + sw
        · have HN2 := Lib.hid (show SS i = x5 + sw by rw [HN.out]; omega)
          go_wp2
          go_quiet (fail)
          go_wp2
          all_goals
            refine bodyPost_ret (v := .tuple #[.int .i64 (x5 + sw), .int .i64 0]) (by simp [results, Try.f19, go_sem] <;> omega) rfl ?_
            exact ⟨by rw [← HVV.out, HYd.out, if_pos rfl, Int.toNat_natCast, HN2.out], bdrewN HB5.out _⟩
        · have HN2 := Lib.hid (show SS i = b by rw [HN.out]; omega)
          go_wp2
          go_quiet (fail)
          go_wp2
          all_goals
            refine bodyPost_ret (v := .tuple #[.int .i64 b, .int .i64 0]) (by simp [results, Try.f19, go_sem]) rfl ?_
            exact ⟨by rw [← HVV.out, HYd.out, if_pos rfl, Int.toNat_natCast, HN2.out], bdrewN HB5.out _⟩
  · rw [if_pos hY0] at HYd
    have hv := HV1.out hY0
    subst hv
    have hy1 : (Y0 != 0) = true := by simpa using hY0
    have HY1 := Lib.hid HYd.out
    go_wp2
    refine bodyPost_ret (v := .tuple #[.int .i64 0, .int .i64 Y0]) (by simp [results, Try.f19, go_sem]) rfl ?_
    exact ⟨by rw [← HVV.out, HY1.out, if_neg hY0], HB1.out⟩
end Go.Proofs.Ytlnjeelbfokdpaa
/- Package vergeref37: the walk of With; vergelaw37's edge. Conditions: lists that read. -/
namespace Go.Proofs.Ytlnjeelbfokdpaa
open Go.RowKit Go.Shelf

def RetW (mn mx sw : Int) (nt nl nh : Nat) (T : List Tk) (L : List Ln) (H : List Th) (w : World) (e : Ending) (w' : World) : Prop :=
  ∃ (A : Option Addr) (ca : Nat) (B : Option Addr) (cb : Nat) (D : Option Addr) (cd : Nat), e = .returned (cfv mn mx sw A nt ca B nl cb D nh cd) ∧ Rd w' A (T.flatMap tkc) ∧ Rd w' B (L.flatMap lnc) ∧ Rd w' D (H.flatMap thc) ∧ Below w.heap.size w w'
set_option maxHeartbeats 4000000 in
set_option maxRecDepth 100000 in
theorem with1 (mn mx sw : Int) (ts : List Tk) (ls : List Ln) (hs : List Th) (A : Option Addr) (ca : Nat) (B : Option Addr) (cb : Nat) (D : Option Addr) (cd : Nat) (i : Nat) (hi : i < ts.length) (n : Int) (w : World)
    (hlt0 : ts.length ≤ 1048576) (hll : ls.length ≤ 1048576) (hlh : hs.length ≤ 1048576)
    (ht : Rd w A (ts.flatMap tkc)) (hl : Rd w B (ls.flatMap lnc)) (hh : Rd w D (hs.flatMap thc)) :
    Calls Try.prog 35 #[cfv mn mx sw A ts.length ca B ls.length cb D hs.length cd, .int .i64 1, .int .i64 (i : Int), .int .i64 n] w (RetW mn mx (sw) ts.length ls.length hs.length (tkPut ts i n) ls (hs) w) := by
  have cp := Lib.hid (fun w ht hl hh => copy26_any mn mx sw ts ls hs A ca B cb D cd w hlt0 hll hlh ht hl hh)
  have Ht := Lib.hid ht; have Hl := Lib.hid hl; have Hh := Lib.hid hh
  clear ht hl hh
  unfold RetCy cfv at cp
  unfold cfv
  have HRW : Hid (∀ e w', (∃ (A : Option Addr) (ca : Nat) (B : Option Addr) (cb : Nat) (D : Option Addr) (cd : Nat), e = .returned (cfv mn mx (sw) A ts.length ca B ls.length cb D hs.length cd) ∧ Rd w' A ((tkPut ts i n).flatMap tkc) ∧ Rd w' B (ls.flatMap lnc) ∧ Rd w' D ((hs).flatMap thc) ∧ Below w.heap.size w w') → RetW mn mx (sw) ts.length ls.length hs.length (tkPut ts i n) ls (hs) w e w') := Lib.hid (fun _ _ h => h)
  generalize RetW mn mx (sw) ts.length ls.length hs.length (tkPut ts i n) ls (hs) w = RW at *
  go_enter Try.func35, Try.ntmps35
  go_upto_region 1 with fail
  refine name_world fun W hW => ?_
  have HC : Hid (W.heap[w.heap.size]? = some (.cells #[.int .i64 mn, .int .i64 mx, .int .i64 sw, .slice A ts.length ca, .slice B ls.length cb, .slice D hs.length cd] 29 (0, 0))) := Lib.hid (by rw [hW]; exact box_alloc (heap_alloc_new w _) _)
  have HZ : Hid (W.heap[w.heap.size + 1]? = some (.cells #[.int .i64 0, .int .i64 0, .int .i64 0, .slice none 0 0, .slice none 0 0, .slice none 0 0] 29 (0, 0))) := Lib.hid (by rw [hW]; exact heap_new_at _ (by simp))
  have HB : Hid (Below w.heap.size w W) := Lib.hid (by rw [hW]; exact ((Below.refl _ _).alloc (Nat.le_refl _) _).alloc (by simp) _)
  have sW : W.heap.size = w.heap.size + 2 := by rw [hW]; simp
  have q0 := (box_rules HC.out).1
  clear hW
  go_wp2_with fail
  refine (cp.out W (Ht.out.below HB.out) (Hl.out.below HB.out) (Hh.out.below HB.out)).mono ?_
  rintro e w2 ⟨A2, c2, B2, d2, D2, e2, rfl, ho1, ho2, ho3, hb⟩
  have s2 := hb.size
  have HZ2 := Lib.hid (box_keep HZ.out hb)
  have HB2 := Lib.hid (HB.out.trans (hb.mono HB.out.size))
  have HO1 := Lib.hid ho1; have HO2 := Lib.hid ho2; have HO3 := Lib.hid ho3
  clear hb ho1 ho2 ho3 q0 HZ HC cp Ht Hl Hh
  go_upto_region 2 with fail
  refine name_world fun V hV => ?_
  have HD : Hid (V.heap[w2.heap.size]? = some (.cells #[.int .i64 mn, .int .i64 mx, .int .i64 sw, .slice A2 ts.length c2, .slice B2 ls.length d2, .slice D2 hs.length e2] 29 (0, 0))) := Lib.hid (by rw [hV]; exact heap_alloc_new _ _)
  have HZV : Hid (V.heap[w.heap.size + 1]? = some (.cells #[.int .i64 0, .int .i64 0, .int .i64 0, .slice none 0 0, .slice none 0 0, .slice none 0 0] 29 (0, 0))) := Lib.hid (by rw [hV]; exact box_alloc HZ2.out _)
  have P1 : Hid (V.ownsRow W.heap.size 43 10 (.slice A2 ts.length c2) ts.length (ts.flatMap tkc)) := Lib.hid (by rw [hV]; exact own_allocK HO1.out _)
  have P2 : Hid (V.ownsRow W.heap.size 49 4 (.slice B2 ls.length d2) ls.length (ls.flatMap lnc)) := Lib.hid (by rw [hV]; exact own_allocK HO2.out _)
  have P3 : Hid (V.ownsRow W.heap.size 51 4 (.slice D2 hs.length e2) hs.length (hs.flatMap thc)) := Lib.hid (by rw [hV]; exact own_allocK HO3.out _)
  have HBV : Hid (Below w.heap.size w V) := Lib.hid (by rw [hV]; exact HB2.out.alloc HB2.out.size _)
  clear hV HZ2 HO1 HO2 HO3 HB2 HB
  rw [sW] at P1 P2 P3
  have lbd : w.heap.size + 2 ≤ w2.heap.size := by omega
  clear sW
  generalize w2.heap.size = bd at *
  obtain ⟨a, x, rfl, hx, ⟨-, -, -, -⟩, -, q5, -, -, -, -⟩ := (own_rdK P1.out).tkAt hi
  have fz := own_froz P1.out (i * 10) 5
  obtain ⟨dx, dy⟩ := box_rules HD.out
  obtain ⟨b1, b2⟩ := own_blk P1.out (i * 10)
  go_upto_region 9 with fail
  refine name_world fun U hU => ?_
  have hnd := own_apart_box P1.out HD.out (by decide)
  have HD3 : Hid (U.heap[bd]? = some (.cells #[.int .i64 mn, .int .i64 mx, .int .i64 sw, .slice (some a) ts.length c2, .slice B2 ls.length d2, .slice D2 hs.length e2] 29 (0, 0))) := Lib.hid (by rw [hU]; exact box_far HD.out (p := ⟨(a.add (i * 10)).block, (a.add (i * 10)).off + 5, none⟩) (fun e => hnd (by rw [b2]; exact congrArg some e.symm)) _)
  have HZ3 : Hid (U.heap[w.heap.size + 1]? = some (.cells #[.int .i64 0, .int .i64 0, .int .i64 0, .slice none 0 0, .slice none 0 0, .slice none 0 0] 29 (0, 0))) := Lib.hid (by rw [hU]; exact box_far HZV.out (p := ⟨(a.add (i * 10)).block, (a.add (i * 10)).off + 5, none⟩) (by show _ ≠ (a.add (i * 10)).block; omega) _)
  have Q1 : Hid (U.ownsRow (w.heap.size + 2) 43 10 (.slice (some a) ts.length c2) ts.length ((tkPut ts i n).flatMap tkc)) := Lib.hid (by
    rw [hU]; unfold tkPut
    rw [← flat_set (f := tkc) (k := 10) (fun _ => rfl) (d := tk0) ts i 5 _ (.int .i64 n) hi (by decide) rfl]; exact own_put P1.out (i * 10) 5 _)
  have Q2 : Hid (U.ownsRow (w.heap.size + 2) 49 4 (.slice B2 ls.length d2) ls.length (ls.flatMap lnc)) := Lib.hid (by rw [hU]; exact own_setK P2.out (p := ⟨(a.add (i * 10)).block, (a.add (i * 10)).off + 5, none⟩) (own_apart P1.out P2.out (by decide) b2) _)
  have Q3 : Hid (U.ownsRow (w.heap.size + 2) 51 4 (.slice D2 hs.length e2) hs.length (hs.flatMap thc)) := Lib.hid (by rw [hU]; exact own_setK P3.out (p := ⟨(a.add (i * 10)).block, (a.add (i * 10)).off + 5, none⟩) (own_apart P1.out P3.out (by decide) b2) _)
  have HB3 : Hid (Below w.heap.size w U) := Lib.hid (by rw [hU]; exact HBV.out.setCell (p := ⟨(a.add (i * 10)).block, (a.add (i * 10)).off + 5, none⟩) (by show _ ≤ (a.add (i * 10)).block; omega) _)
  clear hU dx dy q5 fz hx HD HZV P1 P2 P3 HBV
  generalize hA2 : some a = A2 at *
  obtain ⟨dx, dy⟩ := box_rules HD3.out
  obtain ⟨zx, zy⟩ := box_rules HZ3.out
  go_wp2
  have h4 := box_set (i := 5) (box_set (i := 4) (box_set (i := 3) (box_set (i := 2) (box_set (i := 1) (box_set (i := 0) HZ3.out (.int .i64 mn)) (.int .i64 mx)) (.int .i64 (sw))) (.slice A2 ts.length c2)) (.slice B2 ls.length d2)) (.slice D2 hs.length e2)
  have hz := (box_rules h4).1
  refine bodyPost_ret (v := .agg #[.int .i64 mn, .int .i64 mx, .int .i64 (sw), .slice A2 ts.length c2, .slice B2 ls.length d2, .slice D2 hs.length e2]) (by simp [results, Try.f35, go_sem, hz]) rfl ?_
  have bR : w.heap.size ≤ w.heap.size + 1 := by omega
  have lz : w.heap.size + 1 < w.heap.size + 2 := by omega
  refine HRW.out _ _ ⟨A2, c2, B2, d2, D2, e2, rfl, ?_, ?_, ?_, ?_⟩
  · refine own_rdK (base := w.heap.size + 2) (e := 43) (k := 10) (n := ts.length) (c := c2) ?_
    repeat (with_reducible first | exact Q1.out | refine own_setK ?_ (own_low Q1.out lz) _)
  · refine own_rdK (base := w.heap.size + 2) (e := 49) (k := 4) (n := ls.length) (c := d2) ?_
    repeat (with_reducible first | exact Q2.out | refine own_setK ?_ (own_low Q2.out lz) _)
  · refine own_rdK (base := w.heap.size + 2) (e := 51) (k := 4) (n := hs.length) (c := e2) ?_
    repeat (with_reducible first | exact Q3.out | refine own_setK ?_ (own_low Q3.out lz) _)
  · repeat (with_reducible first | exact HB3.out | refine Below.setCell ?_ bR _)
set_option maxHeartbeats 4000000 in
set_option maxRecDepth 100000 in
theorem with2 (mn mx sw : Int) (ts : List Tk) (ls : List Ln) (hs : List Th) (A : Option Addr) (ca : Nat) (B : Option Addr) (cb : Nat) (D : Option Addr) (cd : Nat) (i : Nat) (_hi : i = i) (n : Int) (w : World)
    (hlt0 : ts.length ≤ 1048576) (hll : ls.length ≤ 1048576) (hlh : hs.length ≤ 1048576)
    (ht : Rd w A (ts.flatMap tkc)) (hl : Rd w B (ls.flatMap lnc)) (hh : Rd w D (hs.flatMap thc)) :
    Calls Try.prog 35 #[cfv mn mx sw A ts.length ca B ls.length cb D hs.length cd, .int .i64 2, .int .i64 (i : Int), .int .i64 n] w (RetW mn mx (n) ts.length ls.length hs.length (ts) ls (hs) w) := by
  have cp := Lib.hid (fun w ht hl hh => copy26_any mn mx sw ts ls hs A ca B cb D cd w hlt0 hll hlh ht hl hh)
  have Ht := Lib.hid ht; have Hl := Lib.hid hl; have Hh := Lib.hid hh
  clear ht hl hh
  unfold RetCy cfv at cp
  unfold cfv
  have HRW : Hid (∀ e w', (∃ (A : Option Addr) (ca : Nat) (B : Option Addr) (cb : Nat) (D : Option Addr) (cd : Nat), e = .returned (cfv mn mx (n) A ts.length ca B ls.length cb D hs.length cd) ∧ Rd w' A ((ts).flatMap tkc) ∧ Rd w' B (ls.flatMap lnc) ∧ Rd w' D ((hs).flatMap thc) ∧ Below w.heap.size w w') → RetW mn mx (n) ts.length ls.length hs.length (ts) ls (hs) w e w') := Lib.hid (fun _ _ h => h)
  generalize RetW mn mx (n) ts.length ls.length hs.length (ts) ls (hs) w = RW at *
  go_enter Try.func35, Try.ntmps35
  go_upto_region 1 with fail
  refine name_world fun W hW => ?_
  have HC : Hid (W.heap[w.heap.size]? = some (.cells #[.int .i64 mn, .int .i64 mx, .int .i64 sw, .slice A ts.length ca, .slice B ls.length cb, .slice D hs.length cd] 29 (0, 0))) := Lib.hid (by rw [hW]; exact box_alloc (heap_alloc_new w _) _)
  have HZ : Hid (W.heap[w.heap.size + 1]? = some (.cells #[.int .i64 0, .int .i64 0, .int .i64 0, .slice none 0 0, .slice none 0 0, .slice none 0 0] 29 (0, 0))) := Lib.hid (by rw [hW]; exact heap_new_at _ (by simp))
  have HB : Hid (Below w.heap.size w W) := Lib.hid (by rw [hW]; exact ((Below.refl _ _).alloc (Nat.le_refl _) _).alloc (by simp) _)
  have sW : W.heap.size = w.heap.size + 2 := by rw [hW]; simp
  have q0 := (box_rules HC.out).1
  clear hW
  go_wp2_with fail
  refine (cp.out W (Ht.out.below HB.out) (Hl.out.below HB.out) (Hh.out.below HB.out)).mono ?_
  rintro e w2 ⟨A2, c2, B2, d2, D2, e2, rfl, ho1, ho2, ho3, hb⟩
  have s2 := hb.size
  have HZ2 := Lib.hid (box_keep HZ.out hb)
  have HB2 := Lib.hid (HB.out.trans (hb.mono HB.out.size))
  have HO1 := Lib.hid ho1; have HO2 := Lib.hid ho2; have HO3 := Lib.hid ho3
  clear hb ho1 ho2 ho3 q0 HZ HC cp Ht Hl Hh
  go_upto_region 2 with fail
  refine name_world fun V hV => ?_
  have HD : Hid (V.heap[w2.heap.size]? = some (.cells #[.int .i64 mn, .int .i64 mx, .int .i64 sw, .slice A2 ts.length c2, .slice B2 ls.length d2, .slice D2 hs.length e2] 29 (0, 0))) := Lib.hid (by rw [hV]; exact heap_alloc_new _ _)
  have HZV : Hid (V.heap[w.heap.size + 1]? = some (.cells #[.int .i64 0, .int .i64 0, .int .i64 0, .slice none 0 0, .slice none 0 0, .slice none 0 0] 29 (0, 0))) := Lib.hid (by rw [hV]; exact box_alloc HZ2.out _)
  have P1 : Hid (V.ownsRow W.heap.size 43 10 (.slice A2 ts.length c2) ts.length (ts.flatMap tkc)) := Lib.hid (by rw [hV]; exact own_allocK HO1.out _)
  have P2 : Hid (V.ownsRow W.heap.size 49 4 (.slice B2 ls.length d2) ls.length (ls.flatMap lnc)) := Lib.hid (by rw [hV]; exact own_allocK HO2.out _)
  have P3 : Hid (V.ownsRow W.heap.size 51 4 (.slice D2 hs.length e2) hs.length (hs.flatMap thc)) := Lib.hid (by rw [hV]; exact own_allocK HO3.out _)
  have HBV : Hid (Below w.heap.size w V) := Lib.hid (by rw [hV]; exact HB2.out.alloc HB2.out.size _)
  clear hV HZ2 HO1 HO2 HO3 HB2 HB
  rw [sW] at P1 P2 P3
  have lbd : w.heap.size + 2 ≤ w2.heap.size := by omega
  clear sW
  generalize w2.heap.size = bd at *
  obtain ⟨dx, dy⟩ := box_rules HD.out
  go_upto_region 9 with fail
  refine name_world fun U hU => ?_
  have HD3 : Hid (U.heap[bd]? = some (.cells #[.int .i64 mn, .int .i64 mx, .int .i64 n, .slice A2 ts.length c2, .slice B2 ls.length d2, .slice D2 hs.length e2] 29 (0, 0))) := Lib.hid (by rw [hU]; exact box_set (i := 2) HD.out _)
  have HZ3 : Hid (U.heap[w.heap.size + 1]? = some (.cells #[.int .i64 0, .int .i64 0, .int .i64 0, .slice none 0 0, .slice none 0 0, .slice none 0 0] 29 (0, 0))) := Lib.hid (by rw [hU]; exact box_far HZV.out (p := ⟨bd, 2, none⟩) (by show _ ≠ bd; omega) _)
  have Q1 : Hid (U.ownsRow (w.heap.size + 2) 43 10 (.slice A2 ts.length c2) ts.length (ts.flatMap tkc)) := Lib.hid (by rw [hU]; exact own_setK P1.out (p := ⟨bd, 2, none⟩) (own_apart_box P1.out HD.out (by decide)) _)
  have Q2 : Hid (U.ownsRow (w.heap.size + 2) 49 4 (.slice B2 ls.length d2) ls.length (ls.flatMap lnc)) := Lib.hid (by rw [hU]; exact own_setK P2.out (p := ⟨bd, 2, none⟩) (own_apart_box P2.out HD.out (by decide)) _)
  have Q3 : Hid (U.ownsRow (w.heap.size + 2) 51 4 (.slice D2 hs.length e2) hs.length (hs.flatMap thc)) := Lib.hid (by rw [hU]; exact own_setK P3.out (p := ⟨bd, 2, none⟩) (own_apart_box P3.out HD.out (by decide)) _)
  have HB3 : Hid (Below w.heap.size w U) := Lib.hid (by rw [hU]; exact HBV.out.setCell (p := ⟨bd, 2, none⟩) (by show _ ≤ bd; omega) _)
  clear hU dx dy HD HZV P1 P2 P3 HBV
  obtain ⟨dx, dy⟩ := box_rules HD3.out
  obtain ⟨zx, zy⟩ := box_rules HZ3.out
  go_wp2
  have h4 := box_set (i := 5) (box_set (i := 4) (box_set (i := 3) (box_set (i := 2) (box_set (i := 1) (box_set (i := 0) HZ3.out (.int .i64 mn)) (.int .i64 mx)) (.int .i64 (n))) (.slice A2 ts.length c2)) (.slice B2 ls.length d2)) (.slice D2 hs.length e2)
  have hz := (box_rules h4).1
  refine bodyPost_ret (v := .agg #[.int .i64 mn, .int .i64 mx, .int .i64 (n), .slice A2 ts.length c2, .slice B2 ls.length d2, .slice D2 hs.length e2]) (by simp [results, Try.f35, go_sem, hz]) rfl ?_
  have bR : w.heap.size ≤ w.heap.size + 1 := by omega
  have lz : w.heap.size + 1 < w.heap.size + 2 := by omega
  refine HRW.out _ _ ⟨A2, c2, B2, d2, D2, e2, rfl, ?_, ?_, ?_, ?_⟩
  · refine own_rdK (base := w.heap.size + 2) (e := 43) (k := 10) (n := ts.length) (c := c2) ?_
    repeat (with_reducible first | exact Q1.out | refine own_setK ?_ (own_low Q1.out lz) _)
  · refine own_rdK (base := w.heap.size + 2) (e := 49) (k := 4) (n := ls.length) (c := d2) ?_
    repeat (with_reducible first | exact Q2.out | refine own_setK ?_ (own_low Q2.out lz) _)
  · refine own_rdK (base := w.heap.size + 2) (e := 51) (k := 4) (n := hs.length) (c := e2) ?_
    repeat (with_reducible first | exact Q3.out | refine own_setK ?_ (own_low Q3.out lz) _)
  · repeat (with_reducible first | exact HB3.out | refine Below.setCell ?_ bR _)
set_option maxHeartbeats 4000000 in
set_option maxRecDepth 100000 in
theorem with3 (mn mx sw : Int) (ts : List Tk) (ls : List Ln) (hs : List Th) (A : Option Addr) (ca : Nat) (B : Option Addr) (cb : Nat) (D : Option Addr) (cd : Nat) (i : Nat) (hi : i < hs.length) (n : Int) (w : World)
    (hlt0 : ts.length ≤ 1048576) (hll : ls.length ≤ 1048576) (hlh : hs.length ≤ 1048576)
    (ht : Rd w A (ts.flatMap tkc)) (hl : Rd w B (ls.flatMap lnc)) (hh : Rd w D (hs.flatMap thc)) :
    Calls Try.prog 35 #[cfv mn mx sw A ts.length ca B ls.length cb D hs.length cd, .int .i64 3, .int .i64 (i : Int), .int .i64 n] w (RetW mn mx (sw) ts.length ls.length hs.length (ts) ls (thPut hs i n) w) := by
  have cp := Lib.hid (fun w ht hl hh => copy26_any mn mx sw ts ls hs A ca B cb D cd w hlt0 hll hlh ht hl hh)
  have Ht := Lib.hid ht; have Hl := Lib.hid hl; have Hh := Lib.hid hh
  clear ht hl hh
  unfold RetCy cfv at cp
  unfold cfv
  have HRW : Hid (∀ e w', (∃ (A : Option Addr) (ca : Nat) (B : Option Addr) (cb : Nat) (D : Option Addr) (cd : Nat), e = .returned (cfv mn mx (sw) A ts.length ca B ls.length cb D hs.length cd) ∧ Rd w' A ((ts).flatMap tkc) ∧ Rd w' B (ls.flatMap lnc) ∧ Rd w' D ((thPut hs i n).flatMap thc) ∧ Below w.heap.size w w') → RetW mn mx (sw) ts.length ls.length hs.length (ts) ls (thPut hs i n) w e w') := Lib.hid (fun _ _ h => h)
  generalize RetW mn mx (sw) ts.length ls.length hs.length (ts) ls (thPut hs i n) w = RW at *
  go_enter Try.func35, Try.ntmps35
  go_upto_region 1 with fail
  refine name_world fun W hW => ?_
  have HC : Hid (W.heap[w.heap.size]? = some (.cells #[.int .i64 mn, .int .i64 mx, .int .i64 sw, .slice A ts.length ca, .slice B ls.length cb, .slice D hs.length cd] 29 (0, 0))) := Lib.hid (by rw [hW]; exact box_alloc (heap_alloc_new w _) _)
  have HZ : Hid (W.heap[w.heap.size + 1]? = some (.cells #[.int .i64 0, .int .i64 0, .int .i64 0, .slice none 0 0, .slice none 0 0, .slice none 0 0] 29 (0, 0))) := Lib.hid (by rw [hW]; exact heap_new_at _ (by simp))
  have HB : Hid (Below w.heap.size w W) := Lib.hid (by rw [hW]; exact ((Below.refl _ _).alloc (Nat.le_refl _) _).alloc (by simp) _)
  have sW : W.heap.size = w.heap.size + 2 := by rw [hW]; simp
  have q0 := (box_rules HC.out).1
  clear hW
  go_wp2_with fail
  refine (cp.out W (Ht.out.below HB.out) (Hl.out.below HB.out) (Hh.out.below HB.out)).mono ?_
  rintro e w2 ⟨A2, c2, B2, d2, D2, e2, rfl, ho1, ho2, ho3, hb⟩
  have s2 := hb.size
  have HZ2 := Lib.hid (box_keep HZ.out hb)
  have HB2 := Lib.hid (HB.out.trans (hb.mono HB.out.size))
  have HO1 := Lib.hid ho1; have HO2 := Lib.hid ho2; have HO3 := Lib.hid ho3
  clear hb ho1 ho2 ho3 q0 HZ HC cp Ht Hl Hh
  go_upto_region 2 with fail
  refine name_world fun V hV => ?_
  have HD : Hid (V.heap[w2.heap.size]? = some (.cells #[.int .i64 mn, .int .i64 mx, .int .i64 sw, .slice A2 ts.length c2, .slice B2 ls.length d2, .slice D2 hs.length e2] 29 (0, 0))) := Lib.hid (by rw [hV]; exact heap_alloc_new _ _)
  have HZV : Hid (V.heap[w.heap.size + 1]? = some (.cells #[.int .i64 0, .int .i64 0, .int .i64 0, .slice none 0 0, .slice none 0 0, .slice none 0 0] 29 (0, 0))) := Lib.hid (by rw [hV]; exact box_alloc HZ2.out _)
  have P1 : Hid (V.ownsRow W.heap.size 43 10 (.slice A2 ts.length c2) ts.length (ts.flatMap tkc)) := Lib.hid (by rw [hV]; exact own_allocK HO1.out _)
  have P2 : Hid (V.ownsRow W.heap.size 49 4 (.slice B2 ls.length d2) ls.length (ls.flatMap lnc)) := Lib.hid (by rw [hV]; exact own_allocK HO2.out _)
  have P3 : Hid (V.ownsRow W.heap.size 51 4 (.slice D2 hs.length e2) hs.length (hs.flatMap thc)) := Lib.hid (by rw [hV]; exact own_allocK HO3.out _)
  have HBV : Hid (Below w.heap.size w V) := Lib.hid (by rw [hV]; exact HB2.out.alloc HB2.out.size _)
  clear hV HZ2 HO1 HO2 HO3 HB2 HB
  rw [sW] at P1 P2 P3
  have lbd : w.heap.size + 2 ≤ w2.heap.size := by omega
  clear sW
  generalize w2.heap.size = bd at *
  obtain ⟨a, x, rfl, hx, -, q5, -, -⟩ := (own_rdK P3.out).thAt hi
  have fz := own_froz P3.out (i * 4) 1
  obtain ⟨dx, dy⟩ := box_rules HD.out
  obtain ⟨b1, b2⟩ := own_blk P3.out (i * 4)
  go_upto_region 9 with fail
  refine name_world fun U hU => ?_
  have hnd := own_apart_box P3.out HD.out (by decide)
  have HD3 : Hid (U.heap[bd]? = some (.cells #[.int .i64 mn, .int .i64 mx, .int .i64 sw, .slice A2 ts.length c2, .slice B2 ls.length d2, .slice (some a) hs.length e2] 29 (0, 0))) := Lib.hid (by rw [hU]; exact box_far HD.out (p := ⟨(a.add (i * 4)).block, (a.add (i * 4)).off + 1, none⟩) (fun e => hnd (by rw [b2]; exact congrArg some e.symm)) _)
  have HZ3 : Hid (U.heap[w.heap.size + 1]? = some (.cells #[.int .i64 0, .int .i64 0, .int .i64 0, .slice none 0 0, .slice none 0 0, .slice none 0 0] 29 (0, 0))) := Lib.hid (by rw [hU]; exact box_far HZV.out (p := ⟨(a.add (i * 4)).block, (a.add (i * 4)).off + 1, none⟩) (by show _ ≠ (a.add (i * 4)).block; omega) _)
  have Q3 : Hid (U.ownsRow (w.heap.size + 2) 51 4 (.slice (some a) hs.length e2) hs.length ((thPut hs i n).flatMap thc)) := Lib.hid (by
    rw [hU]; unfold thPut
    rw [← flat_set (f := thc) (k := 4) (fun _ => rfl) (d := ⟨0, 0, 0, 0⟩) hs i 1 _ (.int .i64 n) hi (by decide) rfl]; exact own_put P3.out (i * 4) 1 _)
  have Q2 : Hid (U.ownsRow (w.heap.size + 2) 49 4 (.slice B2 ls.length d2) ls.length (ls.flatMap lnc)) := Lib.hid (by rw [hU]; exact own_setK P2.out (p := ⟨(a.add (i * 4)).block, (a.add (i * 4)).off + 1, none⟩) (own_apart P3.out P2.out (by decide) b2) _)
  have Q1 : Hid (U.ownsRow (w.heap.size + 2) 43 10 (.slice A2 ts.length c2) ts.length (ts.flatMap tkc)) := Lib.hid (by rw [hU]; exact own_setK P1.out (p := ⟨(a.add (i * 4)).block, (a.add (i * 4)).off + 1, none⟩) (own_apart P3.out P1.out (by decide) b2) _)
  have HB3 : Hid (Below w.heap.size w U) := Lib.hid (by rw [hU]; exact HBV.out.setCell (p := ⟨(a.add (i * 4)).block, (a.add (i * 4)).off + 1, none⟩) (by show _ ≤ (a.add (i * 4)).block; omega) _)
  clear hU dx dy q5 fz hx HD HZV P1 P2 P3 HBV
  generalize hD2 : some a = D2 at *
  obtain ⟨dx, dy⟩ := box_rules HD3.out
  obtain ⟨zx, zy⟩ := box_rules HZ3.out
  go_wp2
  have h4 := box_set (i := 5) (box_set (i := 4) (box_set (i := 3) (box_set (i := 2) (box_set (i := 1) (box_set (i := 0) HZ3.out (.int .i64 mn)) (.int .i64 mx)) (.int .i64 (sw))) (.slice A2 ts.length c2)) (.slice B2 ls.length d2)) (.slice D2 hs.length e2)
  have hz := (box_rules h4).1
  refine bodyPost_ret (v := .agg #[.int .i64 mn, .int .i64 mx, .int .i64 (sw), .slice A2 ts.length c2, .slice B2 ls.length d2, .slice D2 hs.length e2]) (by simp [results, Try.f35, go_sem, hz]) rfl ?_
  have bR : w.heap.size ≤ w.heap.size + 1 := by omega
  have lz : w.heap.size + 1 < w.heap.size + 2 := by omega
  refine HRW.out _ _ ⟨A2, c2, B2, d2, D2, e2, rfl, ?_, ?_, ?_, ?_⟩
  · refine own_rdK (base := w.heap.size + 2) (e := 43) (k := 10) (n := ts.length) (c := c2) ?_
    repeat (with_reducible first | exact Q1.out | refine own_setK ?_ (own_low Q1.out lz) _)
  · refine own_rdK (base := w.heap.size + 2) (e := 49) (k := 4) (n := ls.length) (c := d2) ?_
    repeat (with_reducible first | exact Q2.out | refine own_setK ?_ (own_low Q2.out lz) _)
  · refine own_rdK (base := w.heap.size + 2) (e := 51) (k := 4) (n := hs.length) (c := e2) ?_
    repeat (with_reducible first | exact Q3.out | refine own_setK ?_ (own_low Q3.out lz) _)
  · repeat (with_reducible first | exact HB3.out | refine Below.setCell ?_ bR _)
end Go.Proofs.Ytlnjeelbfokdpaa
/- vergelaw37: the walks of edge; what a search ends at. Conditions: lists that read. -/
namespace Go.Proofs.Ytlnjeelbfokdpaa
open Go.RowKit Go.Shelf

theorem acc_w (mn mx sw : Int) {nt nl nh : Nat} (T : List Tk) (L : List Ln) (H : List Th) (hT : T.length = nt) (hL : L.length = nl) (hH : H.length = nh) (A : Option Addr) (ca : Nat) (B : Option Addr) (cb : Nat) (D : Option Addr) (cd : Nat) (w : World)
    (h1 : nt ≤ 1048576) (h2 : nl ≤ 1048576) (h3 : nh ≤ 1048576) (ht : Rd w A (T.flatMap tkc)) (hl : Rd w B (L.flatMap lnc)) (hh : Rd w D (H.flatMap thc)) (hmx : I64 mx) (ht64 : ∀ p ∈ T.map (·.prio) ++ H.map (·.prio), I64 p) :
    Calls Try.prog 10 #[cfv mn mx sw A nt ca B nl cb D nh cd] w fun e w' => e = .returned (.bool (accB ⟨mn, mx, sw, T, L, H⟩)) ∧ Below w.heap.size w w' := by
  subst hT hL hH
  exact accept_any mn mx sw T L H A ca B cb D cd w h1 h2 h3 ht hl hh hmx ht64
set_option maxHeartbeats 4000000 in
set_option maxRecDepth 100000 in
theorem edge1 (mn mx sw : Int) (ts : List Tk) (ls : List Ln) (hs : List Th) (A : Option Addr) (ca : Nat) (B : Option Addr) (cb : Nat) (D : Option Addr) (cd : Nat) (i : Nat) (hi : i < ts.length) (n : Int) (hn : 0 ≤ n ∧ n ≤ 4398046511104)
    (h1 : accB ⟨mn, mx, sw, tkPut ts i n, ls, hs⟩ = true) (h2 : accB ⟨mn, mx, sw, tkPut ts i (n + 1), ls, hs⟩ = false) (w : World)
    (hlt0 : ts.length ≤ 1048576) (hll : ls.length ≤ 1048576) (hlh : hs.length ≤ 1048576)
    (ht : Rd w A (ts.flatMap tkc)) (hl : Rd w B (ls.flatMap lnc)) (hh : Rd w D (hs.flatMap thc)) (hmx : I64 mx) (ht64 : ∀ p ∈ ts.map (·.prio) ++ hs.map (·.prio), I64 p) :
    Calls Try.prog 18 #[cfv mn mx sw A ts.length ca B ls.length cb D hs.length cd, .int .i64 1, .int .i64 (i : Int), .int .i64 n, .int .i64 0] w fun e w' => e = .returned (.bool true) ∧ Below w.heap.size w w' := by
  have k1 := Lib.hid (fun n w ht hl hh => with1 mn mx sw ts ls hs A ca B cb D cd i hi n w hlt0 hll hlh ht hl hh)
  have c1 := Lib.hid (fun A ca B cb D cd w r1 r2 r3 => acc_w mn mx (sw) (tkPut ts i n) ls (hs) (tkPut_len ts i n) rfl rfl A ca B cb D cd w hlt0 hll hlh r1 r2 r3 hmx (fun q hq => by
    rcases List.mem_append.1 hq with h | h
    · exact ht64 q (List.mem_append_left _ (tkPut_prio hi h))
    · exact ht64 q (List.mem_append_right _ h)))
  have c2 := Lib.hid (fun A ca B cb D cd w r1 r2 r3 => acc_w mn mx (sw) (tkPut ts i (n + 1)) ls (hs) (tkPut_len ts i (n + 1)) rfl rfl A ca B cb D cd w hlt0 hll hlh r1 r2 r3 hmx (fun q hq => by
    rcases List.mem_append.1 hq with h | h
    · exact ht64 q (List.mem_append_left _ (tkPut_prio hi h))
    · exact ht64 q (List.mem_append_right _ h)))
  rw [h1] at c1
  rw [h2] at c2
  have Ht := Lib.hid ht; have Hl := Lib.hid hl; have Hh := Lib.hid hh
  clear ht hl hh hmx ht64 h1 h2
  unfold RetW at k1
  unfold cfv at *
  have e1 : IntKind.i64.wrap (n + 1) = n + 1 := IntWalk.i64_in _ (by omega)
  go_enter Try.func18, Try.ntmps18
  go_upto_region 1 with fail
  refine name_world fun W hW => ?_
  have HC : Hid (W.heap[w.heap.size]? = some (.cells #[.int .i64 mn, .int .i64 mx, .int .i64 sw, .slice A ts.length ca, .slice B ls.length cb, .slice D hs.length cd] 29 (0, 0))) := Lib.hid (by rw [hW]; exact heap_alloc_new w _)
  have HB : Hid (Below w.heap.size w W) := Lib.hid (by rw [hW]; exact (Below.refl _ _).alloc (Nat.le_refl _) _)
  have m1 := Lib.hid (fun w' (h : Hid (Below W.heap.size W w')) => (Ht.out.below HB.out).below h.out)
  have m2 := Lib.hid (fun w' (h : Hid (Below W.heap.size W w')) => (Hl.out.below HB.out).below h.out)
  have m3 := Lib.hid (fun w' (h : Hid (Below W.heap.size W w')) => (Hh.out.below HB.out).below h.out)
  have hR := fun w' (h : Hid (Below W.heap.size W w')) => (box_rules (box_keep HC.out h.out)).1
  have hS0 := S_refl' W
  have q0 := hR _ hS0
  clear hW Ht Hl Hh
  go_wp2_with fail
  refine (k1.out n _ (m1.out _ hS0) (m2.out _ hS0) (m3.out _ hS0)).mono ?_
  rintro e w1 ⟨A1, a1, B1, b1, D1, d1, rfl, r1, r2, r3, hb⟩
  have hS1 := S_call' hS0 hb
  have R1 := Lib.hid r1; have R2 := Lib.hid r2; have R3 := Lib.hid r3
  clear hb q0 r1 r2 r3
  go_wp2_with fail
  refine (c1.out _ _ _ _ _ _ _ R1.out R2.out R3.out).mono ?_
  rintro e w2 ⟨rfl, hb⟩
  have hS2 := S_call' hS1 hb
  have q2 := hR _ hS2
  clear hb R1 R2 R3 c1
  go_wp2_with fail
  refine (k1.out (n + 1) _ (m1.out _ hS2) (m2.out _ hS2) (m3.out _ hS2)).mono ?_
  rintro e w3 ⟨A1, a1, B1, b1, D1, d1, rfl, r1, r2, r3, hb⟩
  have hS3 := S_call' hS2 hb
  have R1 := Lib.hid r1; have R2 := Lib.hid r2; have R3 := Lib.hid r3
  clear hb q2 r1 r2 r3
  go_wp2_with fail
  refine (c2.out _ _ _ _ _ _ _ R1.out R2.out R3.out).mono ?_
  rintro e w4 ⟨rfl, hb⟩
  have hS4 := S_call' hS3 hb
  clear hb R1 R2 R3 c2
  go_wp2
  go_ret
  exact ⟨rfl, HB.out.trans (hS4.out.mono HB.out.size)⟩
set_option maxHeartbeats 4000000 in
set_option maxRecDepth 100000 in
theorem edge2 (mn mx sw : Int) (ts : List Tk) (ls : List Ln) (hs : List Th) (A : Option Addr) (ca : Nat) (B : Option Addr) (cb : Nat) (D : Option Addr) (cd : Nat) (i : Nat) (hi : i = i) (n : Int) (hn : 0 ≤ n ∧ n ≤ 4398046511104)
    (h1 : accB ⟨mn, mx, n, ts, ls, hs⟩ = true) (h2 : accB ⟨mn, mx, n + 1, ts, ls, hs⟩ = false) (w : World)
    (hlt0 : ts.length ≤ 1048576) (hll : ls.length ≤ 1048576) (hlh : hs.length ≤ 1048576)
    (ht : Rd w A (ts.flatMap tkc)) (hl : Rd w B (ls.flatMap lnc)) (hh : Rd w D (hs.flatMap thc)) (hmx : I64 mx) (ht64 : ∀ p ∈ ts.map (·.prio) ++ hs.map (·.prio), I64 p) :
    Calls Try.prog 18 #[cfv mn mx sw A ts.length ca B ls.length cb D hs.length cd, .int .i64 2, .int .i64 (i : Int), .int .i64 n, .int .i64 0] w fun e w' => e = .returned (.bool true) ∧ Below w.heap.size w w' := by
  have k1 := Lib.hid (fun n w ht hl hh => with2 mn mx sw ts ls hs A ca B cb D cd i hi n w hlt0 hll hlh ht hl hh)
  have c1 := Lib.hid (fun A ca B cb D cd w r1 r2 r3 => acc_w mn mx (n) (ts) ls (hs) rfl rfl rfl A ca B cb D cd w hlt0 hll hlh r1 r2 r3 hmx (fun q hq => by
    rcases List.mem_append.1 hq with h | h
    · exact ht64 q (List.mem_append_left _ h)
    · exact ht64 q (List.mem_append_right _ h)))
  have c2 := Lib.hid (fun A ca B cb D cd w r1 r2 r3 => acc_w mn mx (n + 1) (ts) ls (hs) rfl rfl rfl A ca B cb D cd w hlt0 hll hlh r1 r2 r3 hmx (fun q hq => by
    rcases List.mem_append.1 hq with h | h
    · exact ht64 q (List.mem_append_left _ h)
    · exact ht64 q (List.mem_append_right _ h)))
  rw [h1] at c1
  rw [h2] at c2
  have Ht := Lib.hid ht; have Hl := Lib.hid hl; have Hh := Lib.hid hh
  clear ht hl hh hmx ht64 h1 h2
  unfold RetW at k1
  unfold cfv at *
  have e1 : IntKind.i64.wrap (n + 1) = n + 1 := IntWalk.i64_in _ (by omega)
  go_enter Try.func18, Try.ntmps18
  go_upto_region 1 with fail
  refine name_world fun W hW => ?_
  have HC : Hid (W.heap[w.heap.size]? = some (.cells #[.int .i64 mn, .int .i64 mx, .int .i64 sw, .slice A ts.length ca, .slice B ls.length cb, .slice D hs.length cd] 29 (0, 0))) := Lib.hid (by rw [hW]; exact heap_alloc_new w _)
  have HB : Hid (Below w.heap.size w W) := Lib.hid (by rw [hW]; exact (Below.refl _ _).alloc (Nat.le_refl _) _)
  have m1 := Lib.hid (fun w' (h : Hid (Below W.heap.size W w')) => (Ht.out.below HB.out).below h.out)
  have m2 := Lib.hid (fun w' (h : Hid (Below W.heap.size W w')) => (Hl.out.below HB.out).below h.out)
  have m3 := Lib.hid (fun w' (h : Hid (Below W.heap.size W w')) => (Hh.out.below HB.out).below h.out)
  have hR := fun w' (h : Hid (Below W.heap.size W w')) => (box_rules (box_keep HC.out h.out)).1
  have hS0 := S_refl' W
  have q0 := hR _ hS0
  clear hW Ht Hl Hh
  go_wp2_with fail
  refine (k1.out n _ (m1.out _ hS0) (m2.out _ hS0) (m3.out _ hS0)).mono ?_
  rintro e w1 ⟨A1, a1, B1, b1, D1, d1, rfl, r1, r2, r3, hb⟩
  have hS1 := S_call' hS0 hb
  have R1 := Lib.hid r1; have R2 := Lib.hid r2; have R3 := Lib.hid r3
  clear hb q0 r1 r2 r3
  go_wp2_with fail
  refine (c1.out _ _ _ _ _ _ _ R1.out R2.out R3.out).mono ?_
  rintro e w2 ⟨rfl, hb⟩
  have hS2 := S_call' hS1 hb
  have q2 := hR _ hS2
  clear hb R1 R2 R3 c1
  go_wp2_with fail
  refine (k1.out (n + 1) _ (m1.out _ hS2) (m2.out _ hS2) (m3.out _ hS2)).mono ?_
  rintro e w3 ⟨A1, a1, B1, b1, D1, d1, rfl, r1, r2, r3, hb⟩
  have hS3 := S_call' hS2 hb
  have R1 := Lib.hid r1; have R2 := Lib.hid r2; have R3 := Lib.hid r3
  clear hb q2 r1 r2 r3
  go_wp2_with fail
  refine (c2.out _ _ _ _ _ _ _ R1.out R2.out R3.out).mono ?_
  rintro e w4 ⟨rfl, hb⟩
  have hS4 := S_call' hS3 hb
  clear hb R1 R2 R3 c2
  go_wp2
  go_ret
  exact ⟨rfl, HB.out.trans (hS4.out.mono HB.out.size)⟩
set_option maxHeartbeats 4000000 in
set_option maxRecDepth 100000 in
theorem edge3 (mn mx sw : Int) (ts : List Tk) (ls : List Ln) (hs : List Th) (A : Option Addr) (ca : Nat) (B : Option Addr) (cb : Nat) (D : Option Addr) (cd : Nat) (i : Nat) (hi : i < hs.length) (n : Int) (hn : 0 ≤ n ∧ n ≤ 4398046511104)
    (h1 : accB ⟨mn, mx, sw, ts, ls, thPut hs i n⟩ = true) (h2 : accB ⟨mn, mx, sw, ts, ls, thPut hs i (n + 1)⟩ = false) (w : World)
    (hlt0 : ts.length ≤ 1048576) (hll : ls.length ≤ 1048576) (hlh : hs.length ≤ 1048576)
    (ht : Rd w A (ts.flatMap tkc)) (hl : Rd w B (ls.flatMap lnc)) (hh : Rd w D (hs.flatMap thc)) (hmx : I64 mx) (ht64 : ∀ p ∈ ts.map (·.prio) ++ hs.map (·.prio), I64 p) :
    Calls Try.prog 18 #[cfv mn mx sw A ts.length ca B ls.length cb D hs.length cd, .int .i64 3, .int .i64 (i : Int), .int .i64 n, .int .i64 0] w fun e w' => e = .returned (.bool true) ∧ Below w.heap.size w w' := by
  have k1 := Lib.hid (fun n w ht hl hh => with3 mn mx sw ts ls hs A ca B cb D cd i hi n w hlt0 hll hlh ht hl hh)
  have c1 := Lib.hid (fun A ca B cb D cd w r1 r2 r3 => acc_w mn mx (sw) (ts) ls (thPut hs i n) rfl rfl (thPut_len hs i n) A ca B cb D cd w hlt0 hll hlh r1 r2 r3 hmx (fun q hq => by
    rcases List.mem_append.1 hq with h | h
    · exact ht64 q (List.mem_append_left _ h)
    · exact ht64 q (List.mem_append_right _ (thPut_prio hi h))))
  have c2 := Lib.hid (fun A ca B cb D cd w r1 r2 r3 => acc_w mn mx (sw) (ts) ls (thPut hs i (n + 1)) rfl rfl (thPut_len hs i (n + 1)) A ca B cb D cd w hlt0 hll hlh r1 r2 r3 hmx (fun q hq => by
    rcases List.mem_append.1 hq with h | h
    · exact ht64 q (List.mem_append_left _ h)
    · exact ht64 q (List.mem_append_right _ (thPut_prio hi h))))
  rw [h1] at c1
  rw [h2] at c2
  have Ht := Lib.hid ht; have Hl := Lib.hid hl; have Hh := Lib.hid hh
  clear ht hl hh hmx ht64 h1 h2
  unfold RetW at k1
  unfold cfv at *
  have e1 : IntKind.i64.wrap (n + 1) = n + 1 := IntWalk.i64_in _ (by omega)
  go_enter Try.func18, Try.ntmps18
  go_upto_region 1 with fail
  refine name_world fun W hW => ?_
  have HC : Hid (W.heap[w.heap.size]? = some (.cells #[.int .i64 mn, .int .i64 mx, .int .i64 sw, .slice A ts.length ca, .slice B ls.length cb, .slice D hs.length cd] 29 (0, 0))) := Lib.hid (by rw [hW]; exact heap_alloc_new w _)
  have HB : Hid (Below w.heap.size w W) := Lib.hid (by rw [hW]; exact (Below.refl _ _).alloc (Nat.le_refl _) _)
  have m1 := Lib.hid (fun w' (h : Hid (Below W.heap.size W w')) => (Ht.out.below HB.out).below h.out)
  have m2 := Lib.hid (fun w' (h : Hid (Below W.heap.size W w')) => (Hl.out.below HB.out).below h.out)
  have m3 := Lib.hid (fun w' (h : Hid (Below W.heap.size W w')) => (Hh.out.below HB.out).below h.out)
  have hR := fun w' (h : Hid (Below W.heap.size W w')) => (box_rules (box_keep HC.out h.out)).1
  have hS0 := S_refl' W
  have q0 := hR _ hS0
  clear hW Ht Hl Hh
  go_wp2_with fail
  refine (k1.out n _ (m1.out _ hS0) (m2.out _ hS0) (m3.out _ hS0)).mono ?_
  rintro e w1 ⟨A1, a1, B1, b1, D1, d1, rfl, r1, r2, r3, hb⟩
  have hS1 := S_call' hS0 hb
  have R1 := Lib.hid r1; have R2 := Lib.hid r2; have R3 := Lib.hid r3
  clear hb q0 r1 r2 r3
  go_wp2_with fail
  refine (c1.out _ _ _ _ _ _ _ R1.out R2.out R3.out).mono ?_
  rintro e w2 ⟨rfl, hb⟩
  have hS2 := S_call' hS1 hb
  have q2 := hR _ hS2
  clear hb R1 R2 R3 c1
  go_wp2_with fail
  refine (k1.out (n + 1) _ (m1.out _ hS2) (m2.out _ hS2) (m3.out _ hS2)).mono ?_
  rintro e w3 ⟨A1, a1, B1, b1, D1, d1, rfl, r1, r2, r3, hb⟩
  have hS3 := S_call' hS2 hb
  have R1 := Lib.hid r1; have R2 := Lib.hid r2; have R3 := Lib.hid r3
  clear hb q2 r1 r2 r3
  go_wp2_with fail
  refine (c2.out _ _ _ _ _ _ _ R1.out R2.out R3.out).mono ?_
  rintro e w4 ⟨rfl, hb⟩
  have hS4 := S_call' hS3 hb
  clear hb R1 R2 R3 c2
  go_wp2
  go_ret
  exact ⟨rfl, HB.out.trans (hS4.out.mono HB.out.size)⟩
theorem edge_no (cv : Value) (mn mx sw : Int) (A : Option Addr) (nt ca : Nat) (B : Option Addr) (nl cb : Nat) (D : Option Addr) (nh cd : Nat) (hcv : cv = cfv mn mx sw A nt ca B nl cb D nh cd) (what i y : Int) (hy : y ≠ 0) (w : World) :
    Calls Try.prog 18 #[cv, .int .i64 what, .int .i64 i, .int .i64 0, .int .i64 y] w fun e w' => e = .returned (.bool true) ∧ Below w.heap.size w w' := by
  subst hcv
  unfold cfv
  have hy1 : (y != 0) = true := by simpa using hy
  go_enter Try.func18, Try.ntmps18
  go_wp2
  go_ret
  exact ⟨rfl, (Below.refl _ _).alloc (Nat.le_refl _) _⟩
/-! what a search ends at -/
theorem acc_bad {c : Cf} (h : c.why ≠ 0) : accB c = false := by
  unfold accB bndR
  rw [if_pos h]
  simpa using h
theorem cost_edge {mn mx sw : Int} {ts : List Tk} {ls : List Ln} {hs : List Th} {i : Nat} (h : oyY ⟨mn, mx, sw, ts, ls, hs⟩ = 0) (hi : i < ts.length) :
    (0 ≤ costS ⟨mn, mx, sw, ts, ls, hs⟩ i ∧ costS ⟨mn, mx, sw, ts, ls, hs⟩ i ≤ 4398046511104) ∧ accB ⟨mn, mx, sw, tkPut ts i (costS ⟨mn, mx, sw, ts, ls, hs⟩ i), ls, hs⟩ = true ∧ accB ⟨mn, mx, sw, tkPut ts i (costS ⟨mn, mx, sw, ts, ls, hs⟩ i + 1), ls, hs⟩ = false := by
  obtain ⟨h1, h2⟩ := oyY_zero h
  have hx : TkIn (ts.getD i tk0) sw := (cfIn_of h1).ts _ (getD_mem (d := tk0) hi)
  have a1 := hx.cost; have a2 := hx.deadline; have a3 := hx.period
  have e1 : accB ⟨mn, mx, sw, tkPut ts i (ts.getD i tk0).cost, ls, hs⟩ = true := by rw [tkPut_self hi]; exact h2
  have e2 : accB ⟨mn, mx, sw, tkPut ts i ((ts.getD i tk0).deadline + 1), ls, hs⟩ = false := acc_bad fun hw => by
    have hi2 : i < (tkPut ts i ((ts.getD i tk0).deadline + 1)).length := by rw [tkPut_len]; exact hi
    have hy : TkIn ((tkPut ts i ((ts.getD i tk0).deadline + 1)).getD i tk0) sw := (cfIn_of hw).ts _ (getD_mem (d := tk0) hi2)
    have := hy.cost
    unfold tkPut at this
    rw [getD_set_at hi] at this
    dsimp only at this
    omega
  obtain ⟨b1, b2, b3, b4⟩ := srS_edge (P := fun n => accB ⟨mn, mx, sw, tkPut ts i n, ls, hs⟩) _ (Nat.le_refl _) (show (ts.getD i tk0).cost < (ts.getD i tk0).deadline + 1 by omega) e1 e2
  rw [show costS ⟨mn, mx, sw, ts, ls, hs⟩ i = srS (fun n => accB ⟨mn, mx, sw, tkPut ts i n, ls, hs⟩) (ts.getD i tk0).cost ((ts.getD i tk0).deadline + 1) from rfl]
  exact ⟨⟨by omega, by omega⟩, b1, b2⟩
theorem budget_edge {mn mx sw : Int} {ts : List Tk} {ls : List Ln} {hs : List Th} {i : Nat} (h : oyY ⟨mn, mx, sw, ts, ls, hs⟩ = 0) (hi : i < hs.length) :
    (0 ≤ budgetS ⟨mn, mx, sw, ts, ls, hs⟩ i ∧ budgetS ⟨mn, mx, sw, ts, ls, hs⟩ i ≤ 4398046511104) ∧ accB ⟨mn, mx, sw, ts, ls, thPut hs i (budgetS ⟨mn, mx, sw, ts, ls, hs⟩ i)⟩ = true ∧ accB ⟨mn, mx, sw, ts, ls, thPut hs i (budgetS ⟨mn, mx, sw, ts, ls, hs⟩ i + 1)⟩ = false := by
  obtain ⟨h1, h2⟩ := oyY_zero h
  have hx : ThIn (hs.getD i ⟨0, 0, 0, 0⟩) := (cfIn_of h1).hs _ (getD_mem (d := ⟨0, 0, 0, 0⟩) hi)
  have a1 := hx.budget; have a2 := hx.period
  have e1 : accB ⟨mn, mx, sw, ts, ls, thPut hs i (hs.getD i ⟨0, 0, 0, 0⟩).budget⟩ = true := by rw [thPut_self hi]; exact h2
  have e2 : accB ⟨mn, mx, sw, ts, ls, thPut hs i ((hs.getD i ⟨0, 0, 0, 0⟩).period + 1)⟩ = false := acc_bad fun hw => by
    have hi2 : i < (thPut hs i ((hs.getD i ⟨0, 0, 0, 0⟩).period + 1)).length := by rw [thPut_len]; exact hi
    have hy : ThIn ((thPut hs i ((hs.getD i ⟨0, 0, 0, 0⟩).period + 1)).getD i ⟨0, 0, 0, 0⟩) := (cfIn_of hw).hs _ (getD_mem (d := ⟨0, 0, 0, 0⟩) hi2)
    have := hy.budget
    unfold thPut at this
    rw [getD_set_at hi] at this
    dsimp only at this
    omega
  obtain ⟨b1, b2, b3, b4⟩ := srS_edge (P := fun n => accB ⟨mn, mx, sw, ts, ls, thPut hs i n⟩) _ (Nat.le_refl _) (show (hs.getD i ⟨0, 0, 0, 0⟩).budget < (hs.getD i ⟨0, 0, 0, 0⟩).period + 1 by omega) e1 e2
  rw [show budgetS ⟨mn, mx, sw, ts, ls, hs⟩ i = srS (fun n => accB ⟨mn, mx, sw, ts, ls, thPut hs i n⟩) (hs.getD i ⟨0, 0, 0, 0⟩).budget ((hs.getD i ⟨0, 0, 0, 0⟩).period + 1) from rfl]
  exact ⟨⟨by omega, by omega⟩, b1, b2⟩
theorem switch_edge {mn mx sw : Int} {ts : List Tk} {ls : List Ln} {hs : List Th} (h : oyY ⟨mn, mx, sw, ts, ls, hs⟩ = 0) :
    (0 ≤ switchS ⟨mn, mx, sw, ts, ls, hs⟩ ∧ switchS ⟨mn, mx, sw, ts, ls, hs⟩ ≤ 4398046511104) ∧ accB ⟨mn, mx, switchS ⟨mn, mx, sw, ts, ls, hs⟩, ts, ls, hs⟩ = true ∧ accB ⟨mn, mx, switchS ⟨mn, mx, sw, ts, ls, hs⟩ + 1, ts, ls, hs⟩ = false := by
  obtain ⟨h1, h2⟩ := oyY_zero h
  have c := cfIn_of h1
  have a1 := c.nt; have a2 := c.sw
  dsimp only at a1 a2
  have hl := leastD_in c.ts (show 0 < ts.length by omega) ts.length (Nat.le_refl _)
  dsimp only at hl
  have e2 : accB ⟨mn, mx, leastD ts ts.length, ts, ls, hs⟩ = false := acc_bad fun hw => by
    have hts := (cfIn_of hw).ts
    dsimp only at hts
    have bad : ∀ j, j < ts.length → leastD ts ts.length = (ts.getD j tk0).deadline → False := fun j hj e => by
      have hy := hts _ (getD_mem (d := tk0) hj)
      have := hy.late; have := hy.cost
      omega
    rcases leastD_at ts ts.length with e | ⟨j, hj, e⟩
    · exact bad 0 (by omega) e
    · exact bad j hj e
  obtain ⟨b1, b2, b3, b4⟩ := srS_edge (P := fun n => accB ⟨mn, mx, n, ts, ls, hs⟩) _ (Nat.le_refl _) hl.1 h2 e2
  rw [show switchS ⟨mn, mx, sw, ts, ls, hs⟩ = srS (fun n => accB ⟨mn, mx, n, ts, ls, hs⟩) sw (leastD ts ts.length) from rfl]
  exact ⟨⟨by omega, by omega⟩, b1, b2⟩
end Go.Proofs.Ytlnjeelbfokdpaa

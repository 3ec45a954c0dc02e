/- Package rta: the walks of Blocking, Base, Lag, Loads, Bound. Conditions: lists that read. -/
import Derived.Test.YtpdanmdpaanafaaRtJP
import Derived.Test.YtpdanmdpaanafaaRtQP
namespace Go.Proofs.Ytpdanmdpaanafaa
open Go.RowKit

theorem askY_zero {why : Int} {ts : List Tk} {n : Int} (h : askY why ts n = 0) : why = 0 ∧ n.toNat < ts.length ∧ n = (n.toNat : Int) := by
  unfold askY at h
  split at h
  · rename_i h1; exact absurd h h1
  · rename_i h1
    split at h
    · cases h
    · rename_i h2
      refine ⟨by simpa using h1, by omega, by omega⟩
/-- What Bound hands back of a task that may be asked for. -/
def boundR (mn sw : Int) (ts : List Tk) (ls : List Ln) (hs : List Th) (x : Tk) : Int × Int :=
  if x.deadline < lagT mn x then (0, 11) else
  if (stepsY (baseN sw ts x) (loadsL mn sw ts ls hs x.prio) (x.deadline - lagT mn x)).2 = 0 then (wrap64 ((stepsY (baseN sw ts x) (loadsL mn sw ts ls hs x.prio) (x.deadline - lagT mn x)).1 + lagT mn x), 0)
  else (0, (stepsY (baseN sw ts x) (loadsL mn sw ts ls hs x.prio) (x.deadline - lagT mn x)).2)
set_option maxHeartbeats 4000000 in
theorem rblocking_any (mn mx sw : Int) (ts : List Tk) (ls : List Ln) (hs : List Th) (A : Option Addr) (ca : Nat) (B : Option Addr) (cb : Nat) (D : Option Addr) (cd : Nat) (n : Int) (w : World)
    (hlt0 : ts.length ≤ 1048576) (hll : ls.length ≤ 1048576) (hlh : hs.length ≤ 1048576)
    (ht : Rd w A (ts.flatMap tkc)) (hl : Rd w B (ls.flatMap lnc)) (hh : Rd w D (hs.flatMap thc)) (hmx : I64 mx) (ht64 : ∀ p ∈ ts.map (·.prio) ++ hs.map (·.prio), I64 p) :
    Calls Try.prog 54 #[cfv mn mx sw A ts.length ca B ls.length cb D hs.length cd, .int .i64 n] w
      (RetN (if askY (Cf.why ⟨mn, mx, sw, ts, ls, hs⟩) ts n = 0 then blockN ts (ts.getD n.toNat tk0).prio ts.length else 0) (askY (Cf.why ⟨mn, mx, sw, ts, ls, hs⟩) ts n) w) := by
  have Ht := Lib.hid ht; have Hl := Lib.hid hl; have Hh := Lib.hid hh
  have f1 := Lib.hid (fun w ht hl hh => open_any mn mx sw ts ls hs A ca B cb D cd n w hlt0 hll hlh ht hl hh hmx ht64)
  have HIn : Hid (askY (Cf.why ⟨mn, mx, sw, ts, ls, hs⟩) ts n = 0 → (1 ≤ mn ∧ mn ≤ 2147483648) ∧ (0 ≤ sw ∧ sw ≤ 1099511627776) ∧ (∀ t ∈ ts, TkIn t sw) ∧ (∀ x ∈ ls, LnIn x) ∧ (∀ x ∈ hs, ThIn x) ∧ TkIn (ts.getD n.toNat tk0) sw) := Lib.hid (fun h => by
    obtain ⟨h1, h2, _⟩ := askY_zero h
    have c := cfIn_of h1
    have h3 := c.mn; have h4 := c.mx; have h5 := c.mm
    dsimp only at h3 h4 h5
    exact ⟨⟨h3, by omega⟩, c.sw, c.ts, c.ls, c.hs, c.ts _ (getD_mem h2)⟩)
  clear ht hl hh hmx ht64
  unfold cfv at *
  generalize askY (Cf.why ⟨mn, mx, sw, ts, ls, hs⟩) ts n = Y at *
  generalize ts.getD n.toNat tk0 = x at *
  generalize hN : (if Y = 0 then blockN ts x.prio ts.length else 0) = N
  have HN := Lib.hid hN
  clear hN
  go_enter Try.func54, Try.ntmps54
  go_wp2_with fail
  refine (f1.out _ (Ht.out.alloc _) (Hl.out.alloc _) (Hh.out.alloc _)).mono ?_
  rintro e w2 ⟨v, rfl, hv1, hv2, hb⟩
  have HB := Lib.hid (((Below.refl w.heap.size w).alloc (Nat.le_refl _) _).trans (hb.mono (by simp)))
  have HV1 := Lib.hid hv1; have HV2 := Lib.hid hv2
  clear hb f1 hv1 hv2
  by_cases hY : Y = 0
  · obtain ⟨b, rfl, hc⟩ := HV2.out hY
    obtain ⟨hmn, hsw, hts, hls, hhs, hx⟩ := HIn.out hY
    have HNN : Hid (N = blockN ts x.prio ts.length) := Lib.hid (by rw [← HN.out, if_pos hY])
    clear HV1 HV2 HN HIn
    subst hY
    have HF := Lib.hid (blocking_any mn mx sw ts A ca B ls.length cb D hs.length cd x b hlt0 hts w2 (Ht.out.below HB.out) hc)
    clear hc
    clear hmn hsw hts hls hhs hx
    go_wp2_with fail
    refine HF.out.mono ?_
    rintro e w3 ⟨rfl, hb⟩
    have HB3 := Lib.hid (HB.out.trans (hb.mono HB.out.size))
    clear hb HF
    go_wp2
    refine bodyPost_ret (v := .tuple #[.int .i64 (blockN ts x.prio ts.length), .int .i64 0]) (by simp [results, Try.f54, go_sem]) rfl ?_
    exact ⟨by rw [HNN.out], HB3.out⟩
  · obtain rfl := HV1.out hY
    have HNN : Hid (N = 0) := Lib.hid (by rw [← HN.out, if_neg hY])
    have hY1 : (Y != 0) = true := by simpa using hY
    clear HV1 HV2 HN HIn hY
    go_wp2
    refine bodyPost_ret (v := .tuple #[.int .i64 0, .int .i64 Y]) (by simp [results, Try.f54, go_sem]) rfl ?_
    exact ⟨by rw [HNN.out], HB.out⟩
set_option maxHeartbeats 4000000 in
theorem rbase_any (mn mx sw : Int) (ts : List Tk) (ls : List Ln) (hs : List Th) (A : Option Addr) (ca : Nat) (B : Option Addr) (cb : Nat) (D : Option Addr) (cd : Nat) (n : Int) (w : World)
    (hlt0 : ts.length ≤ 1048576) (hll : ls.length ≤ 1048576) (hlh : hs.length ≤ 1048576)
    (ht : Rd w A (ts.flatMap tkc)) (hl : Rd w B (ls.flatMap lnc)) (hh : Rd w D (hs.flatMap thc)) (hmx : I64 mx) (ht64 : ∀ p ∈ ts.map (·.prio) ++ hs.map (·.prio), I64 p) :
    Calls Try.prog 27 #[cfv mn mx sw A ts.length ca B ls.length cb D hs.length cd, .int .i64 n] w
      (RetN (if askY (Cf.why ⟨mn, mx, sw, ts, ls, hs⟩) ts n = 0 then baseN sw ts (ts.getD n.toNat tk0) else 0) (askY (Cf.why ⟨mn, mx, sw, ts, ls, hs⟩) ts n) w) := by
  have Ht := Lib.hid ht; have Hl := Lib.hid hl; have Hh := Lib.hid hh
  have f1 := Lib.hid (fun w ht hl hh => open_any mn mx sw ts ls hs A ca B cb D cd n w hlt0 hll hlh ht hl hh hmx ht64)
  have HIn : Hid (askY (Cf.why ⟨mn, mx, sw, ts, ls, hs⟩) ts n = 0 → (1 ≤ mn ∧ mn ≤ 2147483648) ∧ (0 ≤ sw ∧ sw ≤ 1099511627776) ∧ (∀ t ∈ ts, TkIn t sw) ∧ (∀ x ∈ ls, LnIn x) ∧ (∀ x ∈ hs, ThIn x) ∧ TkIn (ts.getD n.toNat tk0) sw) := Lib.hid (fun h => by
    obtain ⟨h1, h2, _⟩ := askY_zero h
    have c := cfIn_of h1
    have h3 := c.mn; have h4 := c.mx; have h5 := c.mm
    dsimp only at h3 h4 h5
    exact ⟨⟨h3, by omega⟩, c.sw, c.ts, c.ls, c.hs, c.ts _ (getD_mem h2)⟩)
  clear ht hl hh hmx ht64
  unfold cfv at *
  generalize askY (Cf.why ⟨mn, mx, sw, ts, ls, hs⟩) ts n = Y at *
  generalize ts.getD n.toNat tk0 = x at *
  generalize hN : (if Y = 0 then baseN sw ts x else 0) = N
  have HN := Lib.hid hN
  clear hN
  go_enter Try.func27, Try.ntmps27
  go_wp2_with fail
  refine (f1.out _ (Ht.out.alloc _) (Hl.out.alloc _) (Hh.out.alloc _)).mono ?_
  rintro e w2 ⟨v, rfl, hv1, hv2, hb⟩
  have HB := Lib.hid (((Below.refl w.heap.size w).alloc (Nat.le_refl _) _).trans (hb.mono (by simp)))
  have HV1 := Lib.hid hv1; have HV2 := Lib.hid hv2
  clear hb f1 hv1 hv2
  by_cases hY : Y = 0
  · obtain ⟨b, rfl, hc⟩ := HV2.out hY
    obtain ⟨hmn, hsw, hts, hls, hhs, hx⟩ := HIn.out hY
    have HNN : Hid (N = baseN sw ts x) := Lib.hid (by rw [← HN.out, if_pos hY])
    clear HV1 HV2 HN HIn
    subst hY
    have HF := Lib.hid (base_any mn mx sw ts A ca B ls.length cb D hs.length cd x b hlt0 hts hsw hx w2 (Ht.out.below HB.out) hc)
    clear hc
    clear hmn hsw hts hls hhs hx
    go_wp2_with fail
    refine HF.out.mono ?_
    rintro e w3 ⟨rfl, hb⟩
    have HB3 := Lib.hid (HB.out.trans (hb.mono HB.out.size))
    clear hb HF
    go_wp2
    refine bodyPost_ret (v := .tuple #[.int .i64 (baseN sw ts x), .int .i64 0]) (by simp [results, Try.f27, go_sem]) rfl ?_
    exact ⟨by rw [HNN.out], HB3.out⟩
  · obtain rfl := HV1.out hY
    have HNN : Hid (N = 0) := Lib.hid (by rw [← HN.out, if_neg hY])
    have hY1 : (Y != 0) = true := by simpa using hY
    clear HV1 HV2 HN HIn hY
    go_wp2
    refine bodyPost_ret (v := .tuple #[.int .i64 0, .int .i64 Y]) (by simp [results, Try.f27, go_sem]) rfl ?_
    exact ⟨by rw [HNN.out], HB.out⟩
set_option maxHeartbeats 4000000 in
theorem rlag_any (mn mx sw : Int) (ts : List Tk) (ls : List Ln) (hs : List Th) (A : Option Addr) (ca : Nat) (B : Option Addr) (cb : Nat) (D : Option Addr) (cd : Nat) (n : Int) (w : World)
    (hlt0 : ts.length ≤ 1048576) (hll : ls.length ≤ 1048576) (hlh : hs.length ≤ 1048576)
    (ht : Rd w A (ts.flatMap tkc)) (hl : Rd w B (ls.flatMap lnc)) (hh : Rd w D (hs.flatMap thc)) (hmx : I64 mx) (ht64 : ∀ p ∈ ts.map (·.prio) ++ hs.map (·.prio), I64 p) :
    Calls Try.prog 28 #[cfv mn mx sw A ts.length ca B ls.length cb D hs.length cd, .int .i64 n] w
      (RetN (if (askY (Cf.why ⟨mn, mx, sw, ts, ls, hs⟩) ts n) = 0 then lagT mn (ts.getD n.toNat tk0) else 0) (askY (Cf.why ⟨mn, mx, sw, ts, ls, hs⟩) ts n) w) := by
  have Ht := Lib.hid ht; have Hl := Lib.hid hl; have Hh := Lib.hid hh
  have f1 := Lib.hid (fun w ht hl hh => open_any mn mx sw ts ls hs A ca B cb D cd n w hlt0 hll hlh ht hl hh hmx ht64)
  have HIn : Hid (askY (Cf.why ⟨mn, mx, sw, ts, ls, hs⟩) ts n = 0 → (1 ≤ mn ∧ mn ≤ 2147483648) ∧ (0 ≤ sw ∧ sw ≤ 1099511627776) ∧ (∀ t ∈ ts, TkIn t sw) ∧ (∀ x ∈ ls, LnIn x) ∧ (∀ x ∈ hs, ThIn x) ∧ TkIn (ts.getD n.toNat tk0) sw) := Lib.hid (fun h => by
    obtain ⟨h1, h2, _⟩ := askY_zero h
    have c := cfIn_of h1
    have h3 := c.mn; have h4 := c.mx; have h5 := c.mm
    dsimp only at h3 h4 h5
    exact ⟨⟨h3, by omega⟩, c.sw, c.ts, c.ls, c.hs, c.ts _ (getD_mem h2)⟩)
  clear ht hl hh hmx ht64
  unfold cfv at *
  generalize askY (Cf.why ⟨mn, mx, sw, ts, ls, hs⟩) ts n = Y at *
  generalize ts.getD n.toNat tk0 = x at *
  generalize hN : (if Y = 0 then lagT mn x else 0) = N
  have HN := Lib.hid hN
  clear hN
  go_enter Try.func28, Try.ntmps28
  go_wp2_with fail
  refine (f1.out _ (Ht.out.alloc _) (Hl.out.alloc _) (Hh.out.alloc _)).mono ?_
  rintro e w2 ⟨v, rfl, hv1, hv2, hb⟩
  have HB := Lib.hid (((Below.refl w.heap.size w).alloc (Nat.le_refl _) _).trans (hb.mono (by simp)))
  have HV1 := Lib.hid hv1; have HV2 := Lib.hid hv2
  clear hb f1 hv1 hv2
  by_cases hY : Y = 0
  · obtain ⟨b, rfl, hc⟩ := HV2.out hY
    have HNN : Hid (N = lagT mn x) := Lib.hid (by rw [← HN.out, if_pos hY])
    clear HV1 HV2 HN HIn
    subst hY
    have HF := Lib.hid (lag_any mn mx sw A ts.length ca B ls.length cb D hs.length cd x x b w2 hc)
    have HC := Lib.hid hc
    clear hc
    unfold shc at HC
    unfold tkv at HF
    obtain ⟨cx, cy⟩ := box_rules HC.out
    generalize lagT mn x = L at *
    go_wp2_with fail
    refine HF.out.mono ?_
    rintro e w3 ⟨rfl, hb⟩
    have HB3 := Lib.hid (HB.out.trans (hb.mono HB.out.size))
    clear hb HF cx cy
    go_wp2
    refine bodyPost_ret (v := .tuple #[.int .i64 L, .int .i64 0]) (by simp [results, Try.f28, go_sem]) rfl ?_
    exact ⟨by rw [HNN.out], HB3.out⟩
  · obtain rfl := HV1.out hY
    have HNN : Hid (N = 0) := Lib.hid (by rw [← HN.out, if_neg hY])
    have hY1 : (Y != 0) = true := by simpa using hY
    clear HV1 HV2 HN HIn hY
    go_wp2
    refine bodyPost_ret (v := .tuple #[.int .i64 0, .int .i64 Y]) (by simp [results, Try.f28, go_sem]) rfl ?_
    exact ⟨by rw [HNN.out], HB.out⟩
/-- A list of loads, and an error. -/
def RetLY (l : List Ld) (y : Int) (w : World) (e : Ending) (w' : World) : Prop :=
  ∃ A c, e = .returned (.tuple #[.slice A l.length c, .int .i64 y]) ∧ Rd w' A (l.flatMap ldc) ∧ Below w.heap.size w w'
set_option maxHeartbeats 4000000 in
theorem rloads_any (mn mx sw : Int) (ts : List Tk) (ls : List Ln) (hs : List Th) (A : Option Addr) (ca : Nat) (B : Option Addr) (cb : Nat) (D : Option Addr) (cd : Nat) (n : Int) (w : World)
    (hlt0 : ts.length ≤ 1048576) (hll : ls.length ≤ 1048576) (hlh : hs.length ≤ 1048576)
    (ht : Rd w A (ts.flatMap tkc)) (hl : Rd w B (ls.flatMap lnc)) (hh : Rd w D (hs.flatMap thc)) (hmx : I64 mx) (ht64 : ∀ p ∈ ts.map (·.prio) ++ hs.map (·.prio), I64 p) :
    Calls Try.prog 29 #[cfv mn mx sw A ts.length ca B ls.length cb D hs.length cd, .int .i64 n] w
      (RetLY (if (askY (Cf.why ⟨mn, mx, sw, ts, ls, hs⟩) ts n) = 0 then loadsL mn sw ts ls hs (ts.getD n.toNat tk0).prio else []) (askY (Cf.why ⟨mn, mx, sw, ts, ls, hs⟩) ts n) w) := by
  have Ht := Lib.hid ht; have Hl := Lib.hid hl; have Hh := Lib.hid hh
  have f1 := Lib.hid (fun w ht hl hh => open_any mn mx sw ts ls hs A ca B cb D cd n w hlt0 hll hlh ht hl hh hmx ht64)
  have HIn : Hid (askY (Cf.why ⟨mn, mx, sw, ts, ls, hs⟩) ts n = 0 → (1 ≤ mn ∧ mn ≤ 2147483648) ∧ (0 ≤ sw ∧ sw ≤ 1099511627776) ∧ (∀ t ∈ ts, TkIn t sw) ∧ (∀ x ∈ ls, LnIn x) ∧ (∀ x ∈ hs, ThIn x) ∧ TkIn (ts.getD n.toNat tk0) sw) := Lib.hid (fun h => by
    obtain ⟨h1, h2, _⟩ := askY_zero h
    have c := cfIn_of h1
    have h3 := c.mn; have h4 := c.mx; have h5 := c.mm
    dsimp only at h3 h4 h5
    exact ⟨⟨h3, by omega⟩, c.sw, c.ts, c.ls, c.hs, c.ts _ (getD_mem h2)⟩)
  clear ht hl hh hmx ht64
  unfold cfv at *
  generalize askY (Cf.why ⟨mn, mx, sw, ts, ls, hs⟩) ts n = Y at *
  generalize ts.getD n.toNat tk0 = x at *
  generalize hN : (if Y = 0 then loadsL mn sw ts ls hs x.prio else []) = N
  have HN := Lib.hid hN
  clear hN
  go_enter Try.func29, Try.ntmps29
  go_wp2_with fail
  refine (f1.out _ (Ht.out.alloc _) (Hl.out.alloc _) (Hh.out.alloc _)).mono ?_
  rintro e w2 ⟨v, rfl, hv1, hv2, hb⟩
  have HB := Lib.hid (((Below.refl w.heap.size w).alloc (Nat.le_refl _) _).trans (hb.mono (by simp)))
  have HV1 := Lib.hid hv1; have HV2 := Lib.hid hv2
  clear hb f1 hv1 hv2
  by_cases hY : Y = 0
  · obtain ⟨b, rfl, hc⟩ := HV2.out hY
    obtain ⟨hmn, hsw, hts, hls, hhs, hx⟩ := HIn.out hY
    have HNN : Hid (N = loadsL mn sw ts ls hs x.prio) := Lib.hid (by rw [← HN.out, if_pos hY])
    clear HV1 HV2 HN HIn
    subst hY
    have HF := Lib.hid (loads_any mn mx sw ts A ca B ls cb D hs cd x b hlt0 hts hsw hmn hlh hll hhs hls w2 (Ht.out.below HB.out) (Hl.out.below HB.out) (Hh.out.below HB.out) hc)
    clear hmn hsw hts hls hhs hx hc
    generalize loadsL mn sw ts ls hs x.prio = L at *
    go_wp2_with fail
    refine HF.out.mono ?_
    rintro e w3 ⟨A5, c5, rfl, hr, hb⟩
    have HB3 := Lib.hid (HB.out.trans (hb.mono HB.out.size))
    have HR3 := Lib.hid hr
    clear hb HF hr
    go_wp2
    refine bodyPost_ret (v := .tuple #[.slice A5 L.length c5, .int .i64 0]) (by simp [results, Try.f29, go_sem]) rfl ?_
    exact ⟨A5, c5, by rw [HNN.out], by rw [HNN.out]; exact HR3.out, HB3.out⟩
  · obtain rfl := HV1.out hY
    have HNN : Hid (N = []) := Lib.hid (by rw [← HN.out, if_neg hY])
    have hY1 : (Y != 0) = true := by simpa using hY
    clear HV1 HV2 HN HIn hY
    go_wp2
    refine bodyPost_ret (v := .tuple #[.slice none 0 0, .int .i64 Y]) (by simp [results, Try.f29, go_sem]) rfl ?_
    exact ⟨none, 0, by rw [HNN.out]; rfl, by rw [HNN.out]; exact Rd.nil _ _, HB.out⟩
end Go.Proofs.Ytpdanmdpaanafaa

/- Packages hyper and vergeref35: the walks of Nth and Jobs. Conditions: lists that read. -/
import Derived.Test.YtpdanmdpaanafaaDoorHypF
namespace Go.Proofs.YtpdanmdpaanafaaDoor
open Go.RowKit Go.Shelf

theorem firstOf_zero : ∀ {l : List Fl}, (firstOf l).1.why = 0 → ∀ f ∈ l, f.why = 0
  | [], _, _, hf => by cases hf
  | g :: l, h, f, hf => by
    by_cases hg : g.why = 0
    · rw [firstOf_cons, if_neg (by simp [hg])] at h
      rcases List.mem_cons.1 hf with rfl | hf
      · exact hg
      · exact firstOf_zero h f hf
    · rw [firstOf_hit hg] at h
      exact absurd h hg
theorem numb_mem {p : Int} : ∀ {l : List Int} {i : Nat} {y : Int}, y ∈ l → ∃ f ∈ numb p i l, f.why = y
  | z :: l, i, y, h => by
    rcases List.mem_cons.1 h with rfl | h
    · exact ⟨⟨p, i, y⟩, by simp [numb], rfl⟩
    · obtain ⟨f, hf, e⟩ := numb_mem (p := p) (i := i + 1) h
      exact ⟨f, by simp [numb, hf], e⟩
theorem why_tasks {c : Cf} (h : c.why = 0) : ∀ t ∈ c.ts, tkWhy t c.sw = 0 := by
  intro t ht
  obtain ⟨f, hf, e⟩ := numb_mem (p := 4) (i := 0) (l := c.ts.map fun t => tkWhy t c.sw) (y := tkWhy t c.sw) (List.mem_map.2 ⟨t, ht, rfl⟩)
  rw [← e]
  exact firstOf_zero h f (by unfold Cf.looks; simp [hf])
theorem tk_in {t : Tk} {ch : Int} (h : tkWhy t ch = 0) : (0 ≤ t.offset ∧ t.offset ≤ 1099511627776) ∧ (1 ≤ t.period ∧ t.period ≤ 1099511627776) := by
  unfold tkWhy at h
  split at h
  · cases h
  split at h
  · cases h
  split at h
  · cases h
  rename_i _ _ h3
  have a : ¬ inB t.period 1 1099511627776 = false := fun x => h3 (.inl x)
  have b : ¬ inB t.offset 0 1099511627776 = false := fun x => h3 (.inr (.inl x))
  rw [Bool.not_eq_false] at a b
  exact ⟨inB_true.1 b, inB_true.1 a⟩
theorem open_zero {y : Int} {ts : List Tk} {n : Int} {times : List Int} (h : openY y ts n times = 0) : y = 0 ∧ (0 ≤ n ∧ n < ts.length) ∧ times.all tmOk = true := by
  unfold openY at h
  split at h
  · exact absurd h (by assumption)
  split at h
  · cases h
  split at h
  · cases h
  rename_i h1 h2 h3
  rw [Bool.not_eq_false] at h3
  exact ⟨by omega, by omega, h3⟩
theorem open_in {c : Cf} {n : Int} {times : List Int} (h : openY c.why c.ts n times = 0) :
    (0 ≤ (c.ts.getD n.toNat tk0).offset ∧ (c.ts.getD n.toNat tk0).offset ≤ 1099511627776) ∧ (1 ≤ (c.ts.getD n.toNat tk0).period ∧ (c.ts.getD n.toNat tk0).period ≤ 1099511627776) := by
  obtain ⟨h1, h2, _⟩ := open_zero h
  have hm : n.toNat < c.ts.length := by omega
  have e : c.ts.getD n.toNat tk0 = c.ts[n.toNat] := by simp [List.getD, hm]
  rw [e]
  exact tk_in (why_tasks h1 _ (List.getElem_mem hm))

/-- A task's time, or none. -/
def nthOf (c : Cf) (n k : Int) : Int × Int :=
  if openY c.why c.ts n [k] ≠ 0 then (0, openY c.why c.ts n [k])
  else if (4503599627370496 - (c.ts.getD n.toNat tk0).offset) / (c.ts.getD n.toNat tk0).period < k then (0, 10)
  else ((c.ts.getD n.toNat tk0).offset + k * (c.ts.getD n.toNat tk0).period, 0)
/-- How many times a task has, or none. -/
def jobsOf (c : Cf) (n a b : Int) : Int × Int :=
  if openY c.why c.ts n [a, b] ≠ 0 then (0, openY c.why c.ts n [a, b])
  else (max (aheadOf (c.ts.getD n.toNat tk0).offset (c.ts.getD n.toNat tk0).period b - aheadOf (c.ts.getD n.toNat tk0).offset (c.ts.getD n.toNat tk0).period a) 0, 0)
theorem nth_in {off per k : Int} (ho : 0 ≤ off ∧ off ≤ 1099511627776) (hp : 1 ≤ per ∧ per ≤ 1099511627776) (hk : 0 ≤ k) (h : ¬ (4503599627370496 - off) / per < k) : 0 ≤ k * per ∧ k * per ≤ 4503599627370496 - off := by
  refine ⟨Int.mul_nonneg hk (by omega), ?_⟩
  have h1 : k * per ≤ (4503599627370496 - off) / per * per := Int.mul_le_mul_of_nonneg_right (by omega) (by omega)
  have h2 := Int.ediv_mul_le (4503599627370496 - off) (b := per) (by omega)
  omega
theorem openY_zero_time (y : Int) (ts : List Tk) (n k : Int) : openY y ts n [k, 0] = openY y ts n [k] := by
  unfold openY
  have : [k, 0].all tmOk = [k].all tmOk := by simp [tmOk]
  rw [this]

set_option maxHeartbeats 2000000 in
theorem nth_cfg (mn mx sw : Int) (ts : List Tk) (ls : List Ln) (hs : List Th) (A : Option Addr) (ca : Nat) (B : Option Addr) (cb : Nat) (D : Option Addr) (cd : Nat) (n k : Int) (w : World)
    (hlt0 : ts.length ≤ 1048576) (hll : ls.length ≤ 1048576) (hlh : hs.length ≤ 1048576)
    (ht : Rd w A (ts.flatMap tkc)) (hl : Rd w B (ls.flatMap lnc)) (hh : Rd w D (hs.flatMap thc)) (hmx : I64 mx) (ht64 : ∀ p ∈ ts.map (·.prio) ++ hs.map (·.prio), I64 p) :
    Calls Tryd.prog 14 #[cfv mn mx sw A ts.length ca B ls.length cb D hs.length cd, .int .i64 n, .int .i64 k] w (RetB (nthOf ⟨mn, mx, sw, ts, ls, hs⟩ n k) w) := by
  have Ht := Lib.hid ht; have Hl := Lib.hid hl; have Hh := Lib.hid hh
  have f1 : Hid (∀ w T tc, Rd w A (ts.flatMap tkc) → Rd w B (ls.flatMap lnc) → Rd w D (hs.flatMap thc) → Rd w T [.int .i64 k] → Calls Tryd.prog 24 #[cfv mn mx sw A ts.length ca B ls.length cb D hs.length cd, .int .i64 n, .slice T 1 tc] w
      (RetO (openY (Cf.why ⟨mn, mx, sw, ts, ls, hs⟩) ts n [k]) (ts.getD n.toNat tk0) w)) := Lib.hid (fun w T tc ht hl hh hr => open_cfg mn mx sw ts ls hs A ca B cb D cd n [k] T tc w hlt0 hll hlh (by simp) ht hl hh hmx ht64 hr)
  have HI := Lib.hid (open_in (c := ⟨mn, mx, sw, ts, ls, hs⟩) (n := n) (times := [k]))
  have HK := Lib.hid (open_zero (y := Cf.why ⟨mn, mx, sw, ts, ls, hs⟩) (ts := ts) (n := n) (times := [k]))
  have HN : Hid (nthOf ⟨mn, mx, sw, ts, ls, hs⟩ n k = if openY (Cf.why ⟨mn, mx, sw, ts, ls, hs⟩) ts n [k] ≠ 0 then (0, openY (Cf.why ⟨mn, mx, sw, ts, ls, hs⟩) ts n [k])
    else if (4503599627370496 - (ts.getD n.toNat tk0).offset) / (ts.getD n.toNat tk0).period < k then (0, 10)
    else ((ts.getD n.toNat tk0).offset + k * (ts.getD n.toNat tk0).period, 0)) := Lib.hid rfl
  clear ht hl hh hmx ht64
  dsimp only at HI
  generalize nthOf ⟨mn, mx, sw, ts, ls, hs⟩ n k = R at *
  generalize openY (Cf.why ⟨mn, mx, sw, ts, ls, hs⟩) ts n [k] = Y at *
  generalize ts.getD n.toNat tk0 = x at *
  unfold cfv RetO at *
  go_enter Tryd.func14, Tryd.ntmps14
  go_wp2_with fail
  refine (f1.out _ _ _ ((Ht.out.alloc _).alloc _) ((Hl.out.alloc _).alloc _) ((Hh.out.alloc _).alloc _) ?_).mono ?_
  · intro j u hu
    exact ⟨_, rfl, by rw [add_zero_lit, Nat.zero_add]; exact new_cell2 hu⟩
  rintro e w2 ⟨he, hb⟩
  have HB := Lib.hid ((((Below.refl w.heap.size w).alloc (Nat.le_refl _) _).alloc (by simp) _).trans (hb.mono (by simp; omega)))
  have s2 := HB.out.size
  clear hb f1
  by_cases hY : Y = 0
  · subst hY
    obtain ⟨⟨o1, o2⟩, p1, p2⟩ := HI.out rfl
    have hk0 : 0 ≤ k := by
      have h := (HK.out rfl).2.2
      simp only [List.all_cons, List.all_nil, Bool.and_true] at h
      exact (tmOk_true.1 h).1
    have HN2 : Hid (R = if (4503599627370496 - x.offset) / x.period < k then (0, 10) else (x.offset + k * x.period, 0)) := Lib.hid (by rw [HN.out, if_neg (by simp)])
    rw [if_pos rfl] at he
    clear HN HI HK
    obtain ⟨x0, x1, per, off, x4, x5, x6, x7, x8, x9⟩ := x
    unfold tkv at he
    dsimp only at he o1 o2 p1 p2 HN2
    subst he
    have HQ := Lib.hid (show 0 ≤ (4503599627370496 - off) / per ∧ (4503599627370496 - off) / per ≤ 4503599627370496 - off from ⟨Int.ediv_nonneg (by omega) (by omega), Int.ediv_le_self _ (by omega)⟩)
    have hq := HQ.out
    have HM := Lib.hid (nth_in (k := k) ⟨o1, o2⟩ ⟨p1, p2⟩ hk0)
    generalize hQ : (4503599627370496 - off) / per = Q at *
    have Hq := Lib.hid hQ; clear hQ HQ
    have W1 := Lib.hid (show wrap64 Q = Q from Go.IntWalk.wrap64_in _ (by omega))
    by_cases hov : Q < k
    · have HR := Lib.hid (show R = (0, 10) by rw [HN2.out, if_pos hov])
      go_wp2_with (rw [Hq.out, W1.out])
      all_goals first | (exfalso; rename_i hx; rw [Hq.out] at hx; omega; done) | (go_ret2; exact RetB.of HR.out (HB.out.alloc s2 _))
    · have hm := HM.out hov
      have HR := Lib.hid (show R = (off + k * per, 0) by rw [HN2.out, if_neg hov])
      have W2 := Lib.hid (show wrap64 (k * per) = k * per from Go.IntWalk.wrap64_in _ (by omega))
      have W3 := Lib.hid (show wrap64 (off + k * per) = off + k * per from Go.IntWalk.wrap64_in _ (by omega))
      go_wp2_with (first | rw [Hq.out, W1.out] | rw [W3.out] | rw [W2.out])
      all_goals first | (exfalso; rename_i hx; rw [Hq.out] at hx; omega; done) | (go_ret2; exact RetB.of HR.out (HB.out.alloc s2 _))
  · rw [if_neg hY] at he
    unfold zeroT at he
    subst he
    have hY1 : (Y != 0) = true := by simpa using hY
    have HR := Lib.hid (show R = (0, Y) by rw [HN.out, if_pos hY])
    clear HN HI HK
    go_wp2
    go_ret2
    exact RetB.of HR.out (HB.out.alloc s2 _)
set_option maxHeartbeats 2000000 in
theorem nth35_cfg (mn mx sw : Int) (ts : List Tk) (ls : List Ln) (hs : List Th) (A : Option Addr) (ca : Nat) (B : Option Addr) (cb : Nat) (D : Option Addr) (cd : Nat) (n k : Int) (w : World)
    (hlt0 : ts.length ≤ 1048576) (hll : ls.length ≤ 1048576) (hlh : hs.length ≤ 1048576)
    (ht : Rd w A (ts.flatMap tkc)) (hl : Rd w B (ls.flatMap lnc)) (hh : Rd w D (hs.flatMap thc)) (hmx : I64 mx) :
    Calls Tryd.prog 15 #[cfv mn mx sw A ts.length ca B ls.length cb D hs.length cd, .int .i64 n, .int .i64 k] w (RetB (nthOf ⟨mn, mx, sw, ts, ls, hs⟩ n k) w) := by
  have Ht := Lib.hid ht; have Hl := Lib.hid hl; have Hh := Lib.hid hh
  have f1 := Lib.hid (fun w ht hl hh => bad_cfg mn mx sw ts ls hs A ca B cb D cd n k 0 w hlt0 hll hlh ht hl hh hmx)
  rw [openY_zero_time] at f1
  have HI := Lib.hid (open_in (c := ⟨mn, mx, sw, ts, ls, hs⟩) (n := n) (times := [k]))
  have HK := Lib.hid (open_zero (y := Cf.why ⟨mn, mx, sw, ts, ls, hs⟩) (ts := ts) (n := n) (times := [k]))
  have HN : Hid (nthOf ⟨mn, mx, sw, ts, ls, hs⟩ n k = if openY (Cf.why ⟨mn, mx, sw, ts, ls, hs⟩) ts n [k] ≠ 0 then (0, openY (Cf.why ⟨mn, mx, sw, ts, ls, hs⟩) ts n [k])
    else if (4503599627370496 - (ts.getD n.toNat tk0).offset) / (ts.getD n.toNat tk0).period < k then (0, 10)
    else ((ts.getD n.toNat tk0).offset + k * (ts.getD n.toNat tk0).period, 0)) := Lib.hid rfl
  have hx0 := Lib.hid (show ∀ (h : openY (Cf.why ⟨mn, mx, sw, ts, ls, hs⟩) ts n [k] = 0), n.toNat < ts.length ∧ 0 ≤ n ∧ n < ts.length from fun h => by have := (open_zero h).2.1; omega)
  clear ht hl hh hmx
  dsimp only at HI
  generalize nthOf ⟨mn, mx, sw, ts, ls, hs⟩ n k = R at *
  generalize openY (Cf.why ⟨mn, mx, sw, ts, ls, hs⟩) ts n [k] = Y at *
  unfold cfv at *
  go_enter Tryd.func15, Tryd.ntmps15
  go_wp2_with fail
  refine (f1.out _ (Ht.out.alloc _) (Hl.out.alloc _) (Hh.out.alloc _)).mono ?_
  rintro e w2 ⟨rfl, hb⟩
  have HX := Lib.hid (box_keep (heap_alloc_new w (.cells #[.int .i64 mn, .int .i64 mx, .int .i64 sw, .slice A ts.length ca, .slice B ls.length cb, .slice D hs.length cd] 35)) hb)
  have HB := Lib.hid (((Below.refl w.heap.size w).alloc (Nat.le_refl _) _).trans (hb.mono (by simp)))
  have s2 := HB.out.size
  obtain ⟨hx, hy⟩ := box_rules HX.out
  clear hb f1
  by_cases hY : Y = 0
  · subst hY
    obtain ⟨⟨o1, o2⟩, p1, p2⟩ := HI.out rfl
    have hk0 : 0 ≤ k := by
      have h := (HK.out rfl).2.2
      simp only [List.all_cons, List.all_nil, Bool.and_true] at h
      exact (tmOk_true.1 h).1
    obtain ⟨hm0, hn0, hn1⟩ := hx0.out rfl
    obtain ⟨m, rfl⟩ := Int.eq_ofNat_of_zero_le hn0
    have HN2 : Hid (R = if (4503599627370496 - (ts.getD m tk0).offset) / (ts.getD m tk0).period < k then (0, 10) else ((ts.getD m tk0).offset + k * (ts.getD m tk0).period, 0)) := Lib.hid (by rw [HN.out, if_neg (by simp)]; rfl)
    have o1' : 0 ≤ (ts.getD m tk0).offset := o1
    have o2' : (ts.getD m tk0).offset ≤ 1099511627776 := o2
    have p1' : 1 ≤ (ts.getD m tk0).period := p1
    have p2' : (ts.getD m tk0).period ≤ 1099511627776 := p2
    clear HN HI HK hx0 o1 o2 p1 p2
    obtain ⟨a, x, rfl, hxx, ⟨g0, g1, g2, g3⟩, g4, g5, g6, g7, g8, g9⟩ := (Ht.out.below HB.out).tkAt (k := m) hm0
    rw [hxx] at HN2 o1' o2' p1' p2'
    clear hxx
    obtain ⟨x0, x1, per, off, x4, x5, x6, x7, x8, x9⟩ := x
    dsimp only at g0 g1 g2 g3 g4 g5 g6 g7 g8 g9 HN2 o1' o2' p1' p2'
    have hm1 : (m : Int) < ts.length := by omega
    have HQ := Lib.hid (show 0 ≤ (4503599627370496 - off) / per ∧ (4503599627370496 - off) / per ≤ 4503599627370496 - off from ⟨Int.ediv_nonneg (by omega) (by omega), Int.ediv_le_self _ (by omega)⟩)
    have hq := HQ.out
    have HM := Lib.hid (nth_in (k := k) ⟨o1', o2'⟩ ⟨p1', p2'⟩ hk0)
    generalize hQ : (4503599627370496 - off) / per = Q at *
    have Hq := Lib.hid hQ; clear hQ HQ
    have W1 := Lib.hid (show wrap64 Q = Q from Go.IntWalk.wrap64_in _ (by omega))
    by_cases hov : Q < k
    · have HR := Lib.hid (show R = (0, 10) by rw [HN2.out, if_pos hov])
      go_wp2_with (rw [Hq.out, W1.out])
      all_goals first | (exfalso; rename_i hx; rw [Hq.out] at hx; omega; done) | (go_ret2; exact RetB.of HR.out (HB.out.alloc s2 _))
    · have hm := HM.out hov
      have HR := Lib.hid (show R = (off + k * per, 0) by rw [HN2.out, if_neg hov])
      have W2 := Lib.hid (show wrap64 (k * per) = k * per from Go.IntWalk.wrap64_in _ (by omega))
      have W3 := Lib.hid (show wrap64 (off + k * per) = off + k * per from Go.IntWalk.wrap64_in _ (by omega))
      go_wp2_with (first | rw [Hq.out, W1.out] | rw [W3.out] | rw [W2.out])
      all_goals first | (exfalso; rename_i hx; rw [Hq.out] at hx; omega; done) | (go_ret2; exact RetB.of HR.out (HB.out.alloc s2 _))
  · have hY1 : (Y != 0) = true := by simpa using hY
    have HR := Lib.hid (show R = (0, Y) by rw [HN.out, if_pos hY])
    clear HN HI HK
    go_wp2
    go_ret2
    exact RetB.of HR.out HB.out
end Go.Proofs.YtpdanmdpaanafaaDoor

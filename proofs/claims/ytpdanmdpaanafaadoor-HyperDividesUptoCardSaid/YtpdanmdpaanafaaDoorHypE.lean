/- Packages hyper and vergeref35: the walks of open and bad. Conditions: lists that read. -/
import Derived.Test.YtpdanmdpaanafaaDoorHypD
namespace Go.Proofs.YtpdanmdpaanafaaDoor
open Go.RowKit Go.Shelf

/-- Why a task may not be asked for. -/
def openY (why : Int) (ts : List Tk) (n : Int) (times : List Int) : Int :=
  if why ≠ 0 then why else if n < 0 ∨ (ts.length : Int) ≤ n then 1 else if times.all tmOk = false then 1 else if (ts.getD n.toNat tk0).kind ≠ 1 then 7 else 0
theorem tm_all {l : List Int} (h : ∀ j, j < l.length → tmOk (l.getD j 0) = true) : l.all tmOk = true := by
  rw [List.all_eq_true]
  intro x hx
  obtain ⟨i, hi, rfl⟩ := List.getElem_of_mem hx
  simpa [List.getD, hi] using h i hi
theorem tm_no {l : List Int} {k : Nat} (hk : k < l.length) (h : tmOk (l.getD k 0) = false) : l.all tmOk = false := by
  rw [List.all_eq_false]
  refine ⟨_, List.getElem_mem hk, ?_⟩
  simp [List.getD, hk] at h
  simp [h]
def zeroT : Value := .agg #[.int .u8 0, .int .i64 0, .int .i64 0, .int .i64 0, .int .i64 0, .int .i64 0, .int .i64 0, .int .i64 0, .int .i64 0, .int .i64 0]
/-- A task, and why not. -/
def RetO (y : Int) (x : Tk) (w : World) (e : Ending) (w' : World) : Prop := e = .returned (.tuple #[if y = 0 then tkv x else zeroT, .int .i64 y]) ∧ Below w.heap.size w w'
set_option maxHeartbeats 4000000 in
set_option maxRecDepth 100000 in
theorem open_cfg (mn mx sw : Int) (ts : List Tk) (ls : List Ln) (hs : List Th) (A : Option Addr) (ca : Nat) (B : Option Addr) (cb : Nat) (D : Option Addr) (cd : Nat) (n : Int) (times : List Int) (T : Option Addr) (tc : Nat) (w : World)
    (hlt0 : ts.length ≤ 1048576) (hll : ls.length ≤ 1048576) (hlh : hs.length ≤ 1048576) (hlT : times.length ≤ 1048576)
    (ht : Rd w A (ts.flatMap tkc)) (hl : Rd w B (ls.flatMap lnc)) (hh : Rd w D (hs.flatMap thc)) (hmx : I64 mx) (ht64 : ∀ p ∈ ts.map (·.prio) ++ hs.map (·.prio), I64 p) (hr : Rd w T (times.map (.int .i64))) :
    Calls Tryd.prog 24 #[cfv mn mx sw A ts.length ca B ls.length cb D hs.length cd, .int .i64 n, .slice T times.length tc] w
      (RetO (openY (Cf.why ⟨mn, mx, sw, ts, ls, hs⟩) ts n times) (ts.getD n.toNat tk0) w) := by
  have Ht := Lib.hid ht; have Hl := Lib.hid hl; have Hh := Lib.hid hh; have Hr := Lib.hid hr
  have f1 := Lib.hid (fun w ht hl hh => check_cfg mn mx sw ts ls hs A ca B cb D cd w hlt0 hll hlh ht hl hh hmx ht64)
  clear ht hl hh hmx ht64 hr
  unfold cfv at *
  generalize Cf.why ⟨mn, mx, sw, ts, ls, hs⟩ = y at *
  have HO : Hid (openY y ts n times = if y ≠ 0 then y else if n < 0 ∨ (ts.length : Int) ≤ n then 1 else if times.all tmOk = false then 1 else if (ts.getD n.toNat tk0).kind ≠ 1 then 7 else 0) := Lib.hid rfl
  generalize openY y ts n times = Y at *
  go_enter Tryd.func24, Tryd.ntmps24
  go_wp2_with fail
  refine (f1.out _ ((Ht.out.alloc _).alloc _) ((Hl.out.alloc _).alloc _) ((Hh.out.alloc _).alloc _)).mono ?_
  rintro e w2 ⟨rfl, hb⟩
  have HX := Lib.hid (box_keep (box_alloc (heap_alloc_new w (.cells #[.int .i64 mn, .int .i64 mx, .int .i64 sw, .slice A ts.length ca, .slice B ls.length cb, .slice D hs.length cd] 35)) _) hb)
  have HR : Hid (w2.heap[w.heap.size + 1]? = some (.cells #[.int .u8 0, .int .i64 0, .int .i64 0, .int .i64 0, .int .i64 0, .int .i64 0, .int .i64 0, .int .i64 0, .int .i64 0, .int .i64 0] 44 (0, 0))) := Lib.hid (box_keep (heap_new_at _ (by simp)) hb)
  have HB := Lib.hid ((((Below.refl w.heap.size w).alloc (Nat.le_refl _) _).alloc (by simp) _).trans (hb.mono (by simp; omega)))
  clear hb f1
  obtain ⟨hx, hy⟩ := box_rules HX.out
  obtain ⟨hrx, hry⟩ := box_rules HR.out
  by_cases hy0 : y = 0
  · subst hy0
    by_cases hn0 : n < 0
    · have HY := Lib.hid (show Y = 1 by rw [HO.out, if_neg (by simp), if_pos (.inl hn0)])
      have HZ : Hid (¬ (1 : Int) = 0) := Lib.hid (by decide)
      clear HO
      go_wp2
      refine bodyPost_ret (v := .tuple #[zeroT, .int .i64 1]) (by simp [results, zeroT, Tryd.f24, go_sem, hrx]) rfl ?_
      have bR : w.heap.size ≤ w.heap.size + 1 := by omega
      refine ⟨by rw [HY.out, if_neg HZ.out], ?_⟩
      repeat (with_reducible first | refine Below.setCell ?_ bR _ | refine Below.drew ?_ | exact HB.out)
    · by_cases hn1 : (ts.length : Int) ≤ n
      · have HY := Lib.hid (show Y = 1 by rw [HO.out, if_neg (by simp), if_pos (.inr hn1)])
        have HZ : Hid (¬ (1 : Int) = 0) := Lib.hid (by decide)
        clear HO
        go_wp2
        refine bodyPost_ret (v := .tuple #[zeroT, .int .i64 1]) (by simp [results, zeroT, Tryd.f24, go_sem, hrx]) rfl ?_
        have bR : w.heap.size ≤ w.heap.size + 1 := by omega
        refine ⟨by rw [HY.out, if_neg HZ.out], ?_⟩
        repeat (with_reducible first | refine Below.setCell ?_ bR _ | refine Below.drew ?_ | exact HB.out)
      · obtain ⟨m, rfl⟩ := Int.eq_ofNat_of_zero_le (show 0 ≤ n by omega)
        have hm : m < ts.length := by omega
        go_wp2
        have Hn0 := Lib.hid hn0; have Hn1 := Lib.hid hn1; have Hm := Lib.hid hm
        clear hn0 hn1 hm
        generalize decide (ts.length ≤ m) = d1
        generalize decide ((m : Int) < 0) = d2
        go_loop [29] (fun i => ∃ k : Nat, k ≤ times.length ∧ i = .int .i64 k ∧ Hid (∀ j, j < k → tmOk (times.getD j 0) = true)) (fun i => times.length - (intOf i).toNat)
        case atStart => exact ⟨0, by omega, rfl, fun j hj => absurd hj (Nat.not_lt_zero _)⟩
        case round =>
          obtain ⟨k, hk, rfl, hmm⟩ := hrel
          by_cases hlt : k < times.length
          · obtain ⟨a, rfl, h1⟩ := (Hr.out.below HB.out).int hlt
            have f2 := Lib.hid (fun w => time_any (times.getD k 0) w)
            have HX2 : Hid (∀ b, tmOk (times.getD k 0) = b → tmOk (times.getD k 0) = b) := Lib.hid (fun _ h => h)
            generalize hb : tmOk (times.getD k 0) = b at f2
            have Hb := Lib.hid hb
            clear hb HX2
            generalize times.getD k 0 = x at h1 f2
            cases b with
            | false =>
              have HY := Lib.hid (show Y = 1 by rw [HO.out, if_neg (by simp), if_neg (by have := Hn0.out; have := Hn1.out; omega), if_pos (tm_no hlt Hb.out)])
              have HZ : Hid (¬ (1 : Int) = 0) := Lib.hid (by decide)
              go_wp2_with (refine (f2.out _).mono ?_; rintro e w' ⟨rfl, rfl⟩)
              refine bodyPost_ret (v := .tuple #[zeroT, .int .i64 1]) (by simp [results, zeroT, Tryd.f24, go_sem, hrx]) rfl ?_
              have bR : w.heap.size ≤ w.heap.size + 1 := by omega
              refine ⟨by rw [HY.out, if_neg HZ.out], ?_⟩
              repeat (with_reducible first | refine Below.setCell ?_ bR _ | refine Below.drew ?_ | exact HB.out)
            | true =>
              go_wp2_with (refine (f2.out _).mono ?_; rintro e w' ⟨rfl, rfl⟩)
              refine ⟨⟨k + 1, by omega, by go_num, fun j hj => ?_⟩, by simp [intOf]; omega⟩
              by_cases he : j = k
              · subst he; exact Hb.out
              · exact hmm.out j (by omega)
          · obtain rfl : k = times.length := by omega
            have HA := Lib.hid (tm_all hmm.out)
            have hm := Hm.out
            have hn0 := Hn0.out
            obtain ⟨a, x, rfl, hxx, ⟨g0, g1, g2, g3⟩, g4, g5, g6, g7, g8, g9⟩ := (Ht.out.below HB.out).tkAt hm
            have hY2 : Y = if x.kind ≠ 1 then 7 else 0 := by
              rw [HO.out, if_neg (by simp), if_neg (by have := Hn1.out; omega), if_neg (by rw [HA.out]; simp)]
              show (if (ts.getD m tk0).kind ≠ 1 then 7 else 0) = _
              rw [hxx]
            have Hxx : Hid (ts[m] = x) := Lib.hid (by rw [← hxx]; simp [List.getD, hm])
            clear hxx HO HA
            obtain ⟨x0, x1, x2, x3, x4, x5, x6, x7, x8, x9⟩ := x
            dsimp only at g0 g1 g2 g3 g4 g5 g6 g7 g8 g9 hY2
            by_cases hk1 : x0 = 1
            · subst hk1
              have HY := Lib.hid (show Y = 0 by rw [hY2]; rfl)
              clear hY2
              go_wp2
              refine bodyPost_ret (v := .tuple #[.agg #[.int .u8 1, .int .i64 x1, .int .i64 x2, .int .i64 x3, .int .i64 x4, .int .i64 x5, .int .i64 x6, .int .i64 x7, .int .i64 x8, .int .i64 x9], .int .i64 0]) (by simp [results, Tryd.f24, go_sem, hrx]) rfl ?_
              have bR : w.heap.size ≤ w.heap.size + 1 := by omega
              refine ⟨by rw [HY.out, if_pos rfl, Hxx.out]; rfl, ?_⟩
              repeat (with_reducible first | refine Below.setCell ?_ bR _ | refine Below.drew ?_ | exact HB.out)
            · have hk2 : (x0 != 1) = true := by simpa using hk1
              have HY := Lib.hid (show Y = 7 by rw [hY2, if_pos hk1])
              have HZ : Hid (¬ (7 : Int) = 0) := Lib.hid (by decide)
              clear hY2
              go_wp2
              refine bodyPost_ret (v := .tuple #[zeroT, .int .i64 7]) (by simp [results, zeroT, Tryd.f24, go_sem, hrx]) rfl ?_
              have bR : w.heap.size ≤ w.heap.size + 1 := by omega
              refine ⟨by rw [HY.out, if_neg HZ.out], ?_⟩
              repeat (with_reducible first | refine Below.setCell ?_ bR _ | refine Below.drew ?_ | exact HB.out)
  · have hy1 : (y != 0) = true := by simpa using hy0
    have HY := Lib.hid (show Y = y by rw [HO.out, if_pos hy0])
    have HZ := Lib.hid hy0
    go_wp2
    refine bodyPost_ret (v := .tuple #[zeroT, .int .i64 y]) (by simp [results, zeroT, Tryd.f24, go_sem, hrx]) rfl ?_
    have bR : w.heap.size ≤ w.heap.size + 1 := by omega
    refine ⟨by rw [HY.out, if_neg HZ.out], ?_⟩
    repeat (with_reducible first | refine Below.setCell ?_ bR _ | refine Below.drew ?_ | exact HB.out)
end Go.Proofs.YtpdanmdpaanafaaDoor

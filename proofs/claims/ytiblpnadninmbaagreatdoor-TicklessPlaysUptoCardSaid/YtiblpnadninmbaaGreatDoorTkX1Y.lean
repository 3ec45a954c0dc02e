/- Packages wrap, hwtimer: walks. Conditions: numbers in their ranges. -/
import Derived.Test.YtiblpnadninmbaaGreatDoorDuNY
import Derived.Test.YtiblpnadninmbaaGreatDoorTrX1Y
namespace Go.Proofs.YtiblpnadninmbaaGreatDoor
open Go.RowKit Go.Shelf
attribute [local go_sem] Oper.semAt_some
theorem wtime_any (t : Int) (w : World) : Calls Tryz.prog 89 #[.int .i64 t] w fun e w' => e = .returned (.bool (decide (0 ≤ t ∧ t ≤ 4503599627370496))) ∧ w = w' := by
  go_enter Tryz.func89, Tryz.ntmps89
  by_cases h0 : 0 ≤ t
  · by_cases h1 : t ≤ 4503599627370496
    · rw [decide_eq_true ⟨h0, h1⟩]
      go_wp2
      go_ret
      exact ⟨rfl, rfl⟩
    · rw [decide_eq_false (fun h => h1 h.2)]
      go_wp2
      go_ret
      exact ⟨rfl, rfl⟩
  · rw [decide_eq_false (fun h => h0 h.1)]
    go_wp2
    go_ret
    exact ⟨rfl, rfl⟩
theorem low_any (t : Int) (w : World) (h0 : 0 ≤ t) (h1 : t ≤ 4503599627370496) : Calls Tryz.prog 36 #[.int .i64 t] w fun e w' => e = .returned (.int .u32 (t % 4294967296)) ∧ w = w' := by
  have e1 : IntKind.u64.wrap t = t := by rw [IntKind.wrap_u64]; omega
  have e2 : IntKind.u32.wrap t = t % 4294967296 := rfl
  go_enter Tryz.func36, Tryz.ntmps36
  go_wp2
  go_ret
  exact ⟨rfl, rfl⟩
theorem ext_arith {last t : Int} (h1 : last ≤ t) (h2 : t < last + 4294967296) : last + (t % 4294967296 - last % 4294967296) % 4294967296 = t := by omega
set_option maxHeartbeats 4000000 in
theorem extend_any (last t : Int) (w : World) (h0 : 0 ≤ last) (h1 : last ≤ t) (h2 : t < last + 4294967296) (h3 : t ≤ 4503599627370496) :
    Calls Tryz.prog 71 #[.int .i64 last, .int .u32 (t % 4294967296)] w fun e w' => e = .returned (.tuple #[.int .i64 t, .int .i64 0]) ∧ w = w' := by
  have f1 := Lib.hid (fun X => wtime_any last X)
  rw [decide_eq_true (show 0 ≤ last ∧ last ≤ 4503599627370496 by omega)] at f1
  have f2 := Lib.hid (fun X => wtime_any t X)
  rw [decide_eq_true (show 0 ≤ t ∧ t ≤ 4503599627370496 by omega)] at f2
  have f3 := Lib.hid (fun X => low_any last X h0 (by omega))
  have hd := ext_arith h1 h2
  obtain ⟨a, ha⟩ : ∃ a, t % 4294967296 = a := ⟨_, rfl⟩
  obtain ⟨b, hb⟩ : ∃ b, last % 4294967296 = b := ⟨_, rfl⟩
  obtain ⟨d, hdd⟩ : ∃ d, (a - b) % 4294967296 = d := ⟨_, rfl⟩
  rw [ha, hb, hdd] at hd
  have hd0 : 0 ≤ d ∧ d < 4294967296 := by rw [← hdd]; omega
  rw [hb] at f3
  rw [ha]
  have e1 : IntKind.u32.wrap (a - b) = d := hdd
  have e2 : IntKind.i64.wrap d = d := IntWalk.i64_in _ (by omega)
  have e3 : wrap64 (last + d) = t := by rw [hd]; exact Go.IntWalk.wrap64_in _ (by omega)
  clear ha hb hdd
  go_enter Tryz.func71, Tryz.ntmps71
  go_upto_region 3 with (go_at_call 89; (with_reducible refine (f1.out _).mono ?_); rintro e w1 ⟨rfl, rfl⟩)
  go_upto_region 4 with (go_at_call 36; (with_reducible refine (f3.out _).mono ?_); rintro e w1 ⟨rfl, rfl⟩)
  go_wp2_with (go_at_call 89; (with_reducible refine (f2.out _).mono ?_); rintro e w1 ⟨rfl, rfl⟩)
  go_ret2
  exact ⟨rfl, rfl⟩
/-- The hardware's timer. -/
def hwv (count cmp : Int) (armed latch : Bool) : Value := .agg #[.int .u32 count, .int .u32 cmp, .bool armed, .bool latch]
theorem arm_any (a b : Int) (m l : Bool) (at1 : Int) (w : World) : Calls Tryz.prog 66 #[hwv a b m l, .int .u32 at1] w fun e w' => e = .returned (hwv a at1 true l) ∧ Below w.heap.size w w' := by
  unfold hwv
  go_enter Tryz.func66, Tryz.ntmps66
  go_wp2
  refine name_post fun V hV => ?_
  have hE : V.heap[w.heap.size + 1]? = some (.cells #[.int .u32 a, .int .u32 at1, .bool true, .bool l] 64 (0, 0)) := by rw [hV]; exact heap_new_at _ (by simp)
  have hB : Below w.heap.size w V := by rw [hV]; exact ((Below.refl _ _).alloc (Nat.le_refl _) _).alloc (by simp) _
  obtain ⟨vx, vy⟩ := box_rules hE
  clear hV
  refine bodyPost_ret (v := .agg #[.int .u32 a, .int .u32 at1, .bool true, .bool l]) (by simp [results, Tryz.f66, go_sem, vx]) rfl ?_
  exact ⟨rfl, hB⟩
theorem disarm_any (a b : Int) (m l : Bool) (w : World) : Calls Tryz.prog 76 #[hwv a b m l] w fun e w' => e = .returned (hwv a b false l) ∧ Below w.heap.size w w' := by
  unfold hwv
  go_enter Tryz.func76, Tryz.ntmps76
  go_wp2
  refine name_post fun V hV => ?_
  have hE : V.heap[w.heap.size + 1]? = some (.cells #[.int .u32 a, .int .u32 b, .bool false, .bool l] 64 (0, 0)) := by rw [hV]; exact heap_new_at _ (by simp)
  have hB : Below w.heap.size w V := by rw [hV]; exact ((Below.refl _ _).alloc (Nat.le_refl _) _).alloc (by simp) _
  obtain ⟨vx, vy⟩ := box_rules hE
  clear hV
  refine bodyPost_ret (v := .agg #[.int .u32 a, .int .u32 b, .bool false, .bool l]) (by simp [results, Tryz.f76, go_sem, vx]) rfl ?_
  exact ⟨rfl, hB⟩
theorem ack_any (a b : Int) (m l : Bool) (w : World) : Calls Tryz.prog 50 #[hwv a b m l] w fun e w' => e = .returned (.tuple #[hwv a b m false, .bool l]) ∧ Below w.heap.size w w' := by
  unfold hwv
  go_enter Tryz.func50, Tryz.ntmps50
  go_wp2
  refine name_post fun V hV => ?_
  have hE : V.heap[w.heap.size + 1]? = some (.cells #[.int .u32 a, .int .u32 b, .bool m, .bool false] 64 (0, 0)) := by rw [hV]; exact heap_new_at _ (by simp)
  have hB : Below w.heap.size w V := by rw [hV]; exact ((Below.refl _ _).alloc (Nat.le_refl _) _).alloc (by simp) _
  obtain ⟨vx, vy⟩ := box_rules hE
  clear hV
  refine bodyPost_ret (v := .tuple #[.agg #[.int .u32 a, .int .u32 b, .bool m, .bool false], .bool l]) (by simp [results, Tryz.f50, go_sem, vx]) rfl ?_
  exact ⟨rfl, hB⟩
/-- How far ahead the timer is armed. -/
def aheadN (a b : Int) : Int := (b - a - 1) % 4294967296
theorem ahead_hw (a b : Int) (m l : Bool) (k : Nat) (w : World) (h : w.heap[k]? = some (.cells #[.int .u32 a, .int .u32 b, .bool m, .bool l] 102 (0, 0))) :
    Calls Tryz.prog 43 #[.pointer (some ⟨k, 0, none⟩)] w fun e w' => e = .returned (.int .u32 (aheadN a b)) ∧ ∃ n, w.drewN n = w' := by
  have e1 : ((b - a) % 4294967296 - 1) % 4294967296 = aheadN a b := by
    unfold aheadN
    omega
  obtain ⟨xx, xy⟩ := box_rules h
  have lx := box_lt h
  generalize aheadN a b = d at *
  clear h
  go_enter Tryz.func43, Tryz.ntmps43
  go_upto_region 1 with fail
  go_big_quiet (fail)
  go_wp2
  go_ret
  exact ⟨congrArg (fun z => Ending.returned (Value.int .u32 z)) e1, _, rfl⟩
/-- What Left tells of an armed timer. -/
theorem left_armed (a b : Int) (l : Bool) (w : World) : Calls Tryz.prog 26 #[hwv a b true l] w fun e w' => e = .returned (.tuple #[.int .i64 (aheadN a b + 1), .bool true]) ∧ Below w.heap.size w w' := by
  have hd : 0 ≤ aheadN a b ∧ aheadN a b < 4294967296 := by unfold aheadN; omega
  have f1 := Lib.hid (fun k X h => ahead_hw a b true l k X h)
  unfold hwv
  generalize aheadN a b = d at *
  have e2 : IntKind.i64.wrap d = d := IntWalk.i64_in _ (by omega)
  have e3 : wrap64 (d + 1) = d + 1 := Go.IntWalk.wrap64_in _ (by omega)
  go_enter Tryz.func26, Tryz.ntmps26
  go_wp2_with (go_at_call 43; (with_reducible refine (f1.out _ _ (heap_new_at _ (by simp))).mono ?_); rintro e w1 ⟨rfl, n, rfl⟩)
  go_ret2
  exact ⟨rfl, (Tn.refl [] _).drewN n |>.base (((Below.refl _ _).alloc (Nat.le_refl _) _).alloc (by simp) _) (fun b hb => by cases hb) (by simp; omega)⟩
theorem left_none (a b : Int) (l : Bool) (w : World) : Calls Tryz.prog 26 #[hwv a b false l] w fun e w' => e = .returned (.tuple #[.int .i64 0, .bool false]) ∧ Below w.heap.size w w' := by
  unfold hwv
  go_enter Tryz.func26, Tryz.ntmps26
  go_wp2
  go_ret2
  exact ⟨rfl, (Below.refl _ _).alloc (Nat.le_refl _) _⟩
/-- Whether the timer comes to its time within so many cycles. -/
def hits (a b : Int) (m : Bool) (n : Int) : Bool := m && decide (0 < n) && decide (aheadN a b < n)
theorem matches_hw (a b : Int) (m l : Bool) (n : Int) (k : Nat) (w : World) (h : w.heap[k]? = some (.cells #[.int .u32 a, .int .u32 b, .bool m, .bool l] 102 (0, 0))) :
    Calls Tryz.prog 73 #[.pointer (some ⟨k, 0, none⟩), .int .u32 n] w fun e w' => e = .returned (.bool (hits a b m n)) ∧ ∃ j, w.drewN j = w' := by
  have f1 := Lib.hid (fun X h => ahead_hw a b m l k X h)
  unfold hits
  obtain ⟨xx, xy⟩ := box_rules h
  have lx := box_lt h
  have H := Lib.hid h
  generalize aheadN a b = d at *
  clear h
  go_enter Tryz.func73, Tryz.ntmps73
  cases m
  · go_wp2
    go_ret
    exact ⟨rfl, 0, rfl⟩
  · by_cases hn : 0 < n
    · rw [decide_eq_true hn]
      go_wp2_with (go_at_call 43; (with_reducible refine (f1.out _ H.out).mono ?_); rintro e w1 ⟨rfl, n, rfl⟩)
      go_ret
      exact ⟨rfl, _, rfl⟩
    · rw [decide_eq_false hn]
      go_wp2
      go_ret
      exact ⟨rfl, 0, rfl⟩
end Go.Proofs.YtiblpnadninmbaaGreatDoor
/- Packages hwtimer, clock: the walks of Advance, Now, Make, Read. Conditions: numbers in their ranges. -/
namespace Go.Proofs.YtiblpnadninmbaaGreatDoor
open Go.RowKit Go.Shelf
attribute [local go_sem] Oper.semAt_some
set_option maxHeartbeats 4000000 in
theorem advance_any (a b : Int) (m l : Bool) (n : Int) (w : World) (hn : n < 2147483648) :
    Calls Tryz.prog 48 #[hwv a b m l, .int .u32 n] w fun e w' => e = .returned (.tuple #[hwv ((a + n) % 4294967296) b (m && !hits a b m n) (l || hits a b m n), .int .i64 0]) ∧ Below w.heap.size w w' := by
  have f1 := Lib.hid (fun k X h => matches_hw a b m l n k X h)
  unfold hwv
  generalize hits a b m n = hh at *
  go_enter Tryz.func48, Tryz.ntmps48
  go_upto_region 4 with fail
  refine name_world fun V hV => ?_
  have HB : Hid (Below w.heap.size w V) := Lib.hid (by rw [hV]; exact (((Below.refl _ _).alloc (Nat.le_refl _) _).alloc (by simp) _).alloc (by simp; omega) _)
  have H1 : Hid (V.heap[w.heap.size + 1]? = some (.cells #[.int .u32 0, .int .u32 0, .bool false, .bool false] 64 (0, 0))) := Lib.hid (by rw [hV]; exact box_alloc (heap_new_at _ (by simp)) _)
  have H2 : Hid (V.heap[w.heap.size + 2]? = some (.cells #[.int .u32 a, .int .u32 b, .bool m, .bool l] 102 (0, 0))) := Lib.hid (by rw [hV]; exact heap_new_at _ (by simp))
  clear hV
  go_upto_if 15 with (go_at_call 73; (with_reducible refine (f1.out _ _ H2.out).mono ?_); rintro e w1 ⟨rfl, j, rfl⟩)
  refine name_world fun U hU => ?_
  have hTU : Tn [] V U := by rw [hU]; exact (Tn.refl _ _).drewN _
  have HU1 := Lib.hid (hTU.box H1.out (by simp))
  have HU2 := Lib.hid (hTU.box H2.out (by simp))
  have HUB : Hid (Below w.heap.size w U) := Lib.hid (hTU.base HB.out (fun b hb => by cases hb) HB.out.size)
  clear hU hTU
  obtain ⟨x2, y2⟩ := box_rules HU2.out
  have l2 := box_lt HU2.out
  cases hh
  · go_upto_region 7 with fail
    refine name_world fun W hW => ?_
    have hTW : Tn [w.heap.size + 2] U W := by rw [hW]; exact (Tn.refl _ _).setCell (by simp) _
    have HW1 := Lib.hid (hTW.box HU1.out (by simp))
    have HW2 : Hid (W.heap[w.heap.size + 2]? = some (.cells #[.int .u32 ((a + n) % 4294967296), .int .u32 b, .bool m, .bool l] 102 (0, 0))) := Lib.hid (by rw [hW]; exact box_set (i := 0) HU2.out _)
    have HWB : Hid (Below w.heap.size w W) := Lib.hid (hTW.base HUB.out (fun k hk => by obtain rfl := List.mem_singleton.1 hk; omega) HUB.out.size)
    clear hW hTW x2 y2 l2
    obtain ⟨x2, y2⟩ := box_rules HW2.out
    have l2 := box_lt HW2.out
    obtain ⟨x1, y1⟩ := box_rules HW1.out
    have l1 := box_lt HW1.out
    go_wp2
    refine name_post fun V4 hV4 => ?_
    obtain ⟨hE4, hT4⟩ := set4 HW1.out rfl (.int .u32 ((a + n) % 4294967296)) (.int .u32 b) (.bool m) (.bool l)
    rw [← hV4] at hE4 hT4
    obtain ⟨vx, vy⟩ := box_rules hE4
    clear hV4
    refine bodyPost_ret (v := .tuple #[.agg #[.int .u32 ((a + n) % 4294967296), .int .u32 b, .bool m, .bool l], .int .i64 0]) (by simp [results, Tryz.f48, go_sem, vx]) rfl ?_
    exact ⟨by simp, hT4.base HWB.out (fun k hk => by obtain rfl := List.mem_singleton.1 hk; omega) HWB.out.size⟩
  · go_upto_region 7 with fail
    refine name_world fun W hW => ?_
    have hTW : Tn [w.heap.size + 2] U W := by rw [hW]; exact (((Tn.refl _ _).setCell (p := ⟨w.heap.size + 2, 3, none⟩) (by simp) _).setCell (p := ⟨w.heap.size + 2, 2, none⟩) (by simp) _).setCell (p := ⟨w.heap.size + 2, 0, none⟩) (by simp) _
    have HW1 := Lib.hid (hTW.box HU1.out (by simp))
    have HW2 : Hid (W.heap[w.heap.size + 2]? = some (.cells #[.int .u32 ((a + n) % 4294967296), .int .u32 b, .bool false, .bool true] 102 (0, 0))) := Lib.hid (by rw [hW]; exact box_set (i := 0) (box_set (i := 2) (box_set (i := 3) HU2.out _) _) _)
    have HWB : Hid (Below w.heap.size w W) := Lib.hid (hTW.base HUB.out (fun k hk => by obtain rfl := List.mem_singleton.1 hk; omega) HUB.out.size)
    clear hW hTW x2 y2 l2
    obtain ⟨x2, y2⟩ := box_rules HW2.out
    have l2 := box_lt HW2.out
    obtain ⟨x1, y1⟩ := box_rules HW1.out
    have l1 := box_lt HW1.out
    go_wp2
    refine name_post fun V4 hV4 => ?_
    obtain ⟨hE4, hT4⟩ := set4 HW1.out rfl (.int .u32 ((a + n) % 4294967296)) (.int .u32 b) (.bool false) (.bool true)
    rw [← hV4] at hE4 hT4
    obtain ⟨vx, vy⟩ := box_rules hE4
    clear hV4
    refine bodyPost_ret (v := .tuple #[.agg #[.int .u32 ((a + n) % 4294967296), .int .u32 b, .bool false, .bool true], .int .i64 0]) (by simp [results, Tryz.f48, go_sem, vx]) rfl ?_
    exact ⟨by simp, hT4.base HWB.out (fun k hk => by obtain rfl := List.mem_singleton.1 hk; omega) HWB.out.size⟩
end Go.Proofs.YtiblpnadninmbaaGreatDoor
/- Package clock: the walks of Now, Make, Read. Conditions: a clock that is read often enough. -/
namespace Go.Proofs.YtiblpnadninmbaaGreatDoor
open Go.RowKit Go.Shelf
attribute [local go_sem] Oper.semAt_some
/-- A clock. -/
def clv (a b : Int) (m l : Bool) (last : Int) : Value := .agg #[.int .u32 a, .int .u32 b, .bool m, .bool l, .int .i64 last]
theorem set5 {U : World} {b : Nat} {t : TypeId} {cs : Array Value} (h : U.heap[b]? = some (.cells cs t (0, 0))) (hs : cs.size = 5) (v0 v1 v2 v3 v4 : Value) :
    (((((U.setCell ⟨b, 0, none⟩ v0).setCell ⟨b, 1, none⟩ v1).setCell ⟨b, 2, none⟩ v2).setCell ⟨b, 3, none⟩ v3).setCell ⟨b, 4, none⟩ v4).heap[b]? = some (.cells #[v0, v1, v2, v3, v4] t (0, 0)) ∧
    Tn [b] U (((((U.setCell ⟨b, 0, none⟩ v0).setCell ⟨b, 1, none⟩ v1).setCell ⟨b, 2, none⟩ v2).setCell ⟨b, 3, none⟩ v3).setCell ⟨b, 4, none⟩ v4) := by
  have hm : b ∈ [b] := by simp
  refine ⟨?_, (((((Tn.refl _ _).setCell (p := ⟨b, 0, none⟩) hm _).setCell (p := ⟨b, 1, none⟩) hm _).setCell (p := ⟨b, 2, none⟩) hm _).setCell (p := ⟨b, 3, none⟩) hm _).setCell (p := ⟨b, 4, none⟩) hm _⟩
  rw [box_set (i := 4) (box_set (i := 3) (box_set (i := 2) (box_set (i := 1) (box_set (i := 0) h v0) v1) v2) v3) v4]
  obtain ⟨l⟩ := cs
  match l, hs with
  | [_, _, _, _, _], _ => rfl
set_option maxHeartbeats 4000000 in
theorem cnow_any (last t b : Int) (m l : Bool) (w : World) (h0 : 0 ≤ last) (h1 : last ≤ t) (h2 : t < last + 2147483648) (h3 : t ≤ 4503599627370496) :
    Calls Tryz.prog 46 #[clv (t % 4294967296) b m l last] w fun e w' => e = .returned (.tuple #[.int .i64 t, .int .i64 0]) ∧ Below w.heap.size w w' := by
  have f1 := Lib.hid (fun X => extend_any last t X h0 h1 (by omega) h3)
  unfold clv
  obtain ⟨a, ha⟩ : ∃ a, t % 4294967296 = a := ⟨_, rfl⟩
  rw [ha] at f1 ⊢
  have e1 : wrap64 (t - last) = t - last := Go.IntWalk.wrap64_in _ (by omega)
  have e2 : decide (2147483648 ≤ t - last) = false := decide_eq_false (by omega)
  have e3 : ¬ 2147483648 ≤ t - last := by omega
  clear ha
  go_enter Tryz.func46, Tryz.ntmps46
  go_wp2_with (go_at_call 71; (with_reducible refine (f1.out _).mono ?_); rintro e w1 ⟨rfl, rfl⟩)
  go_ret2
  exact ⟨rfl, (Below.refl _ _).alloc (Nat.le_refl _) _⟩
set_option maxHeartbeats 4000000 in
theorem cmake_any (t : Int) (w : World) (h0 : 0 ≤ t) (h1 : t ≤ 4503599627370496) :
    Calls Tryz.prog 18 #[.int .i64 t] w fun e w' => e = .returned (.tuple #[clv (t % 4294967296) 0 false false t, .int .i64 0]) ∧ Below w.heap.size w w' := by
  have f1 := Lib.hid (fun X => low_any t X h0 h1)
  unfold clv
  obtain ⟨a, ha⟩ : ∃ a, t % 4294967296 = a := ⟨_, rfl⟩
  rw [ha] at f1 ⊢
  clear ha
  go_enter Tryz.func18, Tryz.ntmps18
  go_wp2_with (go_at_call 36; (with_reducible refine (f1.out _).mono ?_); rintro e w1 ⟨rfl, rfl⟩)
  refine name_post fun V hV => ?_
  have hE : V.heap[w.heap.size]? = some (.cells #[.int .u32 a, .int .u32 0, .bool false, .bool false, .int .i64 t] 66 (0, 0)) := by
    rw [hV]; first | exact heap_alloc_new _ _ | exact (set5 (heap_alloc_new _ _) rfl _ _ _ _ _).1
  have hB : Below w.heap.size w V := by
    rw [hV]; first | exact (Below.refl _ _).alloc (Nat.le_refl _) _ | exact (((Tn.refl [] w).alloc _).new (set5 (heap_alloc_new _ _) rfl _ _ _ _ _).2 (fun b hb => by simp at hb; omega)).base (Below.refl _ _) (fun b hb => by cases hb) (Nat.le_refl _)
  obtain ⟨vx, vy⟩ := box_rules hE
  clear hV
  refine bodyPost_ret (v := .tuple #[.agg #[.int .u32 a, .int .u32 0, .bool false, .bool false, .int .i64 t], .int .i64 0]) (by simp [results, Tryz.f18, go_sem, vx]) rfl ?_
  exact ⟨rfl, hB⟩
set_option maxHeartbeats 4000000 in
theorem cread_any (last t b : Int) (m l : Bool) (w : World) (h0 : 0 ≤ last) (h1 : last ≤ t) (h2 : t < last + 2147483648) (h3 : t ≤ 4503599627370496) :
    Calls Tryz.prog 49 #[clv (t % 4294967296) b m l last] w fun e w' => e = .returned (.tuple #[clv (t % 4294967296) b m l t, .int .i64 t, .int .i64 0]) ∧ Below w.heap.size w w' := by
  have f1 := Lib.hid (fun X => cnow_any last t b m l X h0 h1 h2 h3)
  unfold clv at f1 ⊢
  obtain ⟨a, ha⟩ : ∃ a, t % 4294967296 = a := ⟨_, rfl⟩
  rw [ha] at f1 ⊢
  clear ha
  go_enter Tryz.func49, Tryz.ntmps49
  go_upto_region 1 with fail
  refine name_world fun V hV => ?_
  have H0 : Hid (V.heap[w.heap.size]? = some (.cells #[.int .u32 a, .int .u32 b, .bool m, .bool l, .int .i64 last] 66 (0, 0))) := Lib.hid (by rw [hV]; exact box_alloc (heap_alloc_new _ _) _)
  have H1 : Hid (V.heap[w.heap.size + 1]? = some (.cells #[.int .u32 0, .int .u32 0, .bool false, .bool false, .int .i64 0] 66 (0, 0))) := Lib.hid (by rw [hV]; exact heap_new_at _ (by simp))
  have HB : Hid (Below w.heap.size w V) := Lib.hid (by rw [hV]; exact ((Below.refl _ _).alloc (Nat.le_refl _) _).alloc (by simp) _)
  clear hV
  obtain ⟨x0, y0⟩ := box_rules H0.out
  have l0 := box_lt H0.out
  go_upto_region 4 with (go_at_call 46; (with_reducible refine (f1.out _).mono ?_); rintro e w1 ⟨rfl, hb1⟩; have HX0 := Lib.hid (box_keep H0.out hb1); have HX1 := Lib.hid (box_keep H1.out hb1); have HB1 := Lib.hid (HB.out.trans (hb1.mono HB.out.size)); clear hb1)
  clear x0 y0 l0
  obtain ⟨x0, y0⟩ := box_rules HX0.out
  have l0 := box_lt HX0.out
  go_upto_region 5 with fail
  refine name_world fun W hW => ?_
  have hTW : Tn [w.heap.size] w1 W := by rw [hW]; exact (Tn.refl _ _).setCell (by simp) _
  have HW0 : Hid (W.heap[w.heap.size]? = some (.cells #[.int .u32 a, .int .u32 b, .bool m, .bool l, .int .i64 t] 66 (0, 0))) := Lib.hid (by rw [hW]; exact box_set (i := 4) HX0.out _)
  have HW1 := Lib.hid (hTW.box HX1.out (by simp))
  have HWB : Hid (Below w.heap.size w W) := Lib.hid (hTW.base HB1.out (fun k hk => by obtain rfl := List.mem_singleton.1 hk; exact Nat.le_refl _) HB1.out.size)
  clear hW hTW x0 y0 l0
  obtain ⟨x0, y0⟩ := box_rules HW0.out
  have l0 := box_lt HW0.out
  obtain ⟨x1, y1⟩ := box_rules HW1.out
  have l1 := box_lt HW1.out
  go_wp2
  refine name_post fun V4 hV4 => ?_
  obtain ⟨hE4, hT4⟩ := set5 HW1.out rfl (.int .u32 a) (.int .u32 b) (.bool m) (.bool l) (.int .i64 t)
  rw [← hV4] at hE4 hT4
  obtain ⟨vx, vy⟩ := box_rules hE4
  clear hV4
  refine bodyPost_ret (v := .tuple #[.agg #[.int .u32 a, .int .u32 b, .bool m, .bool l, .int .i64 t], .int .i64 t, .int .i64 0]) (by simp [results, Tryz.f49, go_sem, vx]) rfl ?_
  exact ⟨rfl, hT4.base HWB.out (fun k hk => by obtain rfl := List.mem_singleton.1 hk; omega) HWB.out.size⟩
end Go.Proofs.YtiblpnadninmbaaGreatDoor
/- Package shot: the walks of Check, time, aim. Conditions: times that may be. -/
namespace Go.Proofs.YtiblpnadninmbaaGreatDoor
open Go.RowKit Go.Shelf
attribute [local go_sem] Oper.semAt_some
theorem stime_any (t : Int) (w : World) : Calls Tryz.prog 97 #[.int .i64 t] w fun e w' => e = .returned (.bool (decide (0 ≤ t ∧ t ≤ 4503599627370496))) ∧ w = w' := by
  go_enter Tryz.func97, Tryz.ntmps97
  by_cases h0 : 0 ≤ t
  · by_cases h1 : t ≤ 4503599627370496
    · rw [decide_eq_true ⟨h0, h1⟩]
      go_wp2
      go_ret
      exact ⟨rfl, rfl⟩
    · rw [decide_eq_false (fun h => h1 h.2)]
      go_wp2
      go_ret
      exact ⟨rfl, rfl⟩
  · rw [decide_eq_false (fun h => h0 h.1)]
    go_wp2
    go_ret
    exact ⟨rfl, rfl⟩
/-- A timing that may be. -/
def TmOk (mn mx : Int) : Prop := 1 ≤ mn ∧ mx < 2147483648 ∧ mn ≤ mx / 2
theorem scheck_any (mn mx : Int) (w : World) (h : TmOk mn mx) : Calls Tryz.prog 16 #[.agg #[.int .i64 mn, .int .i64 mx]] w fun e w' => e = .returned (.int .i64 0) ∧ Below w.heap.size w w' := by
  obtain ⟨h1, h2, h3⟩ := h
  have e1 : ¬ mn < 1 := by omega
  have e2 : ¬ 2147483648 ≤ mx := by omega
  have e3 : mx.tdiv 2 = mx / 2 := Int.tdiv_eq_ediv_of_nonneg (by omega)
  have e4 : wrap64 (mx / 2) = mx / 2 := Go.IntWalk.wrap64_in _ (by omega)
  have e5 : ¬ mx / 2 < mn := by omega
  go_enter Tryz.func16, Tryz.ntmps16
  go_wp2
  go_ret
  exact ⟨rfl, (Below.refl _ _).alloc (Nat.le_refl _) _⟩
/-- What becomes of a deadline, and when it is looked at. -/
def aimK (mn mx now d : Int) : Int := if d - now ≤ 0 then 1 else if d - now < mn then 2 else if d - now ≤ mx then 3 else 4
def aimT (mn mx now d : Int) : Int := if d - now ≤ 0 then now else if d - now < mn then now + mn else if d - now ≤ mx then d else min (now + mx) (d - mn)
set_option maxHeartbeats 4000000 in
theorem aim_any (mn mx now d : Int) (w : World) (h : TmOk mn mx) (h0 : 0 ≤ now) (h1 : now ≤ 4503599627370496) (h2 : 0 ≤ d) (h3 : d ≤ 4503599627370496) :
    Calls Tryz.prog 98 #[.agg #[.int .i64 mn, .int .i64 mx], .int .i64 now, .int .i64 d] w fun e w' => e = .returned (.tuple #[.int .u8 (aimK mn mx now d), .int .i64 (aimT mn mx now d)]) ∧ Below w.heap.size w w' := by
  obtain ⟨g1, g2, g3⟩ := h
  have e0 : wrap64 (d - now) = d - now := Go.IntWalk.wrap64_in _ (by omega)
  have e1 : wrap64 (now + mn) = now + mn := Go.IntWalk.wrap64_in _ (by omega)
  have e1' : IntKind.i64.wrap (now + mn) = now + mn := IntWalk.i64_in _ (by omega)
  have e2 : IntKind.i64.wrap (now + mx) = now + mx := IntWalk.i64_in _ (by omega)
  have e3 : IntKind.i64.wrap (d - mn) = d - mn := IntWalk.i64_in _ (by omega)
  have hB : Hid (∀ o n, Below w.heap.size w ((w.alloc o).drewN n)) := Lib.hid (fun o n => ((Tn.refl [] w).alloc o |>.drewN n).base (Below.refl _ _) (fun b hb => by cases hb) (Nat.le_refl _))
  unfold aimK aimT
  by_cases c1 : d - now ≤ 0
  · rw [if_pos c1, if_pos c1]
    go_enter Tryz.func98, Tryz.ntmps98
    go_wp2
    go_ret2
    exact ⟨rfl, (Below.refl _ _).alloc (Nat.le_refl _) _⟩
  · rw [if_neg c1, if_neg c1]
    by_cases c2 : d - now < mn
    · rw [if_pos c2, if_pos c2]
      go_enter Tryz.func98, Tryz.ntmps98
      go_upto_region 5 with fail
      go_big_quiet (fail)
      go_wp2
      go_ret2
      exact ⟨rfl, hB.out _ _⟩
    · rw [if_neg c2, if_neg c2]
      by_cases c3 : d - now ≤ mx
      · rw [if_pos c3, if_pos c3]
        go_enter Tryz.func98, Tryz.ntmps98
        go_wp2
        go_ret2
        exact ⟨rfl, (Below.refl _ _).alloc (Nat.le_refl _) _⟩
      · rw [if_neg c3, if_neg c3]
        obtain ⟨mq, hmq⟩ : ∃ mq, min (now + mx) (d - mn) = mq := ⟨_, rfl⟩
        rw [hmq]
        go_enter Tryz.func98, Tryz.ntmps98
        go_upto_region 8 with fail
        go_big_quiet (fail)
        go_wp2
        all_goals
          go_ret2
          refine ⟨?_, hB.out _ _⟩
          simp
          omega
end Go.Proofs.YtiblpnadninmbaaGreatDoor
/- Package shot: the walk of Plan. Conditions: times that may be. -/
namespace Go.Proofs.YtiblpnadninmbaaGreatDoor
open Go.RowKit Go.Shelf
attribute [local go_sem] Oper.semAt_some
theorem aimT_lo {mn mx now d : Int} (h : TmOk mn mx) (h0 : 0 ≤ now) (h2 : 0 ≤ d) : 0 ≤ aimT mn mx now d := by
  obtain ⟨g1, g2, g3⟩ := h
  unfold aimT
  split
  · exact h0
  · split
    · omega
    · split
      · exact h2
      · omega
set_option maxHeartbeats 4000000 in
theorem plan_ok (mn mx now d : Int) (w : World) (h : TmOk mn mx) (h0 : 0 ≤ now) (h1 : now ≤ 4503599627370496) (h2 : 0 ≤ d) (h3 : d ≤ 4503599627370496) (h4 : aimT mn mx now d ≤ 4503599627370496) :
    Calls Tryz.prog 86 #[.agg #[.int .i64 mn, .int .i64 mx], .int .i64 now, .int .i64 d] w fun e w' => e = .returned (.tuple #[.int .u8 (aimK mn mx now d), .int .i64 (aimT mn mx now d), .int .i64 0]) ∧ Below w.heap.size w w' := by
  have f1 := Lib.hid (fun X => scheck_any mn mx X h)
  have f2 := Lib.hid (fun X => stime_any now X)
  rw [decide_eq_true (show 0 ≤ now ∧ now ≤ 4503599627370496 from ⟨h0, h1⟩)] at f2
  have f3 := Lib.hid (fun X => stime_any d X)
  rw [decide_eq_true (show 0 ≤ d ∧ d ≤ 4503599627370496 from ⟨h2, h3⟩)] at f3
  have f4 := Lib.hid (fun X => aim_any mn mx now d X h h0 h1 h2 h3)
  have f5 := Lib.hid (fun X => stime_any (aimT mn mx now d) X)
  rw [decide_eq_true (show 0 ≤ aimT mn mx now d ∧ aimT mn mx now d ≤ 4503599627370496 from ⟨aimT_lo h h0 h2, h4⟩)] at f5
  have hB : Below w.heap.size w (w.alloc (.cells #[.int .i64 mn, .int .i64 mx] 23 (0, 0))) := (Below.refl _ _).alloc (Nat.le_refl _) _
  have HBq := Lib.hid hB
  generalize aimT mn mx now d = q at *
  generalize aimK mn mx now d = kk at *
  clear h h4 hB
  go_enter Tryz.func86, Tryz.ntmps86
  go_upto_region 3 with (go_at_call 16; (with_reducible refine (f1.out _).mono ?_); rintro e w1 ⟨rfl, hb1⟩; have HX1 := Lib.hid (box_new hb1); have HB1 := Lib.hid (HBq.out.trans (hb1.mono HBq.out.size)); clear hb1)
  obtain ⟨x0, y0⟩ := box_rules HX1.out
  have l0 := box_lt HX1.out
  go_upto_region 5 with (first
    | (go_at_call 97; (with_reducible refine (f2.out _).mono ?_); rintro e w2 ⟨rfl, rfl⟩)
    | (go_at_call 97; (with_reducible refine (f3.out _).mono ?_); rintro e w2 ⟨rfl, rfl⟩))
  go_wp2_with (first
    | (go_at_call 98; (with_reducible refine (f4.out _).mono ?_); rintro e w3 ⟨rfl, hb3⟩; have HB3 := Lib.hid (HB1.out.trans (hb3.mono HB1.out.size)); clear hb3)
    | (go_at_call 97; (with_reducible refine (f5.out _).mono ?_); rintro e w4 ⟨rfl, rfl⟩))
  refine bodyPost_ret (v := .tuple #[.int .u8 kk, .int .i64 q, .int .i64 0]) (by simp [results, Tryz.f86, go_sem]) rfl ?_
  exact ⟨rfl, HB3.out⟩
set_option maxHeartbeats 4000000 in
theorem plan_late (mn mx now d : Int) (w : World) (h : TmOk mn mx) (h0 : 0 ≤ now) (h1 : now ≤ 4503599627370496) (h2 : 0 ≤ d) (h3 : d ≤ 4503599627370496) (h4 : ¬ aimT mn mx now d ≤ 4503599627370496) :
    Calls Tryz.prog 86 #[.agg #[.int .i64 mn, .int .i64 mx], .int .i64 now, .int .i64 d] w fun e w' => e = .returned (.tuple #[.int .u8 0, .int .i64 0, .int .i64 6]) ∧ Below w.heap.size w w' := by
  have f1 := Lib.hid (fun X => scheck_any mn mx X h)
  have f2 := Lib.hid (fun X => stime_any now X)
  rw [decide_eq_true (show 0 ≤ now ∧ now ≤ 4503599627370496 from ⟨h0, h1⟩)] at f2
  have f3 := Lib.hid (fun X => stime_any d X)
  rw [decide_eq_true (show 0 ≤ d ∧ d ≤ 4503599627370496 from ⟨h2, h3⟩)] at f3
  have f4 := Lib.hid (fun X => aim_any mn mx now d X h h0 h1 h2 h3)
  have f5 := Lib.hid (fun X => stime_any (aimT mn mx now d) X)
  rw [decide_eq_false (fun h9 => h4 h9.2)] at f5
  have hB : Below w.heap.size w (w.alloc (.cells #[.int .i64 mn, .int .i64 mx] 23 (0, 0))) := (Below.refl _ _).alloc (Nat.le_refl _) _
  have HBq := Lib.hid hB
  generalize aimT mn mx now d = q at *
  generalize aimK mn mx now d = kk at *
  clear h h4 hB
  go_enter Tryz.func86, Tryz.ntmps86
  go_upto_region 3 with (go_at_call 16; (with_reducible refine (f1.out _).mono ?_); rintro e w1 ⟨rfl, hb1⟩; have HX1 := Lib.hid (box_new hb1); have HB1 := Lib.hid (HBq.out.trans (hb1.mono HBq.out.size)); clear hb1)
  obtain ⟨x0, y0⟩ := box_rules HX1.out
  have l0 := box_lt HX1.out
  go_upto_region 5 with (first
    | (go_at_call 97; (with_reducible refine (f2.out _).mono ?_); rintro e w2 ⟨rfl, rfl⟩)
    | (go_at_call 97; (with_reducible refine (f3.out _).mono ?_); rintro e w2 ⟨rfl, rfl⟩))
  go_wp2_with (first
    | (go_at_call 98; (with_reducible refine (f4.out _).mono ?_); rintro e w3 ⟨rfl, hb3⟩; have HB3 := Lib.hid (HB1.out.trans (hb3.mono HB1.out.size)); clear hb3)
    | (go_at_call 97; (with_reducible refine (f5.out _).mono ?_); rintro e w4 ⟨rfl, rfl⟩))
  refine bodyPost_ret (v := .tuple #[.int .u8 0, .int .i64 0, .int .i64 6]) (by simp [results, Tryz.f86, go_sem]) rfl ?_
  exact ⟨rfl, HB3.out⟩
end Go.Proofs.YtiblpnadninmbaaGreatDoor
/- Package shot: the walk of Arm. Conditions: a clock that is read often enough, times that may be. -/
namespace Go.Proofs.YtiblpnadninmbaaGreatDoor
open Go.RowKit Go.Shelf
attribute [local go_sem] Oper.semAt_some
/-- Arm's boxes: its clock, the timing, the result. -/
structure SaI (w V : World) (a b : Int) (m l : Bool) (last mn mx : Int) : Prop where
  c : V.heap[w.heap.size]? = some (.cells #[.int .u32 a, .int .u32 b, .bool m, .bool l, .int .i64 last] 66 (0, 0))
  t : V.heap[w.heap.size + 1]? = some (.cells #[.int .i64 mn, .int .i64 mx] 23 (0, 0))
  r : V.heap[w.heap.size + 2]? = some (.cells #[.int .u32 0, .int .u32 0, .bool false, .bool false, .int .i64 0] 66 (0, 0))
  bel : Below w.heap.size w V
theorem SaI.below {w V X : World} {a b : Int} {m l : Bool} {last mn mx : Int} (h : SaI w V a b m l last mn mx) (hb : Below V.heap.size V X) : SaI w X a b m l last mn mx :=
  ⟨box_keep h.c hb, box_keep h.t hb, box_keep h.r hb, h.bel.trans (hb.mono h.bel.size)⟩
theorem SaI.turn {w V X : World} {a b a' b' : Int} {m l m' l' : Bool} {last last' mn mx : Int} (h : SaI w V a b m l last mn mx) (ht : Tn [w.heap.size] V X) (hc : X.heap[w.heap.size]? = some (.cells #[.int .u32 a', .int .u32 b', .bool m', .bool l', .int .i64 last'] 66 (0, 0))) : SaI w X a' b' m' l' last' mn mx :=
  ⟨hc, ht.box h.t (by simp), ht.box h.r (by simp), ht.base h.bel (fun k hk => by obtain rfl := List.mem_singleton.1 hk; exact Nat.le_refl _) h.bel.size⟩

set_option maxHeartbeats 8000000 in
set_option maxRecDepth 100000 in
theorem sarm_past (last t b mn mx d : Int) (m l : Bool) (w : World) (h0 : 0 ≤ last) (h1 : last ≤ t) (h2 : t < last + 2147483648) (h3 : t ≤ 4503599627370496) (h : TmOk mn mx) (h4 : 0 ≤ d) (h5 : d ≤ t) :
    Calls Tryz.prog 65 #[clv (t % 4294967296) b m l last, .agg #[.int .i64 mn, .int .i64 mx], .int .i64 d] w fun e w' => e = .returned (.tuple #[clv (t % 4294967296) b false l t, .int .u8 1, .int .i64 0]) ∧ Below w.heap.size w w' := by
  have f1 := Lib.hid (fun X => cread_any last t b m l X h0 h1 h2 h3)
  have hk : aimK mn mx t d = 1 := if_pos (by omega)
  have hq : aimT mn mx t d = t := if_pos (by omega)
  have f2 := Lib.hid (fun X => plan_ok mn mx t d X h (by omega) h3 h4 (by omega) (by rw [hq]; exact h3))
  rw [hk, hq] at f2
  unfold clv at f1 ⊢
  obtain ⟨a, ha⟩ : ∃ a, t % 4294967296 = a := ⟨_, rfl⟩
  rw [ha] at f1 ⊢
  have f3 := Lib.hid (fun X => disarm_any a b m l X)
  unfold hwv at f3
  clear ha hk hq h h0 h1 h2 h3 h4 h5
  go_enter Tryz.func65, Tryz.ntmps65
  go_upto_region 1 with fail
  refine name_world fun V hV => ?_
  have HV : Hid (SaI w V a b m l last mn mx) := Lib.hid ⟨by rw [hV]; exact box_alloc (box_alloc (heap_alloc_new _ _) _) _, by rw [hV]; exact box_alloc (heap_new_at _ (by simp)) _, by rw [hV]; exact heap_new_at _ (by simp), by rw [hV]; exact (((Below.refl _ _).alloc (Nat.le_refl _) _).alloc (by simp) _).alloc (by simp; omega) _⟩
  clear hV
  obtain ⟨x0, y0⟩ := box_rules (HV.out).c
  have l0 := box_lt (HV.out).c
  obtain ⟨x1, y1⟩ := box_rules (HV.out).t
  have l1 := box_lt (HV.out).t
  obtain ⟨x2, y2⟩ := box_rules (HV.out).r
  have l2 := box_lt (HV.out).r
  go_upto_region 2 with (go_at_call 49; (with_reducible refine (f1.out _).mono ?_); rintro e w1 ⟨rfl, hb1⟩; have HV1 := Lib.hid (HV.out.below hb1); clear hb1 x0 y0 l0 x1 y1 l1 x2 y2 l2; obtain ⟨x0, y0⟩ := box_rules HV1.out.c; have l0 := box_lt HV1.out.c)
  refine name_world fun W hW => ?_
  have hs5 := set5 HV1.out.c rfl (.int .u32 a) (.int .u32 b) (.bool m) (.bool l) (.int .i64 t)
  rw [← hW] at hs5
  have HV2 := Lib.hid (HV1.out.turn hs5.2 hs5.1)
  clear hW hs5 x0 y0 l0
  obtain ⟨x0, y0⟩ := box_rules (HV2.out).c
  have l0 := box_lt (HV2.out).c
  obtain ⟨x1, y1⟩ := box_rules (HV2.out).t
  have l1 := box_lt (HV2.out).t
  obtain ⟨x2, y2⟩ := box_rules (HV2.out).r
  have l2 := box_lt (HV2.out).r
  go_upto_region 7 with (go_at_call 86; (with_reducible refine (f2.out _).mono ?_); rintro e w2 ⟨rfl, hb2⟩; have HV3 := Lib.hid (HV2.out.below hb2); clear hb2)
  clear x0 y0 l0 x1 y1 l1 x2 y2 l2
  obtain ⟨x0, y0⟩ := box_rules (HV3.out).c
  have l0 := box_lt (HV3.out).c
  obtain ⟨x1, y1⟩ := box_rules (HV3.out).t
  have l1 := box_lt (HV3.out).t
  obtain ⟨x2, y2⟩ := box_rules (HV3.out).r
  have l2 := box_lt (HV3.out).r
  go_upto_region 10 with (go_at_call 76; (with_reducible refine (f3.out _).mono ?_); rintro e w3 ⟨rfl, hb3⟩; have HV4 := Lib.hid (HV3.out.below hb3); clear hb3 x0 y0 l0 x1 y1 l1 x2 y2 l2; obtain ⟨x0, y0⟩ := box_rules HV4.out.c; have l0 := box_lt HV4.out.c)
  refine name_world fun X hX => ?_
  have hTX : Tn [w.heap.size] w3 X := by rw [hX]; exact ((((Tn.refl _ _).setCell (p := ⟨w.heap.size, 0, none⟩) (by simp) _).setCell (p := ⟨w.heap.size, 1, none⟩) (by simp) _).setCell (p := ⟨w.heap.size, 2, none⟩) (by simp) _).setCell (p := ⟨w.heap.size, 3, none⟩) (by simp) _
  have HV5 : Hid (SaI w X a b false l t mn mx) := Lib.hid (HV4.out.turn hTX (by rw [hX]; exact box_set (i := 3) (box_set (i := 2) (box_set (i := 1) (box_set (i := 0) HV4.out.c _) _) _) _))
  clear hX hTX x0 y0 l0
  obtain ⟨x0, y0⟩ := box_rules (HV5.out).c
  have l0 := box_lt (HV5.out).c
  obtain ⟨x1, y1⟩ := box_rules (HV5.out).t
  have l1 := box_lt (HV5.out).t
  obtain ⟨x2, y2⟩ := box_rules (HV5.out).r
  have l2 := box_lt (HV5.out).r
  go_wp2
  refine name_post fun V4 hV4 => ?_
  obtain ⟨hE4, hT4⟩ := set5 HV5.out.r rfl (.int .u32 a) (.int .u32 b) (.bool false) (.bool l) (.int .i64 t)
  rw [← hV4] at hE4 hT4
  obtain ⟨vx, vy⟩ := box_rules hE4
  clear hV4
  refine bodyPost_ret (v := .tuple #[.agg #[.int .u32 a, .int .u32 b, .bool false, .bool l, .int .i64 t], .int .u8 1, .int .i64 0]) (by simp [results, Tryz.f65, go_sem, vx]) rfl ?_
  exact ⟨rfl, hT4.base HV5.out.bel (fun k hk => by obtain rfl := List.mem_singleton.1 hk; omega) HV5.out.bel.size⟩
end Go.Proofs.YtiblpnadninmbaaGreatDoor
/- Package shot: the walk of Arm where a timer is armed, or may not be. Conditions: a clock that is read often enough, times that may be. -/
namespace Go.Proofs.YtiblpnadninmbaaGreatDoor
open Go.RowKit Go.Shelf
attribute [local go_sem] Oper.semAt_some

theorem undrewK {w w1 : World} (h : Below w.drew.heap.size w.drew w1) : Below w.heap.size w w1 := ⟨h.os, h.tape, h.output, h.size, h.block⟩
theorem S_setK {n : Nat} {a w : World} {p : Addr} (h : Hid (Below n a w)) (hp : n ≤ p.block) (v : Value) : Hid (Below n a (w.setCell p v)) := h.out.setCell hp v
theorem S_drewK {n : Nat} {a w : World} (h : Hid (Below n a w)) : Hid (Below n a w.drew) := ⟨h.out.os, h.out.tape, h.out.output, h.out.size, h.out.block⟩
theorem S_allocK {n : Nat} {a w : World} (h : Hid (Below n a w)) (hn : n ≤ a.heap.size) (o : Obj) : Hid (Below n a (w.alloc o)) := h.out.alloc (Nat.le_trans hn h.out.size) o
set_option maxHeartbeats 8000000 in
set_option maxRecDepth 100000 in
theorem sarm_ok (last t b mn mx d : Int) (m l : Bool) (w : World) (h0 : 0 ≤ last) (h1 : last ≤ t) (h2 : t < last + 2147483648) (h3 : t ≤ 4503599627370496) (h : TmOk mn mx) (h4 : d ≤ 4503599627370496) (h5 : t < d) (h6 : aimT mn mx t d ≤ 4503599627370496) :
    Calls Tryz.prog 65 #[clv (t % 4294967296) b m l last, .agg #[.int .i64 mn, .int .i64 mx], .int .i64 d] w fun e w' => e = .returned (.tuple #[clv (t % 4294967296) (aimT mn mx t d % 4294967296) true l t, .int .u8 (aimK mn mx t d), .int .i64 0]) ∧ Below w.heap.size w w' := by
  have f1 := Lib.hid (fun X => cread_any last t b m l X h0 h1 h2 h3)
  have hk : (aimK mn mx t d == 1) = false := by
    unfold aimK
    rw [if_neg (by omega)]
    split
    · rfl
    · split <;> rfl
  have f2 := Lib.hid (fun X => plan_ok mn mx t d X h (by omega) h3 (by omega) h4 h6)
  have f4 := Lib.hid (fun X => low_any (aimT mn mx t d) X (aimT_lo h (by omega) (by omega)) h6)
  unfold clv at f1 ⊢
  obtain ⟨a, ha⟩ : ∃ a, t % 4294967296 = a := ⟨_, rfl⟩
  obtain ⟨q2, hq2⟩ : ∃ q2, aimT mn mx t d % 4294967296 = q2 := ⟨_, rfl⟩
  rw [ha] at f1 ⊢
  rw [hq2] at f4 ⊢
  have f3 := Lib.hid (fun X => arm_any a b m l q2 X)
  unfold hwv at f3
  clear hq2 h6
  generalize aimT mn mx t d = q at *
  generalize aimK mn mx t d = kk at *
  clear ha h h0 h1 h2 h3 h4 h5
  go_enter Tryz.func65, Tryz.ntmps65
  go_upto_region 1 with fail
  refine name_world fun V hV => ?_
  have HV : Hid (SaI w V a b m l last mn mx) := Lib.hid ⟨by rw [hV]; exact box_alloc (box_alloc (heap_alloc_new _ _) _) _, by rw [hV]; exact box_alloc (heap_new_at _ (by simp)) _, by rw [hV]; exact heap_new_at _ (by simp), by rw [hV]; exact (((Below.refl _ _).alloc (Nat.le_refl _) _).alloc (by simp) _).alloc (by simp; omega) _⟩
  clear hV
  obtain ⟨x0, y0⟩ := box_rules (HV.out).c
  have l0 := box_lt (HV.out).c
  obtain ⟨x1, y1⟩ := box_rules (HV.out).t
  have l1 := box_lt (HV.out).t
  obtain ⟨x2, y2⟩ := box_rules (HV.out).r
  have l2 := box_lt (HV.out).r
  go_upto_region 2 with (go_at_call 49; (with_reducible refine (f1.out _).mono ?_); rintro e w1 ⟨rfl, hb1⟩; have HV1 := Lib.hid (HV.out.below hb1); clear hb1 x0 y0 l0 x1 y1 l1 x2 y2 l2; obtain ⟨x0, y0⟩ := box_rules HV1.out.c; have l0 := box_lt HV1.out.c)
  refine name_world fun W hW => ?_
  have hs5 := set5 HV1.out.c rfl (.int .u32 a) (.int .u32 b) (.bool m) (.bool l) (.int .i64 t)
  rw [← hW] at hs5
  have HV2 := Lib.hid (HV1.out.turn hs5.2 hs5.1)
  clear hW hs5 x0 y0 l0
  obtain ⟨x0, y0⟩ := box_rules (HV2.out).c
  have l0 := box_lt (HV2.out).c
  obtain ⟨x1, y1⟩ := box_rules (HV2.out).t
  have l1 := box_lt (HV2.out).t
  obtain ⟨x2, y2⟩ := box_rules (HV2.out).r
  have l2 := box_lt (HV2.out).r
  go_upto_region 7 with (go_at_call 86; (with_reducible refine (f2.out _).mono ?_); rintro e w2 ⟨rfl, hb2⟩; have HV3 := Lib.hid (HV2.out.below hb2); clear hb2)
  clear x0 y0 l0 x1 y1 l1 x2 y2 l2
  obtain ⟨x0, y0⟩ := box_rules (HV3.out).c
  have l0 := box_lt (HV3.out).c
  obtain ⟨x1, y1⟩ := box_rules (HV3.out).t
  have l1 := box_lt (HV3.out).t
  obtain ⟨x2, y2⟩ := box_rules (HV3.out).r
  have l2 := box_lt (HV3.out).r
  go_upto_region 9 with fail
  go_region_with ((first
    | (go_at_call 36; (with_reducible refine (f4.out _).mono ?_); rintro e w9 ⟨rfl, rfl⟩)
    | (go_at_call 66; (with_reducible refine (f3.out _).mono ?_); rintro e w3 ⟨rfl, hb3⟩; have HV4 := Lib.hid (HV3.out.below (undrew hb3)); have HS4 := Lib.hid HV4.out.bel; clear hb3; obtain ⟨x4, y4⟩ := box_rules HV4.out.c; have l4 := box_lt HV4.out.c)))
  all_goals
    go_upto_region 10 with fail
    clear x0 y0 l0 x1 y1 l1 x2 y2 l2
    refine name_world fun X hX => ?_
    have hTX : Tn [w.heap.size] w3 X := by rw [hX]; exact ((((Tn.refl _ _).setCell (p := ⟨w.heap.size, 0, none⟩) (by simp) _).setCell (p := ⟨w.heap.size, 1, none⟩) (by simp) _).setCell (p := ⟨w.heap.size, 2, none⟩) (by simp) _).setCell (p := ⟨w.heap.size, 3, none⟩) (by simp) _
    have HV5 : Hid (SaI w X a q2 true l t mn mx) := Lib.hid (HV4.out.turn hTX (by rw [hX]; exact box_set (i := 3) (box_set (i := 2) (box_set (i := 1) (box_set (i := 0) HV4.out.c _) _) _) _))
    clear hX hTX x4 y4 l4
    obtain ⟨x0, y0⟩ := box_rules (HV5.out).c
    have l0 := box_lt (HV5.out).c
    obtain ⟨x1, y1⟩ := box_rules (HV5.out).t
    have l1 := box_lt (HV5.out).t
    obtain ⟨x2, y2⟩ := box_rules (HV5.out).r
    have l2 := box_lt (HV5.out).r
    go_wp2
    refine name_post fun V4 hV4 => ?_
    obtain ⟨hE4, hT4⟩ := set5 HV5.out.r rfl (.int .u32 a) (.int .u32 q2) (.bool true) (.bool l) (.int .i64 t)
    rw [← hV4] at hE4 hT4
    obtain ⟨vx, vy⟩ := box_rules hE4
    clear hV4
    refine bodyPost_ret (v := .tuple #[.agg #[.int .u32 a, .int .u32 q2, .bool true, .bool l, .int .i64 t], .int .u8 kk, .int .i64 0]) (by simp [results, Tryz.f65, go_sem, vx]) rfl ?_
    exact ⟨rfl, hT4.base HV5.out.bel (fun k hk => by obtain rfl := List.mem_singleton.1 hk; omega) HV5.out.bel.size⟩
/-- Arm where the plan is behind the last time. -/
theorem aim_late {mn mx t d : Int} (h3 : t ≤ 4503599627370496) (h6 : ¬ aimT mn mx t d ≤ 4503599627370496) : t < d := by
  unfold aimT at h6
  split at h6
  · omega
  · omega
set_option maxHeartbeats 8000000 in
set_option maxRecDepth 100000 in
theorem sarm_late (last t b mn mx d : Int) (m l : Bool) (w : World) (h0 : 0 ≤ last) (h1 : last ≤ t) (h2 : t < last + 2147483648) (h3 : t ≤ 4503599627370496) (h : TmOk mn mx) (h4 : d ≤ 4503599627370496) (h5 : 0 ≤ d) (h6 : ¬ aimT mn mx t d ≤ 4503599627370496) :
    Calls Tryz.prog 65 #[clv (t % 4294967296) b m l last, .agg #[.int .i64 mn, .int .i64 mx], .int .i64 d] w fun e w' => e = .returned (.tuple #[clv 0 0 false false 0, .int .u8 0, .int .i64 6]) ∧ Below w.heap.size w w' := by
  have f1 := Lib.hid (fun X => cread_any last t b m l X h0 h1 h2 h3)
  have f2 := Lib.hid (fun X => plan_late mn mx t d X h (by omega) h3 h5 h4 h6)
  unfold clv at f1 ⊢
  obtain ⟨a, ha⟩ : ∃ a, t % 4294967296 = a := ⟨_, rfl⟩
  rw [ha] at f1 ⊢
  clear h6
  clear ha h h0 h1 h2 h3 h4 h5
  go_enter Tryz.func65, Tryz.ntmps65
  go_upto_region 1 with fail
  refine name_world fun V hV => ?_
  have HV : Hid (SaI w V a b m l last mn mx) := Lib.hid ⟨by rw [hV]; exact box_alloc (box_alloc (heap_alloc_new _ _) _) _, by rw [hV]; exact box_alloc (heap_new_at _ (by simp)) _, by rw [hV]; exact heap_new_at _ (by simp), by rw [hV]; exact (((Below.refl _ _).alloc (Nat.le_refl _) _).alloc (by simp) _).alloc (by simp; omega) _⟩
  clear hV
  obtain ⟨x0, y0⟩ := box_rules (HV.out).c
  have l0 := box_lt (HV.out).c
  obtain ⟨x1, y1⟩ := box_rules (HV.out).t
  have l1 := box_lt (HV.out).t
  obtain ⟨x2, y2⟩ := box_rules (HV.out).r
  have l2 := box_lt (HV.out).r
  go_upto_region 2 with (go_at_call 49; (with_reducible refine (f1.out _).mono ?_); rintro e w1 ⟨rfl, hb1⟩; have HV1 := Lib.hid (HV.out.below hb1); clear hb1 x0 y0 l0 x1 y1 l1 x2 y2 l2; obtain ⟨x0, y0⟩ := box_rules HV1.out.c; have l0 := box_lt HV1.out.c)
  refine name_world fun W hW => ?_
  have hs5 := set5 HV1.out.c rfl (.int .u32 a) (.int .u32 b) (.bool m) (.bool l) (.int .i64 t)
  rw [← hW] at hs5
  have HV2 := Lib.hid (HV1.out.turn hs5.2 hs5.1)
  clear hW hs5 x0 y0 l0
  obtain ⟨x0, y0⟩ := box_rules (HV2.out).c
  have l0 := box_lt (HV2.out).c
  obtain ⟨x1, y1⟩ := box_rules (HV2.out).t
  have l1 := box_lt (HV2.out).t
  obtain ⟨x2, y2⟩ := box_rules (HV2.out).r
  have l2 := box_lt (HV2.out).r
  go_upto_region 5 with (go_at_call 86; (with_reducible refine (f2.out _).mono ?_); rintro e w2 ⟨rfl, hb2⟩; have HV3 := Lib.hid (HV2.out.below hb2); clear hb2)
  clear x0 y0 l0 x1 y1 l1 x2 y2 l2
  obtain ⟨x0, y0⟩ := box_rules (HV3.out).c
  have l0 := box_lt (HV3.out).c
  obtain ⟨x1, y1⟩ := box_rules (HV3.out).t
  have l1 := box_lt (HV3.out).t
  obtain ⟨x2, y2⟩ := box_rules (HV3.out).r
  have l2 := box_lt (HV3.out).r
  go_wp2
  refine name_post fun V4 hV4 => ?_
  obtain ⟨hE4, hT4⟩ := set5 HV3.out.r rfl (.int .u32 0) (.int .u32 0) (.bool false) (.bool false) (.int .i64 0)
  rw [← hV4] at hE4 hT4
  obtain ⟨vx, vy⟩ := box_rules hE4
  clear hV4
  refine bodyPost_ret (v := .tuple #[.agg #[.int .u32 0, .int .u32 0, .bool false, .bool false, .int .i64 0], .int .u8 0, .int .i64 6]) (by simp [results, Tryz.f65, go_sem, vx]) rfl ?_
  exact ⟨rfl, hT4.base HV3.out.bel (fun k hk => by obtain rfl := List.mem_singleton.1 hk; omega) HV3.out.bel.size⟩
end Go.Proofs.YtiblpnadninmbaaGreatDoor

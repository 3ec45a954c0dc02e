/- Package vergeref08: the walks of Next, New and Same. Conditions: lists that read. -/
import Derived.Test.YtiblpnadninmbaaGreatDoorRhBY
namespace Go.Proofs.YtiblpnadninmbaaGreatDoor
open Go.RowKit Go.Shelf
attribute [local go_sem] Oper.semAt_some
def nxR (L : List Du) : Int := minD (L.getD 0 du0).at' L
set_option maxHeartbeats 4000000 in
set_option maxRecDepth 100000 in
theorem rnext_any (now : Int) (room : Nat) (L : List Du) (A : Option Addr) (c : Nat) (w : World) (hl : L.length ≤ 1048576) (hr : Rd w A (L.flatMap duc)) :
    Calls Tryz.prog 59 #[rwv now room A L.length c] w fun e w' => e = .returned (if L = [] then .tuple #[.int .i64 0, .bool false] else .tuple #[.int .i64 (nxR L), .bool true]) ∧ Below w.heap.size w w' := by
  have HR := Lib.hid hr
  by_cases hne : L = []
  · subst hne
    rw [if_pos rfl]
    have t0 : (((([] : List Du).length : Nat) : Int) == 0) = true := rfl
    have t1 : ([] : List Du).length = 0 := rfl
    unfold rwv
    rw [t1]
    go_enter Tryz.func59, Tryz.ntmps59
    go_wp2
    go_ret2
    exact ⟨rfl, (Below.refl _ _).alloc (Nat.le_refl _) _⟩
  · rw [if_neg hne]
    have h0 : 0 < L.length := List.length_pos_iff.2 hne
    have t0 : ((L.length : Int) == 0) = false := beq_eq_false_iff_ne.2 (by omega)
    obtain ⟨q, hq⟩ : ∃ q, nxR L = q := ⟨_, rfl⟩
    obtain ⟨x, hx⟩ : ∃ x, L.getD 0 du0 = x := ⟨_, rfl⟩
    have HX := Lib.hid hx
    have HQ : Hid (minD x.at' (L.drop 0) = q) := Lib.hid (by rw [← hx]; exact hq)
    rw [hq]
    clear hq hx hr hne
    unfold rwv
    go_enter Tryz.func59, Tryz.ntmps59
    go_upto_region 1 with fail
    refine name_world fun V hV => ?_
    have HBV : Hid (Below w.heap.size w V) := Lib.hid (by rw [hV]; exact (Below.refl _ _).alloc (Nat.le_refl _) _)
    have HX0 : Hid (V.heap[w.heap.size]? = some (.cells #[.int .i64 now, .int .i64 room, .slice A L.length c] 32 (0, 0))) := Lib.hid (by rw [hV]; exact heap_alloc_new _ _)
    clear hV
    obtain ⟨xx, xy⟩ := box_rules HX0.out
    obtain ⟨a, x', rfl, hx', g0, g1⟩ := (HR.out.below HBV.out).duAt h0
    obtain rfl : x' = x := hx'.symm.trans HX.out
    clear hx' HX
    obtain ⟨x0, x1⟩ := x'
    dsimp only at *
    rw [show a.add (0 * 2) = a from by unfold Addr.add; simp] at g0 g1
    go_wp2
    go_loopw [4, 19] (fun t i wr => ∃ (k : Nat) (u : Int), k ≤ L.length ∧ i = .int .i64 k ∧ t = .int .i64 u ∧ Hid (minD u (L.drop k) = q) ∧ Hid (Below w.heap.size w wr)) (fun _ i _ => L.length - (intOf i).toNat)
    case atStart => exact ⟨0, x1, by omega, rfl, rfl, HQ, HBV⟩
    case round =>
      obtain ⟨k, u, hk, rfl, rfl, HG, HB⟩ := hrel
      have hsz := HB.out.size
      clear g0 g1 xx xy
      by_cases hlt : k < L.length
      · obtain ⟨a', y, ha, hy, g0, g1⟩ := (HR.out.below HB.out).duAt hlt
        cases ha
        have hdr := drop_atN (d := du0) hlt
        rw [hy] at hdr
        have HN : Hid (minD (if y.at' < u then y.at' else u) (L.drop (k + 1)) = q) := Lib.hid (by
          have h9 := HG.out
          rw [hdr] at h9
          rw [show (if y.at' < u then y.at' else u) = min u y.at' from by split <;> omega]
          exact h9)
        clear hy hdr HG
        go_wp2
        refine ⟨⟨k + 1, _, by omega, by go_num, rfl, HN, Lib.hid (HB.out.alloc hsz _)⟩, ?_⟩
        simp [intOf]; omega
      · obtain rfl : k = L.length := by omega
        have HN : Hid (u = q) := Lib.hid (by
          have h9 := HG.out
          rw [List.drop_length] at h9
          exact h9)
        go_wp2
        go_ret2
        exact ⟨by rw [HN.out]; rfl, HB.out⟩
set_option maxHeartbeats 4000000 in
set_option maxRecDepth 100000 in
theorem rnew_ok (now : Int) (room : Nat) (w : World) (h0 : 0 ≤ now) (h1 : now ≤ 4503599627370496) (h2 : 1 ≤ room) (h3 : room ≤ 4096) :
    Calls Tryz.prog 37 #[.int .i64 now, .int .i64 room] w fun e w' => e = .returned (.tuple #[rwv now room none 0 0, .bool true]) ∧ Below w.heap.size w w' := by
  have f1 : Hid (∀ X, Calls Tryz.prog 57 #[.int .i64 now] X fun e w' => e = .returned (.bool true) ∧ X = w') := Lib.hid (fun X => by have := rtime_any now X; rwa [decide_eq_true ⟨h0, h1⟩] at this)
  clear h0 h1
  have t1 : decide ((room : Int) < 1) = false := by simp; omega
  have t2 : decide ((4096 : Int) < (room : Int)) = false := by simp; omega
  have t3 : decide (4096 < room) = false := by simp; omega
  have t4 : decide (room < 1) = false := by simp; omega
  unfold rwv
  go_enter Tryz.func37, Tryz.ntmps37
  go_wp2_with (go_at_call 57; (with_reducible refine (f1.out _).mono ?_); rintro e w1 ⟨rfl, rfl⟩)
  refine name_post fun V4 hV4 => ?_
  have HB4 : Hid (Below w.heap.size w V4) := Lib.hid (by rw [hV4]; exact (Below.refl _ _).alloc (Nat.le_refl _) _)
  have hE4 : V4.heap[w.heap.size]? = some (.cells #[.int .i64 now, .int .i64 room, .slice none 0 0] 32 (0, 0)) := by rw [hV4]; exact heap_alloc_new _ _
  obtain ⟨vx, vy⟩ := box_rules hE4
  clear hV4
  refine bodyPost_ret (v := .tuple #[.agg #[.int .i64 now, .int .i64 room, .slice none 0 0], .bool true]) (by simp [results, Tryz.f37, go_sem, vx]) rfl ?_
  exact ⟨rfl, HB4.out⟩
set_option maxHeartbeats 4000000 in
set_option maxRecDepth 100000 in
theorem rnew_bad (now room : Int) (w : World) (h : ¬ ((0 ≤ now ∧ now ≤ 4503599627370496) ∧ 1 ≤ room ∧ room ≤ 4096)) :
    Calls Tryz.prog 37 #[.int .i64 now, .int .i64 room] w fun e w' => e = .returned (.tuple #[rwv 0 0 none 0 0, .bool false]) ∧ Below w.heap.size w w' := by
  unfold rwv
  by_cases ht : 0 ≤ now ∧ now ≤ 4503599627370496
  · have f1 : Hid (∀ X, Calls Tryz.prog 57 #[.int .i64 now] X fun e w' => e = .returned (.bool true) ∧ X = w') := Lib.hid (fun X => by have := rtime_any now X; rwa [decide_eq_true ht] at this)
    by_cases hr : room < 1
    · have t1 : decide (room < 1) = true := by simpa using hr
      clear h ht
      go_enter Tryz.func37, Tryz.ntmps37
      go_wp2_with (go_at_call 57; (with_reducible refine (f1.out _).mono ?_); rintro e w1 ⟨rfl, rfl⟩)
      refine name_post fun V4 hV4 => ?_
      have HB4 : Hid (Below w.heap.size w V4) := Lib.hid (by rw [hV4]; exact (Below.refl _ _).alloc (Nat.le_refl _) _)
      have hE4 : V4.heap[w.heap.size]? = some (.cells #[.int .i64 0, .int .i64 0, .slice none 0 0] 32 (0, 0)) := by rw [hV4]; exact heap_alloc_new _ _
      obtain ⟨vx, vy⟩ := box_rules hE4
      clear hV4
      refine bodyPost_ret (v := .tuple #[.agg #[.int .i64 0, .int .i64 0, .slice none 0 0], .bool false]) (by simp [results, Tryz.f37, go_sem, vx]) rfl ?_
      exact ⟨rfl, HB4.out⟩
    · have hr2 : 4096 < room := by omega
      have t1 : decide (room < 1) = false := by simpa using hr
      have t2 : decide (4096 < room) = true := by simpa using hr2
      clear h ht
      go_enter Tryz.func37, Tryz.ntmps37
      go_wp2_with (go_at_call 57; (with_reducible refine (f1.out _).mono ?_); rintro e w1 ⟨rfl, rfl⟩)
      refine name_post fun V4 hV4 => ?_
      have HB4 : Hid (Below w.heap.size w V4) := Lib.hid (by rw [hV4]; exact (Below.refl _ _).alloc (Nat.le_refl _) _)
      have hE4 : V4.heap[w.heap.size]? = some (.cells #[.int .i64 0, .int .i64 0, .slice none 0 0] 32 (0, 0)) := by rw [hV4]; exact heap_alloc_new _ _
      obtain ⟨vx, vy⟩ := box_rules hE4
      clear hV4
      refine bodyPost_ret (v := .tuple #[.agg #[.int .i64 0, .int .i64 0, .slice none 0 0], .bool false]) (by simp [results, Tryz.f37, go_sem, vx]) rfl ?_
      exact ⟨rfl, HB4.out⟩
  · have f1 : Hid (∀ X, Calls Tryz.prog 57 #[.int .i64 now] X fun e w' => e = .returned (.bool false) ∧ X = w') := Lib.hid (fun X => by have := rtime_any now X; rwa [decide_eq_false ht] at this)
    clear h ht
    go_enter Tryz.func37, Tryz.ntmps37
    go_wp2_with (go_at_call 57; (with_reducible refine (f1.out _).mono ?_); rintro e w1 ⟨rfl, rfl⟩)
    refine name_post fun V4 hV4 => ?_
    have HB4 : Hid (Below w.heap.size w V4) := Lib.hid (by rw [hV4]; exact (Below.refl _ _).alloc (Nat.le_refl _) _)
    have hE4 : V4.heap[w.heap.size]? = some (.cells #[.int .i64 0, .int .i64 0, .slice none 0 0] 32 (0, 0)) := by rw [hV4]; exact heap_alloc_new _ _
    obtain ⟨vx, vy⟩ := box_rules hE4
    clear hV4
    refine bodyPost_ret (v := .tuple #[.agg #[.int .i64 0, .int .i64 0, .slice none 0 0], .bool false]) (by simp [results, Tryz.f37, go_sem, vx]) rfl ?_
    exact ⟨rfl, HB4.out⟩
end Go.Proofs.YtiblpnadninmbaaGreatDoor

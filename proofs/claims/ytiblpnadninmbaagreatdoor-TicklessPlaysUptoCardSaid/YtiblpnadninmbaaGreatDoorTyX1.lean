/- Package vergeref04: the walks of Check, Plan. Conditions: times that may be. -/
import Derived.Test.YtiblpnadninmbaaGreatDoorTkX2Y
import Derived.Test.YtiblpnadninmbaaGreatDoorTrX2zY
import Derived.Test.YtiblpnadninmbaaGreatDoorKitK
import Derived.Deep.CutBlock
namespace Go.Proofs.YtiblpnadninmbaaGreatDoor
open Go.RowKit Go.Shelf
attribute [local go_sem] Oper.semAt_some
set_option maxHeartbeats 4000000 in
theorem rcheck_any (mn mx : Int) (w : World) (h : TmOk mn mx) : Calls Tryz.prog 19 #[.agg #[.int .i64 mn, .int .i64 mx]] w fun e w' => e = .returned (.int .i64 0) ∧ Below w.heap.size w w' := by
  obtain ⟨h1, h2, h3⟩ := h
  have e1 : ¬ mn < 1 := by omega
  have e2 : ¬ 2147483648 ≤ mx := by omega
  have e3 : mx.tdiv 2 = mx / 2 := Int.tdiv_eq_ediv_of_nonneg (by omega)
  have e4 : wrap64 (mx / 2) = mx / 2 := Go.IntWalk.wrap64_in _ (by omega)
  have e5 : ¬ mx / 2 < mn := by omega
  go_enter Tryz.func19, Tryz.ntmps19
  go_wp2
  go_ret
  exact ⟨rfl, (Below.refl _ _).alloc (Nat.le_refl _) _⟩
set_option maxHeartbeats 4000000 in
theorem rcheck_bad (mn mx : Int) (w : World) (h : ¬ TmOk mn mx) (hx : I64N mx) : Calls Tryz.prog 19 #[.agg #[.int .i64 mn, .int .i64 mx]] w fun e w' => e = .returned (.int .i64 2) ∧ Below w.heap.size w w' := by
  unfold I64N at hx
  by_cases c1 : mn < 1
  · clear h
    go_enter Tryz.func19, Tryz.ntmps19
    go_wp2
    go_ret
    exact ⟨rfl, (Below.refl _ _).alloc (Nat.le_refl _) _⟩
  · by_cases c2 : 2147483648 ≤ mx
    · clear h
      go_enter Tryz.func19, Tryz.ntmps19
      go_wp2
      go_ret
      exact ⟨rfl, (Below.refl _ _).alloc (Nat.le_refl _) _⟩
    · obtain ⟨d, hd, hdl, hdb, hdu⟩ : ∃ d, mx.tdiv 2 = d ∧ d < mn ∧ -4611686018427387904 ≤ d ∧ d ≤ 2147483648 := by
        by_cases hp : 0 ≤ mx
        · have hn : ¬ mn ≤ mx / 2 := fun h9 => h ⟨by omega, by omega, h9⟩
          exact ⟨mx / 2, Int.tdiv_eq_ediv_of_nonneg hp, by omega, by omega, by omega⟩
        · have e : mx.tdiv 2 = -((-mx) / 2) := by
            have h1 := Int.tdiv_eq_ediv_of_nonneg (a := -mx) (b := 2) (by omega)
            rw [Int.neg_tdiv] at h1
            omega
          exact ⟨-((-mx) / 2), e, by omega, by omega, by omega⟩
      have e4 : wrap64 d = d := Go.IntWalk.wrap64_in _ (by omega)
      clear h
      go_enter Tryz.func19, Tryz.ntmps19
      go_wp2
      go_ret
      exact ⟨rfl, (Below.refl _ _).alloc (Nat.le_refl _) _⟩
set_option maxHeartbeats 8000000 in
set_option maxRecDepth 100000 in
theorem rplan_ok (mn mx now d : Int) (w : World) (h : TmOk mn mx) (h0 : 0 ≤ now) (h1 : now ≤ 4503599627370496) (h2 : 0 ≤ d) (h3 : d ≤ 4503599627370496) (h4 : aimT mn mx now d ≤ 4503599627370496) :
    Calls Tryz.prog 60 #[.agg #[.int .i64 mn, .int .i64 mx], .int .i64 now, .int .i64 d] w fun e w' => e = .returned (.tuple #[.int .u8 (aimK mn mx now d), .int .i64 (aimT mn mx now d), .int .i64 0]) ∧ Below w.heap.size w w' := by
  have f1 := Lib.hid (fun X => rcheck_any mn mx X h)
  have f2 := Lib.hid (fun X => rtime_any now X)
  rw [decide_eq_true (show 0 ≤ now ∧ now ≤ 4503599627370496 from ⟨h0, h1⟩)] at f2
  have f3 := Lib.hid (fun X => rtime_any d X)
  rw [decide_eq_true (show 0 ≤ d ∧ d ≤ 4503599627370496 from ⟨h2, h3⟩)] at f3
  have HB0 : Hid (Below w.heap.size w (w.alloc (.cells #[.int .i64 mn, .int .i64 mx] 23 (0, 0)))) := Lib.hid ((Below.refl _ _).alloc (Nat.le_refl _) _)
  obtain ⟨g1, g2, g3⟩ := h
  have e0 : wrap64 (d - now) = d - now := Go.IntWalk.wrap64_in _ (by omega)
  by_cases c1 : d - now ≤ 0
  · have hk : aimK mn mx now d = 1 := if_pos c1
    have ht : aimT mn mx now d = now := if_pos c1
    rw [hk, ht]
    clear hk ht h4
    go_enter Tryz.func60, Tryz.ntmps60
    go_upto_region 3 with (go_at_call 19; (with_reducible refine (f1.out _).mono ?_); rintro e w1 ⟨rfl, hb1⟩; have HX1 := Lib.hid (box_new hb1); have HB1 := Lib.hid (HB0.out.trans (hb1.mono HB0.out.size)); clear hb1)
    obtain ⟨x0, y0⟩ := box_rules HX1.out
    have l0 := box_lt HX1.out
    go_upto_region 5 with (first
      | (go_at_call 57; (with_reducible refine (f2.out _).mono ?_); rintro e w2 ⟨rfl, rfl⟩)
      | (go_at_call 57; (with_reducible refine (f3.out _).mono ?_); rintro e w2 ⟨rfl, rfl⟩))
    go_wp2
    refine bodyPost_ret (v := .tuple #[.int .u8 1, .int .i64 (now), .int .i64 0]) (by simp [results, Tryz.f60, go_sem]) rfl ?_
    exact ⟨rfl, HB1.out⟩
  · by_cases c2 : d - now < mn
    · have hk : aimK mn mx now d = 2 := by unfold aimK; rw [if_neg c1, if_pos c2]
      have ht : aimT mn mx now d = now + mn := by unfold aimT; rw [if_neg c1, if_pos c2]
      rw [hk, ht]
      rw [ht] at h4
      have f4 := Lib.hid (fun X => rtime_any (now + mn) X)
      rw [decide_eq_true (show 0 ≤ now + mn ∧ now + mn ≤ 4503599627370496 by omega)] at f4
      have e1 : wrap64 (now + mn) = now + mn := Go.IntWalk.wrap64_in _ (by omega)
      have e2 : IntKind.i64.wrap (now + mn) = now + mn := IntWalk.i64_in _ (by omega)
      clear hk ht
      go_enter Tryz.func60, Tryz.ntmps60
      go_upto_region 3 with (go_at_call 19; (with_reducible refine (f1.out _).mono ?_); rintro e w1 ⟨rfl, hb1⟩; have HX1 := Lib.hid (box_new hb1); have HB1 := Lib.hid (HB0.out.trans (hb1.mono HB0.out.size)); clear hb1)
      obtain ⟨x0, y0⟩ := box_rules HX1.out
      have l0 := box_lt HX1.out
      go_upto_region 5 with (first
        | (go_at_call 57; (with_reducible refine (f2.out _).mono ?_); rintro e w2 ⟨rfl, rfl⟩)
        | (go_at_call 57; (with_reducible refine (f3.out _).mono ?_); rintro e w2 ⟨rfl, rfl⟩))
      go_upto_region 11 with (go_at_call 57; (with_reducible refine (f4.out _).mono ?_); rintro e w2 ⟨rfl, rfl⟩)
      go_big_quiet (fail)
      go_wp2
      refine bodyPost_ret (v := .tuple #[.int .u8 2, .int .i64 (now + mn), .int .i64 0]) (by simp [results, Tryz.f60, go_sem]) rfl ?_
      exact ⟨rfl, (Tn.refl [] _).drewN _ |>.base HB1.out (fun b hb => by cases hb) HB1.out.size⟩
    · by_cases c3 : d - now ≤ mx
      · have hk : aimK mn mx now d = 3 := by unfold aimK; rw [if_neg c1, if_neg c2, if_pos c3]
        have ht : aimT mn mx now d = d := by unfold aimT; rw [if_neg c1, if_neg c2, if_pos c3]
        rw [hk, ht]
        clear hk ht h4
        go_enter Tryz.func60, Tryz.ntmps60
        go_upto_region 3 with (go_at_call 19; (with_reducible refine (f1.out _).mono ?_); rintro e w1 ⟨rfl, hb1⟩; have HX1 := Lib.hid (box_new hb1); have HB1 := Lib.hid (HB0.out.trans (hb1.mono HB0.out.size)); clear hb1)
        obtain ⟨x0, y0⟩ := box_rules HX1.out
        have l0 := box_lt HX1.out
        go_upto_region 5 with (first
          | (go_at_call 57; (with_reducible refine (f2.out _).mono ?_); rintro e w2 ⟨rfl, rfl⟩)
          | (go_at_call 57; (with_reducible refine (f3.out _).mono ?_); rintro e w2 ⟨rfl, rfl⟩))
        go_wp2
        refine bodyPost_ret (v := .tuple #[.int .u8 3, .int .i64 (d), .int .i64 0]) (by simp [results, Tryz.f60, go_sem]) rfl ?_
        exact ⟨rfl, HB1.out⟩
      · have hk : aimK mn mx now d = 4 := by unfold aimK; rw [if_neg c1, if_neg c2, if_neg c3]
        have e6 : wrap64 (d - now - mx) = d - now - mx := Go.IntWalk.wrap64_in _ (by omega)
        by_cases c4 : mn ≤ d - now - mx
        · have ht : aimT mn mx now d = now + mx := by unfold aimT; rw [if_neg c1, if_neg c2, if_neg c3]; omega
          rw [hk, ht]
          have e2 : IntKind.i64.wrap (now + mx) = now + mx := IntWalk.i64_in _ (by omega)
          clear hk ht h4
          go_enter Tryz.func60, Tryz.ntmps60
          go_upto_region 3 with (go_at_call 19; (with_reducible refine (f1.out _).mono ?_); rintro e w1 ⟨rfl, hb1⟩; have HX1 := Lib.hid (box_new hb1); have HB1 := Lib.hid (HB0.out.trans (hb1.mono HB0.out.size)); clear hb1)
          obtain ⟨x0, y0⟩ := box_rules HX1.out
          have l0 := box_lt HX1.out
          go_upto_region 5 with (first
            | (go_at_call 57; (with_reducible refine (f2.out _).mono ?_); rintro e w2 ⟨rfl, rfl⟩)
            | (go_at_call 57; (with_reducible refine (f3.out _).mono ?_); rintro e w2 ⟨rfl, rfl⟩))
          go_upto_region 15 with fail
          go_big_quiet (fail)
          go_wp2
          refine bodyPost_ret (v := .tuple #[.int .u8 4, .int .i64 (now + mx), .int .i64 0]) (by simp [results, Tryz.f60, go_sem]) rfl ?_
          exact ⟨rfl, (Tn.refl [] _).drewN _ |>.base HB1.out (fun b hb => by cases hb) HB1.out.size⟩
        · have ht : aimT mn mx now d = d - mn := by unfold aimT; rw [if_neg c1, if_neg c2, if_neg c3]; omega
          rw [hk, ht]
          have e2 : IntKind.i64.wrap (d - mn) = d - mn := IntWalk.i64_in _ (by omega)
          clear hk ht h4
          go_enter Tryz.func60, Tryz.ntmps60
          go_upto_region 3 with (go_at_call 19; (with_reducible refine (f1.out _).mono ?_); rintro e w1 ⟨rfl, hb1⟩; have HX1 := Lib.hid (box_new hb1); have HB1 := Lib.hid (HB0.out.trans (hb1.mono HB0.out.size)); clear hb1)
          obtain ⟨x0, y0⟩ := box_rules HX1.out
          have l0 := box_lt HX1.out
          go_upto_region 5 with (first
            | (go_at_call 57; (with_reducible refine (f2.out _).mono ?_); rintro e w2 ⟨rfl, rfl⟩)
            | (go_at_call 57; (with_reducible refine (f3.out _).mono ?_); rintro e w2 ⟨rfl, rfl⟩))
          go_upto_region 16 with fail
          go_big_quiet (fail)
          go_wp2
          refine bodyPost_ret (v := .tuple #[.int .u8 4, .int .i64 (d - mn), .int .i64 0]) (by simp [results, Tryz.f60, go_sem]) rfl ?_
          exact ⟨rfl, (Tn.refl [] _).drewN _ |>.base HB1.out (fun b hb => by cases hb) HB1.out.size⟩
set_option maxHeartbeats 8000000 in
set_option maxRecDepth 100000 in
theorem rplan_late (mn mx now d : Int) (w : World) (h : TmOk mn mx) (h0 : 0 ≤ now) (h1 : now ≤ 4503599627370496) (h2 : 0 ≤ d) (h3 : d ≤ 4503599627370496) (h4 : ¬ aimT mn mx now d ≤ 4503599627370496) :
    Calls Tryz.prog 60 #[.agg #[.int .i64 mn, .int .i64 mx], .int .i64 now, .int .i64 d] w fun e w' => e = .returned (.tuple #[.int .u8 0, .int .i64 0, .int .i64 6]) ∧ Below w.heap.size w w' := by
  have f1 := Lib.hid (fun X => rcheck_any mn mx X h)
  have f2 := Lib.hid (fun X => rtime_any now X)
  rw [decide_eq_true (show 0 ≤ now ∧ now ≤ 4503599627370496 from ⟨h0, h1⟩)] at f2
  have f3 := Lib.hid (fun X => rtime_any d X)
  rw [decide_eq_true (show 0 ≤ d ∧ d ≤ 4503599627370496 from ⟨h2, h3⟩)] at f3
  have HB0 : Hid (Below w.heap.size w (w.alloc (.cells #[.int .i64 mn, .int .i64 mx] 23 (0, 0)))) := Lib.hid ((Below.refl _ _).alloc (Nat.le_refl _) _)
  obtain ⟨g1, g2, g3⟩ := h
  have e0 : wrap64 (d - now) = d - now := Go.IntWalk.wrap64_in _ (by omega)
  have c1 : ¬ d - now ≤ 0 := fun h9 => h4 (by unfold aimT; rw [if_pos h9]; exact h1)
  have c2 : d - now < mn := by
    by_cases c2 : d - now < mn
    · exact c2
    · exfalso
      refine h4 ?_
      unfold aimT
      rw [if_neg c1, if_neg c2]
      split <;> omega
  have ht : aimT mn mx now d = now + mn := by unfold aimT; rw [if_neg c1, if_pos c2]
  rw [ht] at h4
  have f4 := Lib.hid (fun X => rtime_any (now + mn) X)
  rw [decide_eq_false (fun h9 => h4 h9.2)] at f4
  have e1 : wrap64 (now + mn) = now + mn := Go.IntWalk.wrap64_in _ (by omega)
  clear ht h4
  go_enter Tryz.func60, Tryz.ntmps60
  go_upto_region 3 with (go_at_call 19; (with_reducible refine (f1.out _).mono ?_); rintro e w1 ⟨rfl, hb1⟩; have HX1 := Lib.hid (box_new hb1); have HB1 := Lib.hid (HB0.out.trans (hb1.mono HB0.out.size)); clear hb1)
  obtain ⟨x0, y0⟩ := box_rules HX1.out
  have l0 := box_lt HX1.out
  go_upto_region 5 with (first
    | (go_at_call 57; (with_reducible refine (f2.out _).mono ?_); rintro e w2 ⟨rfl, rfl⟩)
    | (go_at_call 57; (with_reducible refine (f3.out _).mono ?_); rintro e w2 ⟨rfl, rfl⟩))
  go_wp2_with (go_at_call 57; (with_reducible refine (f4.out _).mono ?_); rintro e w2 ⟨rfl, rfl⟩)
  refine bodyPost_ret (v := .tuple #[.int .u8 0, .int .i64 (0), .int .i64 6]) (by simp [results, Tryz.f60, go_sem]) rfl ?_
  exact ⟨rfl, HB1.out⟩
end Go.Proofs.YtiblpnadninmbaaGreatDoor
/- Package vergeref10: the walk of look. Conditions: lists that read, times that may be. -/
namespace Go.Proofs.YtiblpnadninmbaaGreatDoor
open Go.RowKit Go.Shelf
attribute [local go_sem] Oper.semAt_some
/-- A service of the document's. -/
def rsv (now room : Int) (A : Option Addr) (n c : Nat) (Q : Option Addr) (m d : Nat) (mn mx : Int) (ar : Bool) (goal wk : Int) : Value :=
  .agg #[.int .i64 now, .int .i64 room, .slice A n c, .slice Q m d, .int .i64 mn, .int .i64 mx, .bool ar, .int .i64 goal, .int .i64 wk]
theorem tsetR {F : List Nat} {w w' : World} {k i : Nat} (h : Tn F w w') (hk : k ∈ F) (v : Value) : Tn F w (w'.setCell ⟨k, i, none⟩ v) := h.setCell (p := ⟨k, i, none⟩) hk v
theorem set9 {U : World} {b : Nat} {t : TypeId} {c0 c1 c2 c3 c4 c5 c6 c7 c8 : Value} (h : U.heap[b]? = some (.cells #[c0, c1, c2, c3, c4, c5, c6, c7, c8] t (0, 0))) (v0 v1 v2 v3 v4 v5 v6 v7 v8 : Value) :
    (((((((((U.setCell ⟨b, 0, none⟩ v0).setCell ⟨b, 1, none⟩ v1).setCell ⟨b, 2, none⟩ v2).setCell ⟨b, 3, none⟩ v3).setCell ⟨b, 4, none⟩ v4).setCell ⟨b, 5, none⟩ v5).setCell ⟨b, 6, none⟩ v6).setCell ⟨b, 7, none⟩ v7).setCell ⟨b, 8, none⟩ v8).heap[b]? = some (.cells #[v0, v1, v2, v3, v4, v5, v6, v7, v8] t (0, 0)) ∧ Tn [b] U (((((((((U.setCell ⟨b, 0, none⟩ v0).setCell ⟨b, 1, none⟩ v1).setCell ⟨b, 2, none⟩ v2).setCell ⟨b, 3, none⟩ v3).setCell ⟨b, 4, none⟩ v4).setCell ⟨b, 5, none⟩ v5).setCell ⟨b, 6, none⟩ v6).setCell ⟨b, 7, none⟩ v7).setCell ⟨b, 8, none⟩ v8) := by
  have hm : b ∈ [b] := by simp
  have h0 := box_set (i := 0) h v0
  simp only [List.setIfInBounds_toArray, List.set_cons_zero] at h0
  have t0 := tsetR (i := 0) (Tn.refl [b] U) hm v0
  have h1 := box_set (i := 1) h0 v1
  simp only [List.setIfInBounds_toArray, List.set_cons_zero, List.set_cons_succ] at h1
  have t1 := tsetR (i := 1) t0 hm v1
  have h2 := box_set (i := 2) h1 v2
  simp only [List.setIfInBounds_toArray, List.set_cons_zero, List.set_cons_succ] at h2
  have t2 := tsetR (i := 2) t1 hm v2
  have h3 := box_set (i := 3) h2 v3
  simp only [List.setIfInBounds_toArray, List.set_cons_zero, List.set_cons_succ] at h3
  have t3 := tsetR (i := 3) t2 hm v3
  have h4 := box_set (i := 4) h3 v4
  simp only [List.setIfInBounds_toArray, List.set_cons_zero, List.set_cons_succ] at h4
  have t4 := tsetR (i := 4) t3 hm v4
  have h5 := box_set (i := 5) h4 v5
  simp only [List.setIfInBounds_toArray, List.set_cons_zero, List.set_cons_succ] at h5
  have t5 := tsetR (i := 5) t4 hm v5
  have h6 := box_set (i := 6) h5 v6
  simp only [List.setIfInBounds_toArray, List.set_cons_zero, List.set_cons_succ] at h6
  have t6 := tsetR (i := 6) t5 hm v6
  have h7 := box_set (i := 7) h6 v7
  simp only [List.setIfInBounds_toArray, List.set_cons_zero, List.set_cons_succ] at h7
  have t7 := tsetR (i := 7) t6 hm v7
  have h8 := box_set (i := 8) h7 v8
  simp only [List.setIfInBounds_toArray, List.set_cons_zero, List.set_cons_succ] at h8
  have t8 := tsetR (i := 8) t7 hm v8
  exact ⟨h8, t8⟩
/-- A call's boxes: its service, the result. -/
structure RsS (w V : World) (now room : Int) (A : Option Addr) (n c : Nat) (Q : Option Addr) (m d : Nat) (mn mx : Int) (ar : Bool) (goal wk : Int) : Prop where
  b0 : V.heap[w.heap.size]? = some (.cells #[.int .i64 now, .int .i64 room, .slice A n c, .slice Q m d, .int .i64 mn, .int .i64 mx, .bool ar, .int .i64 goal, .int .i64 wk] 37 (0, 0))
  b1 : V.heap[w.heap.size + 1]? = some (.cells #[.int .i64 0, .int .i64 0, .slice none 0 0, .slice none 0 0, .int .i64 0, .int .i64 0, .bool false, .int .i64 0, .int .i64 0] 37 (0, 0))
  bel : Below w.heap.size w V
  sz : w.heap.size + 2 ≤ V.heap.size
section
variable {w V X : World} {now room : Int} {A : Option Addr} {n c : Nat} {Q : Option Addr} {m d : Nat} {mn mx : Int} {ar : Bool} {goal wk : Int}
theorem RsS.below (h : RsS w V now room A n c Q m d mn mx ar goal wk) (hb : Below V.heap.size V X) : RsS w X now room A n c Q m d mn mx ar goal wk :=
  ⟨box_keep h.b0 hb, box_keep h.b1 hb, h.bel.trans (hb.mono h.bel.size), Nat.le_trans h.sz hb.size⟩
theorem RsS.mk0 (w : World) (now room : Int) (A : Option Addr) (n c : Nat) (Q : Option Addr) (m d : Nat) (mn mx : Int) (ar : Bool) (goal wk : Int) :
    RsS w ((w.alloc (.cells #[.int .i64 now, .int .i64 room, .slice A n c, .slice Q m d, .int .i64 mn, .int .i64 mx, .bool ar, .int .i64 goal, .int .i64 wk] 37 (0, 0))).alloc (.cells #[.int .i64 0, .int .i64 0, .slice none 0 0, .slice none 0 0, .int .i64 0, .int .i64 0, .bool false, .int .i64 0, .int .i64 0] 37 (0, 0))) now room A n c Q m d mn mx ar goal wk :=
  ⟨box_alloc (heap_alloc_new _ _) _, heap_new_at _ (by simp), ((Below.refl _ _).alloc (Nat.le_refl _) _).alloc (by simp) _, by simp⟩
theorem RsS.turn {now' : Int} {A' : Option Addr} {n' c' : Nat} {Q' : Option Addr} {m' d' : Nat} {ar' : Bool} {goal' wk' : Int} (h : RsS w V now room A n c Q m d mn mx ar goal wk) (ht : Tn [w.heap.size] V X)
    (hb : X.heap[w.heap.size]? = some (.cells #[.int .i64 now', .int .i64 room, .slice A' n' c', .slice Q' m' d', .int .i64 mn, .int .i64 mx, .bool ar', .int .i64 goal', .int .i64 wk'] 37 (0, 0))) : RsS w X now' room A' n' c' Q' m' d' mn mx ar' goal' wk' :=
  ⟨hb, ht.box h.b1 (by simp), ht.base h.bel (fun k hk => by obtain rfl := List.mem_singleton.1 hk; exact Nat.le_refl _) h.bel.size, Nat.le_trans h.sz ht.size⟩
theorem RsS.far {F : List Nat} (h : RsS w V now room A n c Q m d mn mx ar goal wk) (ht : Tn F V X) (hF : ∀ k ∈ F, w.heap.size + 2 ≤ k) : RsS w X now room A n c Q m d mn mx ar goal wk :=
  ⟨ht.box h.b0 (fun hm => by have := hF _ hm; omega), ht.box h.b1 (fun hm => by have := hF _ hm; omega), ht.base h.bel (fun k hk => by have := hF _ hk; omega) h.bel.size, Nat.le_trans h.sz ht.size⟩
end

set_option maxHeartbeats 8000000 in
set_option maxRecDepth 100000 in
theorem rlook_none (now : Int) (room : Nat) (A : Option Addr) (c : Nat) (Q : Option Addr) (m d : Nat) (mn mx : Int) (ar : Bool) (goal wk : Int) (w : World) :
    Calls Tryz.prog 39 #[rsv now room A 0 c Q m d mn mx ar goal wk] w fun e w' => e = .returned (rsv now room A 0 c Q m d mn mx false 0 0) ∧ Below w.heap.size w w' := by
  have f1 := Lib.hid (fun X => rnext_any now room [] A c X (by simp) (fun i u hu => by simp at hu))
  rw [if_pos rfl] at f1
  unfold rwv at f1
  dsimp only [List.length_nil] at f1
  unfold rsv
  go_enter Tryz.func39, Tryz.ntmps39
  go_upto_region 1 with fail
  refine name_world fun V hV => ?_
  have HS0 : Hid (RsS w V now room A 0 c Q _ d mn mx _ _ _) := Lib.hid (by rw [hV]; exact RsS.mk0 ..)
  clear hV
  obtain ⟨x0, y0⟩ := box_rules HS0.out.b0
  have l0 := box_lt HS0.out.b0
  obtain ⟨x1, y1⟩ := box_rules HS0.out.b1
  have l1 := box_lt HS0.out.b1
  go_upto_region 2 with (go_at_call 59; (with_reducible refine (f1.out _).mono ?_); rintro e w2 ⟨rfl, hb2⟩; have HS2 := Lib.hid (HS0.out.below hb2); clear hb2 x0 y0 l0 x1 y1 l1; obtain ⟨x0, y0⟩ := box_rules HS2.out.b0; have l0 := box_lt HS2.out.b0)
  go_upto_region 4 with fail
  refine name_world fun U hU => ?_
  have hT : Tn [w.heap.size] w2 U := by rw [hU]; exact ((((Tn.refl _ _).setCell (p := ⟨w.heap.size, 6, none⟩) (by simp) _).setCell (p := ⟨w.heap.size, 7, none⟩) (by simp) _).setCell (p := ⟨w.heap.size, 8, none⟩) (by simp) _)
  have HS3 := Lib.hid (HS2.out.turn (now' := now) (A' := A) (n' := 0) (c' := c) (Q' := Q) (m' := m) (d' := d) (ar' := false) (goal' := 0) (wk' := 0) hT (by rw [hU]; exact box_set (i := 8) (box_set (i := 7) (box_set (i := 6) HS2.out.b0 _) _) _))
  clear hU hT x0 y0 l0
  obtain ⟨x0, y0⟩ := box_rules (HS3.out).b0
  have l0 := box_lt (HS3.out).b0
  obtain ⟨x1, y1⟩ := box_rules (HS3.out).b1
  have l1 := box_lt (HS3.out).b1
  go_wp2
  refine name_post fun V4 hV4 => ?_
  obtain ⟨hE4, hT4⟩ := set9 (HS3.out).b1 (.int .i64 now) (.int .i64 (room : Int)) (.slice A 0 c) (.slice Q m d) (.int .i64 mn) (.int .i64 mx) (.bool false) (.int .i64 0) (.int .i64 0)
  rw [← hV4] at hE4 hT4
  obtain ⟨vx, vy⟩ := box_rules hE4
  clear hV4
  refine bodyPost_ret (v := .agg #[.int .i64 now, .int .i64 (room : Int), .slice A 0 c, .slice Q m d, .int .i64 mn, .int .i64 mx, .bool false, .int .i64 0, .int .i64 0]) (by simp [results, Tryz.f39, go_sem, vx]) rfl ?_
  exact ⟨rfl, hT4.base HS3.out.bel (fun k hk => by obtain rfl := List.mem_singleton.1 hk; omega) HS3.out.bel.size⟩
set_option maxHeartbeats 8000000 in
set_option maxRecDepth 100000 in
theorem rlook_same (now : Int) (room : Nat) (L : List Du) (A : Option Addr) (c : Nat) (Q : Option Addr) (m d : Nat) (mn mx nx wk : Int) (w : World) (hl : L.length ≤ 1048576) (hr : Rd w A (L.flatMap duc)) (hne : L ≠ []) (hnx : nxR L = nx) :
    Calls Tryz.prog 39 #[rsv now room A L.length c Q m d mn mx true nx wk] w fun e w' => e = .returned (rsv now room A L.length c Q m d mn mx true nx wk) ∧ Below w.heap.size w w' := by
  have HR := Lib.hid hr
  have f1 := Lib.hid (fun X (hX : Rd X A (L.flatMap duc)) => rnext_any now room L A c X hl hX)
  rw [if_neg hne, hnx] at f1
  unfold rwv at f1
  clear hr hne hnx
  unfold rsv
  generalize L.length = n at *
  go_enter Tryz.func39, Tryz.ntmps39
  go_upto_region 1 with fail
  refine name_world fun V hV => ?_
  have HS0 : Hid (RsS w V now room A n c Q _ d mn mx _ _ _) := Lib.hid (by rw [hV]; exact RsS.mk0 ..)
  clear hV
  obtain ⟨x0, y0⟩ := box_rules HS0.out.b0
  have l0 := box_lt HS0.out.b0
  obtain ⟨x1, y1⟩ := box_rules HS0.out.b1
  have l1 := box_lt HS0.out.b1
  go_upto_region 2 with (go_at_call 59; (with_reducible refine (f1.out _ (HR.out.below HS0.out.bel)).mono ?_); rintro e w2 ⟨rfl, hb2⟩; have HS2 := Lib.hid (HS0.out.below hb2); clear hb2 x0 y0 l0 x1 y1 l1; obtain ⟨x0, y0⟩ := box_rules HS2.out.b0; have l0 := box_lt HS2.out.b0; obtain ⟨x1, y1⟩ := box_rules HS2.out.b1; have l1 := box_lt HS2.out.b1)
  go_wp2
  refine name_post fun V4 hV4 => ?_
  obtain ⟨hE4, hT4⟩ := set9 (HS2.out).b1 (.int .i64 now) (.int .i64 (room : Int)) (.slice A n c) (.slice Q m d) (.int .i64 mn) (.int .i64 mx) (.bool true) (.int .i64 nx) (.int .i64 wk)
  rw [← hV4] at hE4 hT4
  obtain ⟨vx, vy⟩ := box_rules hE4
  clear hV4
  refine bodyPost_ret (v := .agg #[.int .i64 now, .int .i64 (room : Int), .slice A n c, .slice Q m d, .int .i64 mn, .int .i64 mx, .bool true, .int .i64 nx, .int .i64 wk]) (by simp [results, Tryz.f39, go_sem, vx]) rfl ?_
  exact ⟨rfl, hT4.base HS2.out.bel (fun k hk => by obtain rfl := List.mem_singleton.1 hk; omega) HS2.out.bel.size⟩
set_option maxHeartbeats 8000000 in
set_option maxRecDepth 100000 in
theorem rlook_arm (now : Int) (room : Nat) (L : List Du) (A : Option Addr) (c : Nat) (Q : Option Addr) (m d : Nat) (mn mx nx : Int) (ar : Bool) (goal wk : Int) (w : World) (hl : L.length ≤ 1048576) (hr : Rd w A (L.flatMap duc)) (hne : L ≠ []) (hnx : nxR L = nx) (hno : (ar && decide (goal = nx)) = false)
    (hok : TmOk mn mx) (h0 : 0 ≤ now) (h1 : now ≤ 4503599627370496) (h2 : 0 ≤ nx) (h3 : nx ≤ 4503599627370496) :
    Calls Tryz.prog 39 #[rsv now room A L.length c Q m d mn mx ar goal wk] w fun e w' => e = .returned (rsv now room A L.length c Q m d mn mx true nx (planW mn mx now nx)) ∧ Below w.heap.size w w' := by
  have HR := Lib.hid hr
  have f1 := Lib.hid (fun X (hX : Rd X A (L.flatMap duc)) => rnext_any now room L A c X hl hX)
  rw [if_neg hne, hnx] at f1
  unfold rwv at f1
  obtain ⟨kk, tt, er, hpl, f2⟩ : ∃ (kk tt er : Int), ((er = 0 ∧ tt = planW mn mx now nx) ∨ (er = 6 ∧ planW mn mx now nx = 4503599627370496)) ∧ Hid (∀ X, Calls Tryz.prog 60 #[.agg #[.int .i64 mn, .int .i64 mx], .int .i64 now, .int .i64 nx] X fun e w' => e = .returned (.tuple #[.int .u8 kk, .int .i64 tt, .int .i64 er]) ∧ Below X.heap.size X w') := by
    unfold planW
    by_cases hq : aimT mn mx now nx ≤ 4503599627370496
    · exact ⟨_, _, _, .inl ⟨rfl, by rw [if_pos hq]⟩, Lib.hid (fun X => rplan_ok mn mx now nx X hok h0 h1 h2 h3 hq)⟩
    · exact ⟨_, _, _, .inr ⟨rfl, by rw [if_neg hq]⟩, Lib.hid (fun X => rplan_late mn mx now nx X hok h0 h1 h2 h3 hq)⟩
  generalize planW mn mx now nx = pw at *
  have HHn := Lib.hid hno
  clear hr hne hnx hok h0 h1 h2 h3 hno
  unfold rsv
  generalize L.length = n at *
  go_enter Tryz.func39, Tryz.ntmps39
  go_upto_region 1 with fail
  refine name_world fun V hV => ?_
  have HS0 : Hid (RsS w V now room A n c Q _ d mn mx _ _ _) := Lib.hid (by rw [hV]; exact RsS.mk0 ..)
  clear hV
  obtain ⟨x0, y0⟩ := box_rules HS0.out.b0
  have l0 := box_lt HS0.out.b0
  obtain ⟨x1, y1⟩ := box_rules HS0.out.b1
  have l1 := box_lt HS0.out.b1
  go_upto_region 5 with (go_at_call 59; (with_reducible refine (f1.out _ (HR.out.below HS0.out.bel)).mono ?_); rintro e w2 ⟨rfl, hb2⟩; have HS2 := Lib.hid (HS0.out.below hb2); clear hb2 x0 y0 l0 x1 y1 l1; obtain ⟨x0, y0⟩ := box_rules HS2.out.b0; have l0 := box_lt HS2.out.b0)
  go_cut [28] (fun v wx => v = .bool false ∧ w2 = wx)
  case first =>
    cases ar
    · go_wp2
      go_meet
      exact ⟨rfl, rfl⟩
    · have hg : (goal == nx) = false := by have := HHn.out; simpa using this
      go_wp2
      go_meet
      exact ⟨rfl, rfl⟩
  case rest =>
  obtain ⟨rfl, rfl⟩ := hcut
  go_upto_region 8 with (go_at_call 60; (with_reducible refine (f2.out _).mono ?_); rintro e w3 ⟨rfl, hb3⟩; have HS3 := Lib.hid (HS2.out.below hb3); clear hb3 x0 y0 l0; obtain ⟨x0, y0⟩ := box_rules HS3.out.b0; have l0 := box_lt HS3.out.b0)
  rcases hpl with ⟨rfl, rfl⟩ | ⟨rfl, rfl⟩
  · go_upto_region 11 with fail
    refine name_world fun U hU => ?_
    have hT : Tn [w.heap.size] w3 U := by rw [hU]; exact ((((Tn.refl _ _).setCell (p := ⟨w.heap.size, 6, none⟩) (by simp) _).setCell (p := ⟨w.heap.size, 7, none⟩) (by simp) _).setCell (p := ⟨w.heap.size, 8, none⟩) (by simp) _)
    have HS4 := Lib.hid (HS3.out.turn (now' := now) (A' := A) (n' := n) (c' := c) (Q' := Q) (m' := m) (d' := d) (ar' := true) (goal' := nx) (wk' := tt) hT (by rw [hU]; exact box_set (i := 8) (box_set (i := 7) (box_set (i := 6) HS3.out.b0 _) _) _))
    clear hU hT x0 y0 l0
    obtain ⟨x0, y0⟩ := box_rules (HS4.out).b0
    have l0 := box_lt (HS4.out).b0
    obtain ⟨x1, y1⟩ := box_rules (HS4.out).b1
    have l1 := box_lt (HS4.out).b1
    go_wp2
    refine name_post fun V4 hV4 => ?_
    obtain ⟨hE4, hT4⟩ := set9 (HS4.out).b1 (.int .i64 now) (.int .i64 (room : Int)) (.slice A n c) (.slice Q m d) (.int .i64 mn) (.int .i64 mx) (.bool true) (.int .i64 nx) (.int .i64 tt)
    rw [← hV4] at hE4 hT4
    obtain ⟨vx, vy⟩ := box_rules hE4
    clear hV4
    refine bodyPost_ret (v := .agg #[.int .i64 now, .int .i64 (room : Int), .slice A n c, .slice Q m d, .int .i64 mn, .int .i64 mx, .bool true, .int .i64 nx, .int .i64 tt]) (by simp [results, Tryz.f39, go_sem, vx]) rfl ?_
    exact ⟨rfl, hT4.base HS4.out.bel (fun k hk => by obtain rfl := List.mem_singleton.1 hk; omega) HS4.out.bel.size⟩
  · go_upto_region 11 with fail
    refine name_world fun U hU => ?_
    have hT : Tn [w.heap.size] w3 U := by rw [hU]; exact ((((Tn.refl _ _).setCell (p := ⟨w.heap.size, 6, none⟩) (by simp) _).setCell (p := ⟨w.heap.size, 7, none⟩) (by simp) _).setCell (p := ⟨w.heap.size, 8, none⟩) (by simp) _)
    have HS4 := Lib.hid (HS3.out.turn (now' := now) (A' := A) (n' := n) (c' := c) (Q' := Q) (m' := m) (d' := d) (ar' := true) (goal' := nx) (wk' := 4503599627370496) hT (by rw [hU]; exact box_set (i := 8) (box_set (i := 7) (box_set (i := 6) HS3.out.b0 _) _) _))
    clear hU hT x0 y0 l0
    obtain ⟨x0, y0⟩ := box_rules (HS4.out).b0
    have l0 := box_lt (HS4.out).b0
    obtain ⟨x1, y1⟩ := box_rules (HS4.out).b1
    have l1 := box_lt (HS4.out).b1
    go_wp2
    refine name_post fun V4 hV4 => ?_
    obtain ⟨hE4, hT4⟩ := set9 (HS4.out).b1 (.int .i64 now) (.int .i64 (room : Int)) (.slice A n c) (.slice Q m d) (.int .i64 mn) (.int .i64 mx) (.bool true) (.int .i64 nx) (.int .i64 4503599627370496)
    rw [← hV4] at hE4 hT4
    obtain ⟨vx, vy⟩ := box_rules hE4
    clear hV4
    refine bodyPost_ret (v := .agg #[.int .i64 now, .int .i64 (room : Int), .slice A n c, .slice Q m d, .int .i64 mn, .int .i64 mx, .bool true, .int .i64 nx, .int .i64 4503599627370496]) (by simp [results, Tryz.f39, go_sem, vx]) rfl ?_
    exact ⟨rfl, hT4.base HS4.out.bel (fun k hk => by obtain rfl := List.mem_singleton.1 hk; omega) HS4.out.bel.size⟩
end Go.Proofs.YtiblpnadninmbaaGreatDoor
/- Package vergeref10: look by what it does; the walks of Start, Every, Stop, New. Conditions: lists that read, times that may be. -/
namespace Go.Proofs.YtiblpnadninmbaaGreatDoor
open Go.RowKit Go.Shelf
attribute [local go_sem] Oper.semAt_some

/-- A service of the document's, by what it does. -/
def rsS (room mn mx : Int) (s : Sst) (A : Option Addr) (c : Nat) (Q : Option Addr) (d : Nat) : Value := rsv s.now room A s.L.length c Q s.P.length d mn mx s.armed s.goal s.wake
theorem rlook_s (room : Nat) (mn mx : Int) (s : Sst) (A : Option Addr) (c : Nat) (Q : Option Addr) (d : Nat) (w : World) (hl : s.L.length ≤ 1048576) (hr : Rd w A (s.L.flatMap duc)) (hat : ∀ x ∈ s.L, 0 ≤ x.at' ∧ x.at' ≤ 4503599627370496) (hok : TmOk mn mx) (h0 : 0 ≤ s.now) (h1 : s.now ≤ 4503599627370496) :
    Calls Tryz.prog 39 #[rsS room mn mx s A c Q d] w fun e w' => e = .returned (rsS room mn mx (lookS mn mx s) A c Q d) ∧ Below w.heap.size w w' := by
  obtain ⟨L, P, now, ar, goal, wk⟩ := s
  unfold rsS lookS
  dsimp only at *
  by_cases hL : L = []
  · subst hL
    rw [if_pos rfl]
    exact rlook_none now room A c Q P.length d mn mx ar goal wk w
  · rw [if_neg hL]
    have hnx := nx_min hat hL
    by_cases ha : ar = true ∧ goal = minD 4503599627370496 L
    · rw [if_pos ha]
      obtain ⟨rfl, rfl⟩ := ha
      exact rlook_same now room L A c Q P.length d mn mx _ wk w hl hr hL hnx
    · rw [if_neg ha]
      obtain ⟨hn0, hn1⟩ := min_ge hat
      exact rlook_arm now room L A c Q P.length d mn mx _ ar goal wk w hl hr hL hnx (by
        cases ar with
        | false => rfl
        | true => rw [Bool.true_and]; exact decide_eq_false fun h9 => ha ⟨rfl, h9⟩) hok h0 h1 hn0 hn1
/-- What hands back a service of the document's, and a word. -/
def RetRv (now room mn mx : Int) (L2 : List Du) (P2 : List Pe) (a2 : Bool) (g2 k2 code : Int) (A Q : Option Addr) (w : World) (e : Ending) (w' : World) : Prop :=
  ∃ A' c' Q' d', e = .returned (.tuple #[rsv now room A' L2.length c' Q' P2.length d' mn mx a2 g2 k2, .int .i64 code]) ∧ Rd w' A' (L2.flatMap duc) ∧ Rd w' Q' (P2.flatMap pec) ∧
    (∀ a, A' = some a → A = some a ∨ (w.heap.size ≤ a.block ∧ a.block < w'.heap.size)) ∧ (∀ a, Q' = some a → Q = some a ∨ (w.heap.size ≤ a.block ∧ a.block < w'.heap.size)) ∧ Below w.heap.size w w'
def RetRs (room mn mx : Int) (s2 : Sst) (code : Int) (A Q : Option Addr) (w : World) (e : Ending) (w' : World) : Prop :=
  RetRv s2.now room mn mx s2.L s2.P s2.armed s2.goal s2.wake code A Q w e w'
/-- A call that does something to the timers, and looks: Start, Every, Stop alike. -/
def RsCall (mn mx : Int) (s : Sst) (L2 : List Du) (P2 : List Pe) (cc : Int) : Sst := if cc = 0 then lookS mn mx { s with L := L2, P := P2 } else s
/-- The same periods. -/
def sameP (P : List Pe) : List Pe := P
set_option maxHeartbeats 8000000 in
set_option maxRecDepth 100000 in
theorem rsstart_any (room : Nat) (mn mx : Int) (s : Sst) (id a : Int) (A : Option Addr) (c : Nat) (Q : Option Addr) (d : Nat) (w : World) (hl : s.L.length ≤ 4096) (hP : s.P.length ≤ 1048575) (hJ : JB s) (hl2 : (insL room s.L id a).length ≤ 1048576) (hat2 : ∀ x ∈ insL room s.L id a, 0 ≤ x.at' ∧ x.at' ≤ 4503599627370496) (hok : TmOk mn mx)
    (hr : Rd w A (s.L.flatMap duc)) (hq : Rd w Q (s.P.flatMap pec)) (hA : ∀ a, A = some a → a.block < w.heap.size) (hQ : ∀ a, Q = some a → a.block < w.heap.size) :
    Calls Tryz.prog 22 #[rsS room mn mx s A c Q d, .int .i64 id, .int .i64 a] w (RetRs room mn mx (RsCall mn mx s (insL room s.L id a) (sameP s.P) (insC room s.L id a)) (insC room s.L id a) A Q w) := by
  have HR := Lib.hid hr; have HQ := Lib.hid hq; have HA := Lib.hid hA; have HQl := Lib.hid hQ
  have h0 := hJ.now0
  have h1 := hJ.now1
  have f1 := Lib.hid (fun X (hX : Rd X A (s.L.flatMap duc)) (hY : Rd X Q (s.P.flatMap pec)) hA hQ => rstart_any s.now room id a s.L A c s.P Q d X (by omega) hX hY hA hQ)
  have f2 := Lib.hid (fun X A' c' Q' d' (hX : Rd X A' ((insL room s.L id a).flatMap duc)) => rlook_s room mn mx { s with L := insL room s.L id a, P := sameP s.P } A' c' Q' d' X hl2 hX hat2 hok h0 h1)
  rw [show RetRt s.now room (insL room s.L id a) s.P = RetRt s.now room (insL room s.L id a) (sameP s.P) from rfl] at f1
  have hln := look_now mn mx { s with L := insL room s.L id a, P := sameP s.P }
  unfold RsCall
  generalize lookS mn mx { s with L := insL room s.L id a, P := sameP s.P } = s2 at *
  generalize insL room s.L id a = L2 at *
  generalize sameP s.P = P2 at *
  generalize insC room s.L id a = cc at *
  obtain ⟨L, P, now0, ar, goal, wk⟩ := s
  obtain ⟨L3, P3, now, a2, g2, k2⟩ := s2
  dsimp only at *
  obtain ⟨rfl, rfl, rfl⟩ := hln
  clear hJ hl hP hl2 hat2 hok h0 h1
  by_cases hc : cc = 0
  · subst hc
    rw [if_pos rfl]
    unfold rsS RetRs at *
    dsimp only at *
    unfold rsv at f2
    unfold rsv
    unfold RetRt rtv at f1
    clear hr hq hA hQ
    go_enter Tryz.func22, Tryz.ntmps22
    go_upto_region 1 with fail
    refine name_world fun V hV => ?_
    have HS0 : Hid (RsS w V now room A L.length c Q _ d mn mx _ _ _) := Lib.hid (by rw [hV]; exact RsS.mk0 ..)
    clear hV
    obtain ⟨x0, y0⟩ := box_rules HS0.out.b0
    have l0 := box_lt HS0.out.b0
    obtain ⟨x1, y1⟩ := box_rules HS0.out.b1
    have l1 := box_lt HS0.out.b1
    go_upto_region 2 with (go_at_call 38; (with_reducible refine (f1.out _ (HR.out.below HS0.out.bel) (HQ.out.below HS0.out.bel) (fun a ha => by have := HA.out a ha; have := HS0.out.bel.size; omega) (fun a ha => by have := HQl.out a ha; have := HS0.out.bel.size; omega)).mono ?_); rintro e w5 ⟨A5, c5, Q5, d5, rfl, hr5, hq5, ho5, hp5, hb5⟩; have HR5 := Lib.hid hr5; have HQ5 := Lib.hid hq5; have HO5 := Lib.hid ho5; have HP5 := Lib.hid hp5; have HS5 := Lib.hid (HS0.out.below hb5); have hz5 := hb5.size; clear hr5 hq5 ho5 hp5 hb5)
    refine name_world fun U hU => ?_
    have hbU : Below w5.heap.size w5 U := by rw [hU]; exact (Below.refl _ _).alloc (Nat.le_refl _) _
    have HX : Hid (U.heap[w5.heap.size]? = some (.cells #[.int .i64 now, .int .i64 room, .slice A5 L3.length c5, .slice Q5 P3.length d5] 35 (0, 0))) := Lib.hid (by rw [hU]; exact heap_alloc_new _ _)
    have HSU := Lib.hid (HS5.out.below hbU)
    have HRU := Lib.hid (HR5.out.below hbU)
    have HQU := Lib.hid (HQ5.out.below hbU)
    have hzU := hbU.size
    have hz0 := HS0.out.sz
    clear hU hbU x0 y0 l0 x1 y1 l1
    generalize w5.heap.size = bx at *
    obtain ⟨x0, y0⟩ := box_rules (HSU.out).b0
    have l0 := box_lt (HSU.out).b0
    obtain ⟨x1, y1⟩ := box_rules (HSU.out).b1
    have l1 := box_lt (HSU.out).b1
    obtain ⟨bx0, by0⟩ := box_rules HX.out
    have lb := box_lt HX.out
    go_upto_region 5 with fail
    refine name_world fun V2 hV2 => ?_
    have hT : Tn [w.heap.size] U V2 := by rw [hV2]; exact tsetR (tsetR (tsetR (tsetR (Tn.refl _ _) (by simp) _) (by simp) _) (by simp) _) (by simp) _
    have HS6 := Lib.hid (HSU.out.turn (now' := now) (A' := A5) (n' := L3.length) (c' := c5) (Q' := Q5) (m' := P3.length) (d' := d5) (ar' := ar) (goal' := goal) (wk' := wk) hT (by rw [hV2]; exact box_set (i := 3) (box_set (i := 2) (box_set (i := 1) (box_set (i := 0) HSU.out.b0 _) _) _) _))
    have HR6 := Lib.hid (HRU.out.tn hT (fun a ha hm => by obtain h9 := List.mem_singleton.1 hm; rcases HO5.out a ha with h8 | h8; exact absurd h9 (by have := HA.out a h8; omega); omega))
    have HQ6 := Lib.hid (HQU.out.tn hT (fun a ha hm => by obtain h9 := List.mem_singleton.1 hm; rcases HP5.out a ha with h8 | h8; exact absurd h9 (by have := HQl.out a h8; omega); omega))
    have hz6 := hT.size
    clear hV2 hT x0 y0 l0 x1 y1 l1 bx0 by0 lb HSU HRU HQU
    obtain ⟨x0, y0⟩ := box_rules (HS6.out).b0
    have l0 := box_lt (HS6.out).b0
    obtain ⟨x1, y1⟩ := box_rules (HS6.out).b1
    have l1 := box_lt (HS6.out).b1
    go_wp2_with (go_at_call 39; (with_reducible refine (f2.out _ _ _ _ _ HR6.out).mono ?_); rintro e w7 ⟨rfl, hb7⟩; have HS7 := Lib.hid (HS6.out.below hb7); have HR7 := Lib.hid (HR6.out.below hb7); have HQ7 := Lib.hid (HQ6.out.below hb7); have hz7 := hb7.size; clear hb7 x0 y0 l0 x1 y1 l1; obtain ⟨x1, y1⟩ := box_rules HS7.out.b1; have l1 := box_lt HS7.out.b1)
    refine name_post fun V4 hV4 => ?_
    obtain ⟨hE4, hT4⟩ := set9 HS7.out.b1 (.int .i64 now) (.int .i64 (room : Int)) (.slice A5 L3.length c5) (.slice Q5 P3.length d5) (.int .i64 mn) (.int .i64 mx) (.bool a2) (.int .i64 g2) (.int .i64 k2)
    rw [← hV4] at hE4 hT4
    obtain ⟨vx, vy⟩ := box_rules hE4
    clear hV4
    refine bodyPost_ret (v := .tuple #[.agg #[.int .i64 now, .int .i64 (room : Int), .slice A5 L3.length c5, .slice Q5 P3.length d5, .int .i64 mn, .int .i64 mx, .bool a2, .int .i64 g2, .int .i64 k2], .int .i64 0]) (by simp [results, Tryz.f22, go_sem, vx]) rfl ?_
    have hz4 := hT4.size
    refine ⟨A5, c5, Q5, d5, rfl, HR7.out.tn hT4 (fun a ha hm => ?_), HQ7.out.tn hT4 (fun a ha hm => ?_), fun a ha => ?_, fun a ha => ?_, hT4.base HS7.out.bel (fun k hk => by obtain rfl := List.mem_singleton.1 hk; omega) HS7.out.bel.size⟩
    · have h9 := List.mem_singleton.1 hm
      rcases HO5.out a ha with h8 | h8
      · have := HA.out a h8; omega
      · omega
    · have h9 := List.mem_singleton.1 hm
      rcases HP5.out a ha with h8 | h8
      · have := HQl.out a h8; omega
      · omega
    · rcases HO5.out a ha with h8 | h8
      · exact .inl h8
      · exact .inr ⟨by omega, by omega⟩
    · rcases HP5.out a ha with h8 | h8
      · exact .inl h8
      · exact .inr ⟨by omega, by omega⟩
  · rw [if_neg hc]
    have hcb : (cc == 0) = false := beq_eq_false_iff_ne.2 hc
    clear f2
    unfold rsS RetRs at *
    dsimp only at *
    unfold rsv
    unfold RetRt rtv at f1
    clear hr hq hA hQ
    go_enter Tryz.func22, Tryz.ntmps22
    go_upto_region 1 with fail
    refine name_world fun V hV => ?_
    have HS0 : Hid (RsS w V now room A L.length c Q _ d mn mx _ _ _) := Lib.hid (by rw [hV]; exact RsS.mk0 ..)
    clear hV
    obtain ⟨x0, y0⟩ := box_rules HS0.out.b0
    have l0 := box_lt HS0.out.b0
    obtain ⟨x1, y1⟩ := box_rules HS0.out.b1
    have l1 := box_lt HS0.out.b1
    go_upto_region 2 with (go_at_call 38; (with_reducible refine (f1.out _ (HR.out.below HS0.out.bel) (HQ.out.below HS0.out.bel) (fun a ha => by have := HA.out a ha; have := HS0.out.bel.size; omega) (fun a ha => by have := HQl.out a ha; have := HS0.out.bel.size; omega)).mono ?_); rintro e w5 ⟨A5, c5, Q5, d5, rfl, hr5, hq5, ho5, hp5, hb5⟩; have HR5 := Lib.hid hr5; have HQ5 := Lib.hid hq5; have HO5 := Lib.hid ho5; have HP5 := Lib.hid hp5; have HS5 := Lib.hid (HS0.out.below hb5); have hz5 := hb5.size; clear hr5 hq5 ho5 hp5 hb5)
    refine name_world fun U hU => ?_
    have hbU : Below w5.heap.size w5 U := by rw [hU]; exact (Below.refl _ _).alloc (Nat.le_refl _) _
    have HX : Hid (U.heap[w5.heap.size]? = some (.cells #[.int .i64 now, .int .i64 room, .slice A5 L3.length c5, .slice Q5 P3.length d5] 35 (0, 0))) := Lib.hid (by rw [hU]; exact heap_alloc_new _ _)
    have HSU := Lib.hid (HS5.out.below hbU)
    have HRU := Lib.hid (HR5.out.below hbU)
    have HQU := Lib.hid (HQ5.out.below hbU)
    have hzU := hbU.size
    have hz0 := HS0.out.sz
    clear hU hbU x0 y0 l0 x1 y1 l1
    generalize w5.heap.size = bx at *
    obtain ⟨x0, y0⟩ := box_rules (HSU.out).b0
    have l0 := box_lt (HSU.out).b0
    obtain ⟨x1, y1⟩ := box_rules (HSU.out).b1
    have l1 := box_lt (HSU.out).b1
    obtain ⟨bx0, by0⟩ := box_rules HX.out
    have lb := box_lt HX.out
    clear hc
    go_wp2
    refine name_post fun V4 hV4 => ?_
    obtain ⟨hE4, hT4⟩ := set9 HSU.out.b1 (.int .i64 now) (.int .i64 (room : Int)) (.slice A L.length c) (.slice Q P.length d) (.int .i64 mn) (.int .i64 mx) (.bool ar) (.int .i64 goal) (.int .i64 wk)
    rw [← hV4] at hE4 hT4
    obtain ⟨vx, vy⟩ := box_rules hE4
    clear hV4
    refine bodyPost_ret (v := .tuple #[.agg #[.int .i64 now, .int .i64 (room : Int), .slice A L.length c, .slice Q P.length d, .int .i64 mn, .int .i64 mx, .bool ar, .int .i64 goal, .int .i64 wk], .int .i64 cc]) (by simp [results, Tryz.f22, go_sem, vx]) rfl ?_
    have hlow := hT4.base HSU.out.bel (fun k hk => by obtain rfl := List.mem_singleton.1 hk; omega) HSU.out.bel.size
    exact ⟨A, c, Q, d, rfl, HR.out.below hlow, HQ.out.below hlow, fun a ha => .inl ha, fun a ha => .inl ha, hlow⟩
set_option maxHeartbeats 8000000 in
set_option maxRecDepth 100000 in
theorem rsevery_any (room : Nat) (mn mx : Int) (s : Sst) (id a p : Int) (A : Option Addr) (c : Nat) (Q : Option Addr) (d : Nat) (w : World) (hl : s.L.length ≤ 4096) (hP : s.P.length ≤ 1048575) (hJ : JB s) (hl2 : (everyL room s.L id a p).length ≤ 1048576) (hat2 : ∀ x ∈ everyL room s.L id a p, 0 ≤ x.at' ∧ x.at' ≤ 4503599627370496) (hok : TmOk mn mx)
    (hr : Rd w A (s.L.flatMap duc)) (hq : Rd w Q (s.P.flatMap pec)) (hA : ∀ a, A = some a → a.block < w.heap.size) (hQ : ∀ a, Q = some a → a.block < w.heap.size) :
    Calls Tryz.prog 23 #[rsS room mn mx s A c Q d, .int .i64 id, .int .i64 a, .int .i64 p] w (RetRs room mn mx (RsCall mn mx s (everyL room s.L id a p) (everyP room s.L s.P id a p) (everyC room s.L id a p)) (everyC room s.L id a p) A Q w) := by
  have HR := Lib.hid hr; have HQ := Lib.hid hq; have HA := Lib.hid hA; have HQl := Lib.hid hQ
  have h0 := hJ.now0
  have h1 := hJ.now1
  have f1 := Lib.hid (fun X (hX : Rd X A (s.L.flatMap duc)) (hY : Rd X Q (s.P.flatMap pec)) hA hQ => revery_any s.now room id a p s.L A c s.P Q d X (by omega) hP hX hY hA hQ)
  have f2 := Lib.hid (fun X A' c' Q' d' (hX : Rd X A' ((everyL room s.L id a p).flatMap duc)) => rlook_s room mn mx { s with L := everyL room s.L id a p, P := everyP room s.L s.P id a p } A' c' Q' d' X hl2 hX hat2 hok h0 h1)
  skip
  have hln := look_now mn mx { s with L := everyL room s.L id a p, P := everyP room s.L s.P id a p }
  unfold RsCall
  generalize lookS mn mx { s with L := everyL room s.L id a p, P := everyP room s.L s.P id a p } = s2 at *
  generalize everyL room s.L id a p = L2 at *
  generalize everyP room s.L s.P id a p = P2 at *
  generalize everyC room s.L id a p = cc at *
  obtain ⟨L, P, now0, ar, goal, wk⟩ := s
  obtain ⟨L3, P3, now, a2, g2, k2⟩ := s2
  dsimp only at *
  obtain ⟨rfl, rfl, rfl⟩ := hln
  clear hJ hl hP hl2 hat2 hok h0 h1
  by_cases hc : cc = 0
  · subst hc
    rw [if_pos rfl]
    unfold rsS RetRs at *
    dsimp only at *
    unfold rsv at f2
    unfold rsv
    unfold RetRt rtv at f1
    clear hr hq hA hQ
    go_enter Tryz.func23, Tryz.ntmps23
    go_upto_region 1 with fail
    refine name_world fun V hV => ?_
    have HS0 : Hid (RsS w V now room A L.length c Q _ d mn mx _ _ _) := Lib.hid (by rw [hV]; exact RsS.mk0 ..)
    clear hV
    obtain ⟨x0, y0⟩ := box_rules HS0.out.b0
    have l0 := box_lt HS0.out.b0
    obtain ⟨x1, y1⟩ := box_rules HS0.out.b1
    have l1 := box_lt HS0.out.b1
    go_upto_region 2 with (go_at_call 40; (with_reducible refine (f1.out _ (HR.out.below HS0.out.bel) (HQ.out.below HS0.out.bel) (fun a ha => by have := HA.out a ha; have := HS0.out.bel.size; omega) (fun a ha => by have := HQl.out a ha; have := HS0.out.bel.size; omega)).mono ?_); rintro e w5 ⟨A5, c5, Q5, d5, rfl, hr5, hq5, ho5, hp5, hb5⟩; have HR5 := Lib.hid hr5; have HQ5 := Lib.hid hq5; have HO5 := Lib.hid ho5; have HP5 := Lib.hid hp5; have HS5 := Lib.hid (HS0.out.below hb5); have hz5 := hb5.size; clear hr5 hq5 ho5 hp5 hb5)
    refine name_world fun U hU => ?_
    have hbU : Below w5.heap.size w5 U := by rw [hU]; exact (Below.refl _ _).alloc (Nat.le_refl _) _
    have HX : Hid (U.heap[w5.heap.size]? = some (.cells #[.int .i64 now, .int .i64 room, .slice A5 L3.length c5, .slice Q5 P3.length d5] 35 (0, 0))) := Lib.hid (by rw [hU]; exact heap_alloc_new _ _)
    have HSU := Lib.hid (HS5.out.below hbU)
    have HRU := Lib.hid (HR5.out.below hbU)
    have HQU := Lib.hid (HQ5.out.below hbU)
    have hzU := hbU.size
    have hz0 := HS0.out.sz
    clear hU hbU x0 y0 l0 x1 y1 l1
    generalize w5.heap.size = bx at *
    obtain ⟨x0, y0⟩ := box_rules (HSU.out).b0
    have l0 := box_lt (HSU.out).b0
    obtain ⟨x1, y1⟩ := box_rules (HSU.out).b1
    have l1 := box_lt (HSU.out).b1
    obtain ⟨bx0, by0⟩ := box_rules HX.out
    have lb := box_lt HX.out
    go_upto_region 5 with fail
    refine name_world fun V2 hV2 => ?_
    have hT : Tn [w.heap.size] U V2 := by rw [hV2]; exact tsetR (tsetR (tsetR (tsetR (Tn.refl _ _) (by simp) _) (by simp) _) (by simp) _) (by simp) _
    have HS6 := Lib.hid (HSU.out.turn (now' := now) (A' := A5) (n' := L3.length) (c' := c5) (Q' := Q5) (m' := P3.length) (d' := d5) (ar' := ar) (goal' := goal) (wk' := wk) hT (by rw [hV2]; exact box_set (i := 3) (box_set (i := 2) (box_set (i := 1) (box_set (i := 0) HSU.out.b0 _) _) _) _))
    have HR6 := Lib.hid (HRU.out.tn hT (fun a ha hm => by obtain h9 := List.mem_singleton.1 hm; rcases HO5.out a ha with h8 | h8; exact absurd h9 (by have := HA.out a h8; omega); omega))
    have HQ6 := Lib.hid (HQU.out.tn hT (fun a ha hm => by obtain h9 := List.mem_singleton.1 hm; rcases HP5.out a ha with h8 | h8; exact absurd h9 (by have := HQl.out a h8; omega); omega))
    have hz6 := hT.size
    clear hV2 hT x0 y0 l0 x1 y1 l1 bx0 by0 lb HSU HRU HQU
    obtain ⟨x0, y0⟩ := box_rules (HS6.out).b0
    have l0 := box_lt (HS6.out).b0
    obtain ⟨x1, y1⟩ := box_rules (HS6.out).b1
    have l1 := box_lt (HS6.out).b1
    go_wp2_with (go_at_call 39; (with_reducible refine (f2.out _ _ _ _ _ HR6.out).mono ?_); rintro e w7 ⟨rfl, hb7⟩; have HS7 := Lib.hid (HS6.out.below hb7); have HR7 := Lib.hid (HR6.out.below hb7); have HQ7 := Lib.hid (HQ6.out.below hb7); have hz7 := hb7.size; clear hb7 x0 y0 l0 x1 y1 l1; obtain ⟨x1, y1⟩ := box_rules HS7.out.b1; have l1 := box_lt HS7.out.b1)
    refine name_post fun V4 hV4 => ?_
    obtain ⟨hE4, hT4⟩ := set9 HS7.out.b1 (.int .i64 now) (.int .i64 (room : Int)) (.slice A5 L3.length c5) (.slice Q5 P3.length d5) (.int .i64 mn) (.int .i64 mx) (.bool a2) (.int .i64 g2) (.int .i64 k2)
    rw [← hV4] at hE4 hT4
    obtain ⟨vx, vy⟩ := box_rules hE4
    clear hV4
    refine bodyPost_ret (v := .tuple #[.agg #[.int .i64 now, .int .i64 (room : Int), .slice A5 L3.length c5, .slice Q5 P3.length d5, .int .i64 mn, .int .i64 mx, .bool a2, .int .i64 g2, .int .i64 k2], .int .i64 0]) (by simp [results, Tryz.f23, go_sem, vx]) rfl ?_
    have hz4 := hT4.size
    refine ⟨A5, c5, Q5, d5, rfl, HR7.out.tn hT4 (fun a ha hm => ?_), HQ7.out.tn hT4 (fun a ha hm => ?_), fun a ha => ?_, fun a ha => ?_, hT4.base HS7.out.bel (fun k hk => by obtain rfl := List.mem_singleton.1 hk; omega) HS7.out.bel.size⟩
    · have h9 := List.mem_singleton.1 hm
      rcases HO5.out a ha with h8 | h8
      · have := HA.out a h8; omega
      · omega
    · have h9 := List.mem_singleton.1 hm
      rcases HP5.out a ha with h8 | h8
      · have := HQl.out a h8; omega
      · omega
    · rcases HO5.out a ha with h8 | h8
      · exact .inl h8
      · exact .inr ⟨by omega, by omega⟩
    · rcases HP5.out a ha with h8 | h8
      · exact .inl h8
      · exact .inr ⟨by omega, by omega⟩
  · rw [if_neg hc]
    have hcb : (cc == 0) = false := beq_eq_false_iff_ne.2 hc
    clear f2
    unfold rsS RetRs at *
    dsimp only at *
    unfold rsv
    unfold RetRt rtv at f1
    clear hr hq hA hQ
    go_enter Tryz.func23, Tryz.ntmps23
    go_upto_region 1 with fail
    refine name_world fun V hV => ?_
    have HS0 : Hid (RsS w V now room A L.length c Q _ d mn mx _ _ _) := Lib.hid (by rw [hV]; exact RsS.mk0 ..)
    clear hV
    obtain ⟨x0, y0⟩ := box_rules HS0.out.b0
    have l0 := box_lt HS0.out.b0
    obtain ⟨x1, y1⟩ := box_rules HS0.out.b1
    have l1 := box_lt HS0.out.b1
    go_upto_region 2 with (go_at_call 40; (with_reducible refine (f1.out _ (HR.out.below HS0.out.bel) (HQ.out.below HS0.out.bel) (fun a ha => by have := HA.out a ha; have := HS0.out.bel.size; omega) (fun a ha => by have := HQl.out a ha; have := HS0.out.bel.size; omega)).mono ?_); rintro e w5 ⟨A5, c5, Q5, d5, rfl, hr5, hq5, ho5, hp5, hb5⟩; have HR5 := Lib.hid hr5; have HQ5 := Lib.hid hq5; have HO5 := Lib.hid ho5; have HP5 := Lib.hid hp5; have HS5 := Lib.hid (HS0.out.below hb5); have hz5 := hb5.size; clear hr5 hq5 ho5 hp5 hb5)
    refine name_world fun U hU => ?_
    have hbU : Below w5.heap.size w5 U := by rw [hU]; exact (Below.refl _ _).alloc (Nat.le_refl _) _
    have HX : Hid (U.heap[w5.heap.size]? = some (.cells #[.int .i64 now, .int .i64 room, .slice A5 L3.length c5, .slice Q5 P3.length d5] 35 (0, 0))) := Lib.hid (by rw [hU]; exact heap_alloc_new _ _)
    have HSU := Lib.hid (HS5.out.below hbU)
    have HRU := Lib.hid (HR5.out.below hbU)
    have HQU := Lib.hid (HQ5.out.below hbU)
    have hzU := hbU.size
    have hz0 := HS0.out.sz
    clear hU hbU x0 y0 l0 x1 y1 l1
    generalize w5.heap.size = bx at *
    obtain ⟨x0, y0⟩ := box_rules (HSU.out).b0
    have l0 := box_lt (HSU.out).b0
    obtain ⟨x1, y1⟩ := box_rules (HSU.out).b1
    have l1 := box_lt (HSU.out).b1
    obtain ⟨bx0, by0⟩ := box_rules HX.out
    have lb := box_lt HX.out
    clear hc
    go_wp2
    refine name_post fun V4 hV4 => ?_
    obtain ⟨hE4, hT4⟩ := set9 HSU.out.b1 (.int .i64 now) (.int .i64 (room : Int)) (.slice A L.length c) (.slice Q P.length d) (.int .i64 mn) (.int .i64 mx) (.bool ar) (.int .i64 goal) (.int .i64 wk)
    rw [← hV4] at hE4 hT4
    obtain ⟨vx, vy⟩ := box_rules hE4
    clear hV4
    refine bodyPost_ret (v := .tuple #[.agg #[.int .i64 now, .int .i64 (room : Int), .slice A L.length c, .slice Q P.length d, .int .i64 mn, .int .i64 mx, .bool ar, .int .i64 goal, .int .i64 wk], .int .i64 cc]) (by simp [results, Tryz.f23, go_sem, vx]) rfl ?_
    have hlow := hT4.base HSU.out.bel (fun k hk => by obtain rfl := List.mem_singleton.1 hk; omega) HSU.out.bel.size
    exact ⟨A, c, Q, d, rfl, HR.out.below hlow, HQ.out.below hlow, fun a ha => .inl ha, fun a ha => .inl ha, hlow⟩
set_option maxHeartbeats 8000000 in
set_option maxRecDepth 100000 in
theorem rsstop_any (room : Nat) (mn mx : Int) (s : Sst) (id : Int) (A : Option Addr) (c : Nat) (Q : Option Addr) (d : Nat) (w : World) (hl : s.L.length ≤ 4096) (hP : s.P.length ≤ 1048575) (hJ : JB s) (hl2 : (canL s.L id).length ≤ 1048576) (hat2 : ∀ x ∈ canL s.L id, 0 ≤ x.at' ∧ x.at' ≤ 4503599627370496) (hok : TmOk mn mx)
    (hr : Rd w A (s.L.flatMap duc)) (hq : Rd w Q (s.P.flatMap pec)) (hA : ∀ a, A = some a → a.block < w.heap.size) (hQ : ∀ a, Q = some a → a.block < w.heap.size) :
    Calls Tryz.prog 24 #[rsS room mn mx s A c Q d, .int .i64 id] w (RetRs room mn mx (RsCall mn mx s (canL s.L id) (woD s.P id) (canC s.L id)) (canC s.L id) A Q w) := by
  have HR := Lib.hid hr; have HQ := Lib.hid hq; have HA := Lib.hid hA; have HQl := Lib.hid hQ
  have h0 := hJ.now0
  have h1 := hJ.now1
  have f1 := Lib.hid (fun X (hX : Rd X A (s.L.flatMap duc)) (hY : Rd X Q (s.P.flatMap pec)) hA hQ => rstop_any s.now room id s.L A c s.P Q d X (by omega) (by omega) hX hY hA hQ hJ.pi)
  have f2 := Lib.hid (fun X A' c' Q' d' (hX : Rd X A' ((canL s.L id).flatMap duc)) => rlook_s room mn mx { s with L := canL s.L id, P := woD s.P id } A' c' Q' d' X hl2 hX hat2 hok h0 h1)
  skip
  have hln := look_now mn mx { s with L := canL s.L id, P := woD s.P id }
  unfold RsCall
  generalize lookS mn mx { s with L := canL s.L id, P := woD s.P id } = s2 at *
  generalize canL s.L id = L2 at *
  generalize woD s.P id = P2 at *
  generalize canC s.L id = cc at *
  obtain ⟨L, P, now0, ar, goal, wk⟩ := s
  obtain ⟨L3, P3, now, a2, g2, k2⟩ := s2
  dsimp only at *
  obtain ⟨rfl, rfl, rfl⟩ := hln
  clear hJ hl hP hl2 hat2 hok h0 h1
  by_cases hc : cc = 0
  · subst hc
    rw [if_pos rfl]
    unfold rsS RetRs at *
    dsimp only at *
    unfold rsv at f2
    unfold rsv
    unfold RetRt rtv at f1
    clear hr hq hA hQ
    go_enter Tryz.func24, Tryz.ntmps24
    go_upto_region 1 with fail
    refine name_world fun V hV => ?_
    have HS0 : Hid (RsS w V now room A L.length c Q _ d mn mx _ _ _) := Lib.hid (by rw [hV]; exact RsS.mk0 ..)
    clear hV
    obtain ⟨x0, y0⟩ := box_rules HS0.out.b0
    have l0 := box_lt HS0.out.b0
    obtain ⟨x1, y1⟩ := box_rules HS0.out.b1
    have l1 := box_lt HS0.out.b1
    go_upto_region 2 with (go_at_call 41; (with_reducible refine (f1.out _ (HR.out.below HS0.out.bel) (HQ.out.below HS0.out.bel) (fun a ha => by have := HA.out a ha; have := HS0.out.bel.size; omega) (fun a ha => by have := HQl.out a ha; have := HS0.out.bel.size; omega)).mono ?_); rintro e w5 ⟨A5, c5, Q5, d5, rfl, hr5, hq5, ho5, hp5, hb5⟩; have HR5 := Lib.hid hr5; have HQ5 := Lib.hid hq5; have HO5 := Lib.hid ho5; have HP5 := Lib.hid hp5; have HS5 := Lib.hid (HS0.out.below hb5); have hz5 := hb5.size; clear hr5 hq5 ho5 hp5 hb5)
    refine name_world fun U hU => ?_
    have hbU : Below w5.heap.size w5 U := by rw [hU]; exact (Below.refl _ _).alloc (Nat.le_refl _) _
    have HX : Hid (U.heap[w5.heap.size]? = some (.cells #[.int .i64 now, .int .i64 room, .slice A5 L3.length c5, .slice Q5 P3.length d5] 35 (0, 0))) := Lib.hid (by rw [hU]; exact heap_alloc_new _ _)
    have HSU := Lib.hid (HS5.out.below hbU)
    have HRU := Lib.hid (HR5.out.below hbU)
    have HQU := Lib.hid (HQ5.out.below hbU)
    have hzU := hbU.size
    have hz0 := HS0.out.sz
    clear hU hbU x0 y0 l0 x1 y1 l1
    generalize w5.heap.size = bx at *
    obtain ⟨x0, y0⟩ := box_rules (HSU.out).b0
    have l0 := box_lt (HSU.out).b0
    obtain ⟨x1, y1⟩ := box_rules (HSU.out).b1
    have l1 := box_lt (HSU.out).b1
    obtain ⟨bx0, by0⟩ := box_rules HX.out
    have lb := box_lt HX.out
    go_upto_region 5 with fail
    refine name_world fun V2 hV2 => ?_
    have hT : Tn [w.heap.size] U V2 := by rw [hV2]; exact tsetR (tsetR (tsetR (tsetR (Tn.refl _ _) (by simp) _) (by simp) _) (by simp) _) (by simp) _
    have HS6 := Lib.hid (HSU.out.turn (now' := now) (A' := A5) (n' := L3.length) (c' := c5) (Q' := Q5) (m' := P3.length) (d' := d5) (ar' := ar) (goal' := goal) (wk' := wk) hT (by rw [hV2]; exact box_set (i := 3) (box_set (i := 2) (box_set (i := 1) (box_set (i := 0) HSU.out.b0 _) _) _) _))
    have HR6 := Lib.hid (HRU.out.tn hT (fun a ha hm => by obtain h9 := List.mem_singleton.1 hm; rcases HO5.out a ha with h8 | h8; exact absurd h9 (by have := HA.out a h8; omega); omega))
    have HQ6 := Lib.hid (HQU.out.tn hT (fun a ha hm => by obtain h9 := List.mem_singleton.1 hm; rcases HP5.out a ha with h8 | h8; exact absurd h9 (by have := HQl.out a h8; omega); omega))
    have hz6 := hT.size
    clear hV2 hT x0 y0 l0 x1 y1 l1 bx0 by0 lb HSU HRU HQU
    obtain ⟨x0, y0⟩ := box_rules (HS6.out).b0
    have l0 := box_lt (HS6.out).b0
    obtain ⟨x1, y1⟩ := box_rules (HS6.out).b1
    have l1 := box_lt (HS6.out).b1
    go_wp2_with (go_at_call 39; (with_reducible refine (f2.out _ _ _ _ _ HR6.out).mono ?_); rintro e w7 ⟨rfl, hb7⟩; have HS7 := Lib.hid (HS6.out.below hb7); have HR7 := Lib.hid (HR6.out.below hb7); have HQ7 := Lib.hid (HQ6.out.below hb7); have hz7 := hb7.size; clear hb7 x0 y0 l0 x1 y1 l1; obtain ⟨x1, y1⟩ := box_rules HS7.out.b1; have l1 := box_lt HS7.out.b1)
    refine name_post fun V4 hV4 => ?_
    obtain ⟨hE4, hT4⟩ := set9 HS7.out.b1 (.int .i64 now) (.int .i64 (room : Int)) (.slice A5 L3.length c5) (.slice Q5 P3.length d5) (.int .i64 mn) (.int .i64 mx) (.bool a2) (.int .i64 g2) (.int .i64 k2)
    rw [← hV4] at hE4 hT4
    obtain ⟨vx, vy⟩ := box_rules hE4
    clear hV4
    refine bodyPost_ret (v := .tuple #[.agg #[.int .i64 now, .int .i64 (room : Int), .slice A5 L3.length c5, .slice Q5 P3.length d5, .int .i64 mn, .int .i64 mx, .bool a2, .int .i64 g2, .int .i64 k2], .int .i64 0]) (by simp [results, Tryz.f24, go_sem, vx]) rfl ?_
    have hz4 := hT4.size
    refine ⟨A5, c5, Q5, d5, rfl, HR7.out.tn hT4 (fun a ha hm => ?_), HQ7.out.tn hT4 (fun a ha hm => ?_), fun a ha => ?_, fun a ha => ?_, hT4.base HS7.out.bel (fun k hk => by obtain rfl := List.mem_singleton.1 hk; omega) HS7.out.bel.size⟩
    · have h9 := List.mem_singleton.1 hm
      rcases HO5.out a ha with h8 | h8
      · have := HA.out a h8; omega
      · omega
    · have h9 := List.mem_singleton.1 hm
      rcases HP5.out a ha with h8 | h8
      · have := HQl.out a h8; omega
      · omega
    · rcases HO5.out a ha with h8 | h8
      · exact .inl h8
      · exact .inr ⟨by omega, by omega⟩
    · rcases HP5.out a ha with h8 | h8
      · exact .inl h8
      · exact .inr ⟨by omega, by omega⟩
  · rw [if_neg hc]
    have hcb : (cc == 0) = false := beq_eq_false_iff_ne.2 hc
    clear f2
    unfold rsS RetRs at *
    dsimp only at *
    unfold rsv
    unfold RetRt rtv at f1
    clear hr hq hA hQ
    go_enter Tryz.func24, Tryz.ntmps24
    go_upto_region 1 with fail
    refine name_world fun V hV => ?_
    have HS0 : Hid (RsS w V now room A L.length c Q _ d mn mx _ _ _) := Lib.hid (by rw [hV]; exact RsS.mk0 ..)
    clear hV
    obtain ⟨x0, y0⟩ := box_rules HS0.out.b0
    have l0 := box_lt HS0.out.b0
    obtain ⟨x1, y1⟩ := box_rules HS0.out.b1
    have l1 := box_lt HS0.out.b1
    go_upto_region 2 with (go_at_call 41; (with_reducible refine (f1.out _ (HR.out.below HS0.out.bel) (HQ.out.below HS0.out.bel) (fun a ha => by have := HA.out a ha; have := HS0.out.bel.size; omega) (fun a ha => by have := HQl.out a ha; have := HS0.out.bel.size; omega)).mono ?_); rintro e w5 ⟨A5, c5, Q5, d5, rfl, hr5, hq5, ho5, hp5, hb5⟩; have HR5 := Lib.hid hr5; have HQ5 := Lib.hid hq5; have HO5 := Lib.hid ho5; have HP5 := Lib.hid hp5; have HS5 := Lib.hid (HS0.out.below hb5); have hz5 := hb5.size; clear hr5 hq5 ho5 hp5 hb5)
    refine name_world fun U hU => ?_
    have hbU : Below w5.heap.size w5 U := by rw [hU]; exact (Below.refl _ _).alloc (Nat.le_refl _) _
    have HX : Hid (U.heap[w5.heap.size]? = some (.cells #[.int .i64 now, .int .i64 room, .slice A5 L3.length c5, .slice Q5 P3.length d5] 35 (0, 0))) := Lib.hid (by rw [hU]; exact heap_alloc_new _ _)
    have HSU := Lib.hid (HS5.out.below hbU)
    have HRU := Lib.hid (HR5.out.below hbU)
    have HQU := Lib.hid (HQ5.out.below hbU)
    have hzU := hbU.size
    have hz0 := HS0.out.sz
    clear hU hbU x0 y0 l0 x1 y1 l1
    generalize w5.heap.size = bx at *
    obtain ⟨x0, y0⟩ := box_rules (HSU.out).b0
    have l0 := box_lt (HSU.out).b0
    obtain ⟨x1, y1⟩ := box_rules (HSU.out).b1
    have l1 := box_lt (HSU.out).b1
    obtain ⟨bx0, by0⟩ := box_rules HX.out
    have lb := box_lt HX.out
    clear hc
    go_wp2
    refine name_post fun V4 hV4 => ?_
    obtain ⟨hE4, hT4⟩ := set9 HSU.out.b1 (.int .i64 now) (.int .i64 (room : Int)) (.slice A L.length c) (.slice Q P.length d) (.int .i64 mn) (.int .i64 mx) (.bool ar) (.int .i64 goal) (.int .i64 wk)
    rw [← hV4] at hE4 hT4
    obtain ⟨vx, vy⟩ := box_rules hE4
    clear hV4
    refine bodyPost_ret (v := .tuple #[.agg #[.int .i64 now, .int .i64 (room : Int), .slice A L.length c, .slice Q P.length d, .int .i64 mn, .int .i64 mx, .bool ar, .int .i64 goal, .int .i64 wk], .int .i64 cc]) (by simp [results, Tryz.f24, go_sem, vx]) rfl ?_
    have hlow := hT4.base HSU.out.bel (fun k hk => by obtain rfl := List.mem_singleton.1 hk; omega) HSU.out.bel.size
    exact ⟨A, c, Q, d, rfl, HR.out.below hlow, HQ.out.below hlow, fun a ha => .inl ha, fun a ha => .inl ha, hlow⟩
end Go.Proofs.YtiblpnadninmbaaGreatDoor
/- append of a whole slice onto an own row: what turns is the row's own block. No premise of its own. -/
namespace Go.Proofs.YtiblpnadninmbaaGreatDoor
open Go.RowKit
section
variable {P : Program} {w : World}
/-- append(out, xs...): out is the call's own row of structs, xs whatever slice of such (nil too); what turns is the row's own block. -/
theorem wp_appNG {ops : Array Oper} {rest : List Oper} {o : Oper} {a : Act} {Q : Exit → Act → World → Prop} (hgd : o.guard = none) (s x : Operand) {t e : TypeId} {k bytes : Nat}
    (T : SlK P t e k bytes) (hb : bytes ≤ 128) (ho : o.op = .call { callee := .builtin .append, args := #[s, x], argTypes := #[t, t] })
    {base : Nat} {v : Value} {n : Nat} {xs : List Value} (hown : w.ownsRow base e k v n xs) (hs : a.eval s = v) (hbase : base ≤ w.heap.size)
    (A : Option Addr) (m c : Nat) (vs : List Value) (hx : a.eval x = .slice A m c) (hl : vs.length = m * k) (hr : Rd w A vs) (h1 : ∀ u ∈ vs, u.oneCell' = true) (hn : n + m ≤ 1099511627776)
    (h : ∀ A c w', w'.ownsRow base e k (.slice A (n + m) c) (n + m) (xs ++ vs) → w.grownBy w' v.ownBlock → wpList P ops Q rest (a.put o.dst (.slice A (n + m) c)) w') : wpList P ops Q (o :: rest) a w := by
  obtain ⟨i, z, hi, hz, hs1, hby, hzs⟩ := T.hi
  rcases A with _ | ad
  · have hv : vs = [] := by
      cases vs with
      | nil => rfl
      | cons y ys => obtain ⟨a', ha, _⟩ := hr 0 y rfl; cases ha
    subst hv
    have hm : m = 0 := by
      have h0 := T.h0
      have : m * k = 0 := by simpa using hl.symm
      rcases Nat.mul_eq_zero.1 this with h | h
      · exact h
      · omega
    subst hm
    refine wpList_plain hgd fun K hK => ?_
    unfold Oper.wp execOp
    have hrun : (Builtin.append_ #[t, t] o.type #[v, .slice none 0 c]).run P w = .ok v w := by
      rcases hown.2 with ⟨rfl, rfl⟩ | ⟨g, cap, cur, rfl, _, _, hnc, _⟩
      · simp [Builtin.append_, run_underlying T.ht, sizeOf, typeInfo, hi, Builtin.lenOf, Builtin.firstCells]
      · simp [Builtin.append_, run_underlying T.ht, sizeOf, typeInfo, hi, Builtin.lenOf, Builtin.firstCells, hnc, storeCells]
    simp only [ho, resolve, invoke, builtin, Sem.run_bind, Sem.run_pure, Result.andThen_ok, List.map_toArray, List.map_cons, List.map_nil, hs, hx, hrun]
    obtain ⟨A', c', hv', _⟩ := own_sliceK hown
    subst hv'
    exact hK _ _ (h A' c' w (by simpa using hown) ⟨rfl, rfl, rfl, Nat.le_refl _, fun _ _ _ => rfl⟩)
  · refine wpList_append_own w hgd s x t ho base e i z k bytes T.ht hi hz hs1 hby hzs T.h0 v n xs hs hown ad m c vs hx hl ?_ h1 ?_ ?_ hbase ?_
    · intro j u hu
      obtain ⟨a', ha, hc⟩ := hr j u hu
      cases ha; exact hc
    · unfold maxLen; omega
    · calc (n + m) * bytes ≤ (n + m) * 128 := Nat.mul_le_mul_left _ hb
        _ ≤ _ := by omega
    · intro v' w' hown' hg _
      obtain ⟨A, c', rfl, _⟩ := own_sliceK hown'
      exact h A c' w' hown' hg
end
end Go.Proofs.YtiblpnadninmbaaGreatDoor
/- Package vergeref10: the walks of New, and of Advance where it may not be; what Advance keeps. Conditions: lists that read, times that may be. -/
namespace Go.Proofs.YtiblpnadninmbaaGreatDoor
open Go.RowKit Go.Shelf
attribute [local go_sem] Oper.semAt_some

set_option maxHeartbeats 8000000 in
set_option maxRecDepth 100000 in
theorem rsnew_ok (start mn mx : Int) (room : Nat) (w : World) (hok : TmOk mn mx) (h0 : 0 ≤ start) (h1 : start ≤ 4503599627370496) (h2 : 1 ≤ room) (h3 : room ≤ 4096) :
    Calls Tryz.prog 6 #[.int .i64 start, .agg #[.int .i64 mn, .int .i64 mx], .int .i64 room] w fun e w' => e = .returned (.tuple #[rsS room mn mx ⟨[], [], start, false, 0, 0⟩ none 0 none 0, .int .i64 0]) ∧ Below w.heap.size w w' := by
  have f1 := Lib.hid (fun X => rcheck_any mn mx X hok)
  have f2 := Lib.hid (fun X => rtnew_ok start room X h0 h1 h2 h3)
  unfold rtv at f2
  unfold rsS rsv
  dsimp only [List.length_nil]
  clear hok h0 h1 h2 h3
  go_enter Tryz.func6, Tryz.ntmps6
  go_upto_region 1 with fail
  refine name_world fun V hV => ?_
  have H0 : Hid (V.heap[w.heap.size]? = some (.cells #[.int .i64 mn, .int .i64 mx] 23 (0, 0))) := Lib.hid (by rw [hV]; exact box_alloc (heap_alloc_new _ _) _)
  have H1 : Hid (V.heap[w.heap.size + 1]? = some (.cells #[.int .i64 0, .int .i64 0, .slice none 0 0, .slice none 0 0, .int .i64 0, .int .i64 0, .bool false, .int .i64 0, .int .i64 0] 37 (0, 0))) := Lib.hid (by rw [hV]; exact heap_new_at _ (by simp))
  have HB : Hid (Below w.heap.size w V) := Lib.hid (by rw [hV]; exact ((Below.refl _ _).alloc (Nat.le_refl _) _).alloc (by simp) _)
  clear hV
  obtain ⟨x0, y0⟩ := box_rules H0.out
  have l0 := box_lt H0.out
  go_upto_region 3 with (go_at_call 19; (with_reducible refine (f1.out _).mono ?_); rintro e w1 ⟨rfl, hb1⟩; have K0 := Lib.hid (box_keep H0.out hb1); have K1 := Lib.hid (box_keep H1.out hb1); have KB := Lib.hid (HB.out.trans (hb1.mono HB.out.size)); clear hb1)
  clear x0 y0 l0
  go_upto_region 4 with (go_at_call 20; (with_reducible refine (f2.out _).mono ?_); rintro e w2 ⟨rfl, hb2⟩; have J0 := Lib.hid (box_keep K0.out hb2); have J1 := Lib.hid (box_keep K1.out hb2); have JB2 := Lib.hid (KB.out.trans (hb2.mono KB.out.size)); clear hb2)
  refine name_world fun U hU => ?_
  have hbU : Below w2.heap.size w2 U := by
    rw [hU]; first | exact (Below.refl _ _).alloc (Nat.le_refl _) _ | exact (((Tn.refl [] w2).alloc _).new (set4 (heap_alloc_new _ _) rfl _ _ _ _).2 (fun b hb => by simp at hb; omega)).base (Below.refl _ _) (fun b hb => by cases hb) (Nat.le_refl _)
  have HU : Hid (U.heap[w2.heap.size]? = some (.cells #[.int .i64 start, .int .i64 (room : Int), .slice none 0 0, .slice none 0 0] 35 (0, 0))) := Lib.hid (by
    rw [hU]; first | exact heap_alloc_new _ _ | exact (set4 (heap_alloc_new _ _) rfl _ _ _ _).1)
  have I0 := Lib.hid (box_keep J0.out hbU)
  have I1 := Lib.hid (box_keep J1.out hbU)
  have IB := Lib.hid (JB2.out.trans (hbU.mono JB2.out.size))
  clear hU hbU
  obtain ⟨x0, y0⟩ := box_rules I0.out
  have l0 := box_lt I0.out
  obtain ⟨x1, y1⟩ := box_rules I1.out
  have l1 := box_lt I1.out
  obtain ⟨x2, y2⟩ := box_rules HU.out
  have l2 := box_lt HU.out
  go_wp2
  refine name_post fun V4 hV4 => ?_
  obtain ⟨hE4, hT4⟩ := set9 I1.out (.int .i64 start) (.int .i64 (room : Int)) (.slice none 0 0) (.slice none 0 0) (.int .i64 mn) (.int .i64 mx) (.bool false) (.int .i64 0) (.int .i64 0)
  rw [← hV4] at hE4 hT4
  obtain ⟨vx, vy⟩ := box_rules hE4
  clear hV4
  refine bodyPost_ret (v := .tuple #[.agg #[.int .i64 start, .int .i64 (room : Int), .slice none 0 0, .slice none 0 0, .int .i64 mn, .int .i64 mx, .bool false, .int .i64 0, .int .i64 0], .int .i64 0]) (by simp [results, Tryz.f6, go_sem, vx]) rfl ?_
  exact ⟨rfl, hT4.base IB.out (fun k hk => by obtain rfl := List.mem_singleton.1 hk; omega) IB.out.size⟩
set_option maxHeartbeats 8000000 in
set_option maxRecDepth 100000 in
theorem rsnew_form (start mn mx room : Int) (w : World) (hok : ¬ TmOk mn mx) (hx : I64N mx) :
    Calls Tryz.prog 6 #[.int .i64 start, .agg #[.int .i64 mn, .int .i64 mx], .int .i64 room] w fun e w' => (∃ v, e = .returned (.tuple #[v, .int .i64 2])) ∧ Below w.heap.size w w' := by
  have f1 := Lib.hid (fun X => rcheck_bad mn mx X hok hx)
  clear hok hx
  go_enter Tryz.func6, Tryz.ntmps6
  go_upto_region 1 with fail
  refine name_world fun V hV => ?_
  have H0 : Hid (V.heap[w.heap.size]? = some (.cells #[.int .i64 mn, .int .i64 mx] 23 (0, 0))) := Lib.hid (by rw [hV]; exact box_alloc (heap_alloc_new _ _) _)
  have H1 : Hid (V.heap[w.heap.size + 1]? = some (.cells #[.int .i64 0, .int .i64 0, .slice none 0 0, .slice none 0 0, .int .i64 0, .int .i64 0, .bool false, .int .i64 0, .int .i64 0] 37 (0, 0))) := Lib.hid (by rw [hV]; exact heap_new_at _ (by simp))
  have HB : Hid (Below w.heap.size w V) := Lib.hid (by rw [hV]; exact ((Below.refl _ _).alloc (Nat.le_refl _) _).alloc (by simp) _)
  clear hV
  obtain ⟨x0, y0⟩ := box_rules H0.out
  have l0 := box_lt H0.out
  go_upto_region 2 with (go_at_call 19; (with_reducible refine (f1.out _).mono ?_); rintro e w1 ⟨rfl, hb1⟩; have K0 := Lib.hid (box_keep H0.out hb1); have K1 := Lib.hid (box_keep H1.out hb1); have KB := Lib.hid (HB.out.trans (hb1.mono HB.out.size)); clear hb1)
  clear x0 y0 l0
  obtain ⟨x1, y1⟩ := box_rules K1.out
  have l1 := box_lt K1.out
  go_wp2
  refine name_post fun V4 hV4 => ?_
  obtain ⟨hE4, hT4⟩ := set9 (K1.out) (.int .i64 0) (.int .i64 0) (.slice none 0 0) (.slice none 0 0) (.int .i64 0) (.int .i64 0) (.bool false) (.int .i64 0) (.int .i64 0)
  rw [← hV4] at hE4 hT4
  obtain ⟨vx, vy⟩ := box_rules hE4
  clear hV4
  refine bodyPost_ret (v := .tuple #[.agg #[.int .i64 0, .int .i64 0, .slice none 0 0, .slice none 0 0, .int .i64 0, .int .i64 0, .bool false, .int .i64 0, .int .i64 0], .int .i64 2]) (by simp [results, Tryz.f6, go_sem, vx]) rfl ?_
  exact ⟨⟨_, rfl⟩, hT4.base KB.out (fun k hk => by obtain rfl := List.mem_singleton.1 hk; omega) (KB.out).size⟩
set_option maxHeartbeats 8000000 in
set_option maxRecDepth 100000 in
theorem rsnew_bad (start mn mx room : Int) (w : World) (hok : TmOk mn mx) (h : ¬ ((0 ≤ start ∧ start ≤ 4503599627370496) ∧ 1 ≤ room ∧ room ≤ 4096)) :
    Calls Tryz.prog 6 #[.int .i64 start, .agg #[.int .i64 mn, .int .i64 mx], .int .i64 room] w fun e w' => (∃ v, e = .returned (.tuple #[v, .int .i64 1])) ∧ Below w.heap.size w w' := by
  have f1 := Lib.hid (fun X => rcheck_any mn mx X hok)
  have f2 := Lib.hid (fun X => rtnew_bad start room X h)
  unfold rtv at f2
  clear hok h
  go_enter Tryz.func6, Tryz.ntmps6
  go_upto_region 1 with fail
  refine name_world fun V hV => ?_
  have H0 : Hid (V.heap[w.heap.size]? = some (.cells #[.int .i64 mn, .int .i64 mx] 23 (0, 0))) := Lib.hid (by rw [hV]; exact box_alloc (heap_alloc_new _ _) _)
  have H1 : Hid (V.heap[w.heap.size + 1]? = some (.cells #[.int .i64 0, .int .i64 0, .slice none 0 0, .slice none 0 0, .int .i64 0, .int .i64 0, .bool false, .int .i64 0, .int .i64 0] 37 (0, 0))) := Lib.hid (by rw [hV]; exact heap_new_at _ (by simp))
  have HB : Hid (Below w.heap.size w V) := Lib.hid (by rw [hV]; exact ((Below.refl _ _).alloc (Nat.le_refl _) _).alloc (by simp) _)
  clear hV
  obtain ⟨x0, y0⟩ := box_rules H0.out
  have l0 := box_lt H0.out
  go_upto_region 3 with (go_at_call 19; (with_reducible refine (f1.out _).mono ?_); rintro e w1 ⟨rfl, hb1⟩; have K1 := Lib.hid (box_keep H1.out hb1); have KB := Lib.hid (HB.out.trans (hb1.mono HB.out.size)); clear hb1)
  clear x0 y0 l0
  go_upto_region 4 with (go_at_call 20; (with_reducible refine (f2.out _).mono ?_); rintro e w2 ⟨rfl, hb2⟩; have J1 := Lib.hid (box_keep K1.out hb2); have JB2 := Lib.hid (KB.out.trans (hb2.mono KB.out.size)); clear hb2)
  refine name_world fun U hU => ?_
  have hbU : Below w2.heap.size w2 U := by
    rw [hU]; first | exact (Below.refl _ _).alloc (Nat.le_refl _) _ | exact (((Tn.refl [] w2).alloc _).new (set4 (heap_alloc_new _ _) rfl _ _ _ _).2 (fun b hb => by simp at hb; omega)).base (Below.refl _ _) (fun b hb => by cases hb) (Nat.le_refl _)
  have I1 := Lib.hid (box_keep J1.out hbU)
  have IB := Lib.hid (JB2.out.trans (hbU.mono JB2.out.size))
  clear hU hbU
  obtain ⟨x1, y1⟩ := box_rules I1.out
  have l1 := box_lt I1.out
  go_wp2
  refine name_post fun V4 hV4 => ?_
  obtain ⟨hE4, hT4⟩ := set9 (I1.out) (.int .i64 0) (.int .i64 0) (.slice none 0 0) (.slice none 0 0) (.int .i64 0) (.int .i64 0) (.bool false) (.int .i64 0) (.int .i64 0)
  rw [← hV4] at hE4 hT4
  obtain ⟨vx, vy⟩ := box_rules hE4
  clear hV4
  refine bodyPost_ret (v := .tuple #[.agg #[.int .i64 0, .int .i64 0, .slice none 0 0, .slice none 0 0, .int .i64 0, .int .i64 0, .bool false, .int .i64 0, .int .i64 0], .int .i64 1]) (by simp [results, Tryz.f6, go_sem, vx]) rfl ?_
  exact ⟨⟨_, rfl⟩, hT4.base IB.out (fun k hk => by obtain rfl := List.mem_singleton.1 hk; omega) (IB.out).size⟩
/-- What Advance hands back. -/
def RetRa (room mn mx begin : Int) (s2 : Sst) (M : List Fi) (A Q : Option Addr) (w : World) (e : Ending) (w' : World) : Prop :=
  ∃ A' c' Q' d' B cb, e = .returned (.tuple #[rsS room mn mx s2 A' c' Q' d', .slice B M.length cb, .int .i64 (s2.now - begin), .int .i64 0]) ∧ Rd w' A' (s2.L.flatMap duc) ∧ Rd w' Q' (s2.P.flatMap pec) ∧ Rd w' B (M.flatMap fic) ∧
    (∀ a, A' = some a → A = some a ∨ (w.heap.size ≤ a.block ∧ a.block < w'.heap.size)) ∧ (∀ a, Q' = some a → Q = some a ∨ (w.heap.size ≤ a.block ∧ a.block < w'.heap.size)) ∧ (∀ a, B = some a → w.heap.size ≤ a.block) ∧ Below w.heap.size w w'
/-- What hands back the service as it was, none fired, and a word. -/
def RetRn (room mn mx : Int) (s : Sst) (code : Int) (A : Option Addr) (c : Nat) (Q : Option Addr) (d : Nat) (w : World) (e : Ending) (w' : World) : Prop :=
  e = .returned (.tuple #[rsS room mn mx s A c Q d, .slice none 0 0, .int .i64 0, .int .i64 code]) ∧ Below w.heap.size w w'
set_option maxHeartbeats 8000000 in
set_option maxRecDepth 100000 in
theorem rsadv_neg (room : Int) (mn mx : Int) (s : Sst) (A : Option Addr) (c : Nat) (Q : Option Addr) (d : Nat) (k : Int) (w : World) (hk : k < 0) :
    Calls Tryz.prog 25 #[rsS room mn mx s A c Q d, .int .i64 k] w (RetRn room mn mx s 1 A c Q d w) := by
  obtain ⟨L, P, now, ar, goal, wk⟩ := s
  unfold RetRn rsS rsv
  dsimp only
  generalize L.length = n at *
  generalize P.length = m at *
  go_enter Tryz.func25, Tryz.ntmps25
  go_upto_region 1 with fail
  refine name_world fun V hV => ?_
  have HS0 : Hid (RsS w V now room A n c Q _ d mn mx _ _ _) := Lib.hid (by rw [hV]; exact RsS.mk0 ..)
  clear hV
  obtain ⟨x0, y0⟩ := box_rules HS0.out.b0
  have l0 := box_lt HS0.out.b0
  obtain ⟨x1, y1⟩ := box_rules HS0.out.b1
  have l1 := box_lt HS0.out.b1
  go_wp2
  refine name_post fun V4 hV4 => ?_
  obtain ⟨hE4, hT4⟩ := set9 HS0.out.b1 (.int .i64 now) (.int .i64 (room : Int)) (.slice A n c) (.slice Q m d) (.int .i64 mn) (.int .i64 mx) (.bool ar) (.int .i64 goal) (.int .i64 wk)
  rw [← hV4] at hE4 hT4
  obtain ⟨vx, vy⟩ := box_rules hE4
  clear hV4
  refine bodyPost_ret (v := .tuple #[.agg #[.int .i64 now, .int .i64 (room : Int), .slice A n c, .slice Q m d, .int .i64 mn, .int .i64 mx, .bool ar, .int .i64 goal, .int .i64 wk], .slice none 0 0, .int .i64 0, .int .i64 1]) (by simp [results, Tryz.f25, go_sem, vx]) rfl ?_
  exact ⟨rfl, hT4.base HS0.out.bel (fun k hk => by obtain rfl := List.mem_singleton.1 hk; omega) HS0.out.bel.size⟩
set_option maxHeartbeats 8000000 in
set_option maxRecDepth 100000 in
theorem rsadv_far (room : Int) (mn mx : Int) (s : Sst) (A : Option Addr) (c : Nat) (Q : Option Addr) (d : Nat) (k : Int) (w : World) (hk : ¬ k < 0) (h0 : 0 ≤ s.now) (h1 : s.now ≤ 4503599627370496) (hf : 4503599627370496 - s.now < k) :
    Calls Tryz.prog 25 #[rsS room mn mx s A c Q d, .int .i64 k] w (RetRn room mn mx s 6 A c Q d w) := by
  obtain ⟨L, P, now, ar, goal, wk⟩ := s
  unfold RetRn rsS rsv
  dsimp only at *
  generalize L.length = n at *
  generalize P.length = m at *
  go_enter Tryz.func25, Tryz.ntmps25
  go_upto_region 1 with fail
  refine name_world fun V hV => ?_
  have HS0 : Hid (RsS w V now room A n c Q _ d mn mx _ _ _) := Lib.hid (by rw [hV]; exact RsS.mk0 ..)
  clear hV
  obtain ⟨x0, y0⟩ := box_rules HS0.out.b0
  have l0 := box_lt HS0.out.b0
  obtain ⟨x1, y1⟩ := box_rules HS0.out.b1
  have l1 := box_lt HS0.out.b1
  go_wp2
  refine name_post fun V4 hV4 => ?_
  obtain ⟨hE4, hT4⟩ := set9 HS0.out.b1 (.int .i64 now) (.int .i64 (room : Int)) (.slice A n c) (.slice Q m d) (.int .i64 mn) (.int .i64 mx) (.bool ar) (.int .i64 goal) (.int .i64 wk)
  rw [← hV4] at hE4 hT4
  obtain ⟨vx, vy⟩ := box_rules hE4
  clear hV4
  refine bodyPost_ret (v := .tuple #[.agg #[.int .i64 now, .int .i64 (room : Int), .slice A n c, .slice Q m d, .int .i64 mn, .int .i64 mx, .bool ar, .int .i64 goal, .int .i64 wk], .slice none 0 0, .int .i64 0, .int .i64 6]) (by simp [results, Tryz.f25, go_sem, vx]) rfl ?_
  exact ⟨rfl, hT4.base HS0.out.bel (fun k hk => by obtain rfl := List.mem_singleton.1 hk; omega) HS0.out.bel.size⟩
end Go.Proofs.YtiblpnadninmbaaGreatDoor
/- Package vergeref10: the walk of Advance. Conditions: lists that read, times that may be. -/
namespace Go.Proofs.YtiblpnadninmbaaGreatDoor
open Go.RowKit Go.Shelf
attribute [local go_sem] Oper.semAt_some

/-- Lists that are not too long. -/
def Bd (s : Sst) : Prop := s.L.length ≤ 4096 ∧ s.P.length ≤ 1048575 ∧ AtOk s.L
theorem runs_bd {room : Nat} {now : Int} (hr : room ≤ 4096) : ∀ (n : Nat) {L : List Du} {P : List Pe}, L.length ≤ 4096 → AtOk L → (runT room now n L P).2.1.length ≤ 4096 ∧ (runT room now n L P).2.2.length ≤ P.length ∧ AtOk (runT room now n L P).2.1
  | 0, _, _, h, a => ⟨h, Nat.le_refl _, a⟩
  | n + 1, L, P, h, a => by
    by_cases hd : (popR now L).at' ≤ now
    · rw [run_some n hd]
      obtain ⟨h1, h2, h3⟩ := runs_bd hr n (P := fireP room now L P) (fire_le (P := P) (now := now) hr h) (a.fire room now P)
      exact ⟨h1, Nat.le_trans h2 (fireP_le room L P now).1, h3⟩
    · rw [run_none (n + 1) hd]
      exact ⟨h, Nat.le_refl _, a⟩
theorem Bd.ring {mn mx : Int} {room : Nat} {s : Sst} (hr : room ≤ 4096) (h : Bd s) : Bd (ringS room mn mx s).2 := by
  obtain ⟨h1, h2, h3⟩ := h
  obtain ⟨g1, g2, g3⟩ := runs_bd (now := s.wake) hr 1024 (P := s.P) h1 h3
  unfold Bd ringS ranS
  rw [(look_now mn mx _).2.1, (look_now mn mx _).2.2]
  exact ⟨g1, Nat.le_trans g2 h2, g3⟩
theorem look_off (mn mx : Int) (L : List Du) (P : List Pe) (T g k : Int) : lookS mn mx ⟨L, P, T, false, g, k⟩ = lookS mn mx ⟨L, P, T, false, 0, 0⟩ := by
  unfold lookS
  dsimp only
  split
  · rfl
  · rw [if_neg (by simp), if_neg (by simp)]
/-- Where Advance of the document's stands. -/
structure RaI (w wr : World) (room mn mx : Int) (A Q : Option Addr) (s : Sst) (A' : Option Addr) (c' : Nat) (Q' : Option Addr) (d' : Nat) : Prop where
  box : RsS w wr s.now room A' s.L.length c' Q' s.P.length d' mn mx s.armed s.goal s.wake
  ra : Rd wr A' (s.L.flatMap duc)
  rq : Rd wr Q' (s.P.flatMap pec)
  oa : ∀ a, A' = some a → (A = some a ∧ a.block < w.heap.size) ∨ (w.heap.size + 2 ≤ a.block ∧ a.block < wr.heap.size)
  oq : ∀ a, Q' = some a → (Q = some a ∧ a.block < w.heap.size) ∨ (w.heap.size + 2 ≤ a.block ∧ a.block < wr.heap.size)
section
variable {w wr wx : World} {room mn mx : Int} {A Q : Option Addr} {s : Sst} {A' : Option Addr} {c' : Nat} {Q' : Option Addr} {d' : Nat}
theorem RaI.below (h : RaI w wr room mn mx A Q s A' c' Q' d') (hb : Below wr.heap.size wr wx) : RaI w wx room mn mx A Q s A' c' Q' d' :=
  ⟨h.box.below hb, h.ra.below hb, h.rq.below hb, fun a ha => (h.oa a ha).imp id (fun q => ⟨q.1, Nat.lt_of_lt_of_le q.2 hb.size⟩), fun a ha => (h.oq a ha).imp id (fun q => ⟨q.1, Nat.lt_of_lt_of_le q.2 hb.size⟩)⟩
theorem RaI.farF {F : List Nat} (h : RaI w wr room mn mx A Q s A' c' Q' d') (ht : Tn F wr wx) (hF : ∀ k ∈ F, w.heap.size + 2 ≤ k ∧ (∀ a, A' = some a → a.block ≠ k) ∧ ∀ a, Q' = some a → a.block ≠ k) : RaI w wx room mn mx A Q s A' c' Q' d' :=
  ⟨h.box.far ht (fun k hk => (hF k hk).1), h.ra.tn ht (fun a ha hm => (hF _ hm).2.1 a ha rfl), h.rq.tn ht (fun a ha hm => (hF _ hm).2.2 a ha rfl), fun a ha => (h.oa a ha).imp id (fun q => ⟨q.1, Nat.lt_of_lt_of_le q.2 ht.size⟩), fun a ha => (h.oq a ha).imp id (fun q => ⟨q.1, Nat.lt_of_lt_of_le q.2 ht.size⟩)⟩
/-- Cells of the service's box turned, its rows not. -/
theorem RaI.box0 {s2 : Sst} (h : RaI w wr room mn mx A Q s A' c' Q' d') (ht : Tn [w.heap.size] wr wx) (hL : s2.L = s.L) (hP : s2.P = s.P)
    (hb : wx.heap[w.heap.size]? = some (.cells #[.int .i64 s2.now, .int .i64 room, .slice A' s2.L.length c', .slice Q' s2.P.length d', .int .i64 mn, .int .i64 mx, .bool s2.armed, .int .i64 s2.goal, .int .i64 s2.wake] 37 (0, 0))) : RaI w wx room mn mx A Q s2 A' c' Q' d' :=
  ⟨h.box.turn ht hb, by rw [hL]; exact h.ra.tn ht (fun a ha hm => by have := List.mem_singleton.1 hm; rcases h.oa a ha with q | q <;> omega), by rw [hP]; exact h.rq.tn ht (fun a ha hm => by have := List.mem_singleton.1 hm; rcases h.oq a ha with q | q <;> omega),
    fun a ha => (h.oa a ha).imp id (fun q => ⟨q.1, Nat.lt_of_lt_of_le q.2 ht.size⟩), fun a ha => (h.oq a ha).imp id (fun q => ⟨q.1, Nat.lt_of_lt_of_le q.2 ht.size⟩)⟩
theorem RaI.runs {w5 U V1 : World} {L2 : List Du} {P2 : List Pe} {now2 : Int} {ar : Bool} {goal wk : Int} {A5 : Option Addr} {c5 : Nat} {Q5 : Option Addr} {d5 : Nat} (h : RaI w wr room mn mx A Q s A' c' Q' d') (hb5 : Below wr.heap.size wr w5) (hbU : Below w5.heap.size w5 U) (ht : Tn [w.heap.size] U V1)
    (hr5 : Rd w5 A5 (L2.flatMap duc)) (hq5 : Rd w5 Q5 (P2.flatMap pec)) (ho5 : ∀ a, A5 = some a → A' = some a ∨ (wr.heap.size ≤ a.block ∧ a.block < w5.heap.size)) (hp5 : ∀ a, Q5 = some a → Q' = some a ∨ (wr.heap.size ≤ a.block ∧ a.block < w5.heap.size))
    (hbx : V1.heap[w.heap.size]? = some (.cells #[.int .i64 now2, .int .i64 room, .slice A5 L2.length c5, .slice Q5 P2.length d5, .int .i64 mn, .int .i64 mx, .bool ar, .int .i64 goal, .int .i64 wk] 37 (0, 0))) : RaI w V1 room mn mx A Q ⟨L2, P2, now2, ar, goal, wk⟩ A5 c5 Q5 d5 := by
  have s0 := h.box.sz
  have s1 := hb5.size
  have s2 := hbU.size
  have s3 := ht.size
  have oA : ∀ a, A5 = some a → (A = some a ∧ a.block < w.heap.size) ∨ (w.heap.size + 2 ≤ a.block ∧ a.block < w5.heap.size) := fun a ha => by
    rcases ho5 a ha with q | q
    · exact (h.oa a q).imp id (fun q => ⟨q.1, by omega⟩)
    · exact .inr ⟨by omega, q.2⟩
  have oQ : ∀ a, Q5 = some a → (Q = some a ∧ a.block < w.heap.size) ∨ (w.heap.size + 2 ≤ a.block ∧ a.block < w5.heap.size) := fun a ha => by
    rcases hp5 a ha with q | q
    · exact (h.oq a q).imp id (fun q => ⟨q.1, by omega⟩)
    · exact .inr ⟨by omega, q.2⟩
  exact ⟨((h.box.below hb5).below hbU).turn ht hbx, (hr5.below hbU).tn ht (fun a ha hm => by have := List.mem_singleton.1 hm; rcases oA a ha with q | q <;> omega), (hq5.below hbU).tn ht (fun a ha hm => by have := List.mem_singleton.1 hm; rcases oQ a ha with q | q <;> omega),
    fun a ha => (oA a ha).imp id (fun q => ⟨q.1, by omega⟩), fun a ha => (oQ a ha).imp id (fun q => ⟨q.1, by omega⟩)⟩
end
section
variable {P : Program} {w : World}
/-- append(out, xs...): out is the call's own row of structs, xs whatever slice of such (nil too); what turns is the row's own block; where the row lies. -/
theorem wp_appNH {ops : Array Oper} {rest : List Oper} {o : Oper} {a : Act} {Q : Exit → Act → World → Prop} (hgd : o.guard = none) (s x : Operand) {t e : TypeId} {k bytes : Nat}
    (T : SlK P t e k bytes) (hb : bytes ≤ 128) (ho : o.op = .call { callee := .builtin .append, args := #[s, x], argTypes := #[t, t] })
    {base : Nat} {v : Value} {n : Nat} {xs : List Value} (hown : w.ownsRow base e k v n xs) (hs : a.eval s = v) (hbase : base ≤ w.heap.size)
    (A : Option Addr) (m c : Nat) (vs : List Value) (hx : a.eval x = .slice A m c) (hl : vs.length = m * k) (hr : Rd w A vs) (h1 : ∀ u ∈ vs, u.oneCell' = true) (hn : n + m ≤ 1099511627776)
    (h : ∀ A c w', w'.ownsRow base e k (.slice A (n + m) c) (n + m) (xs ++ vs) → w.grownBy w' v.ownBlock → ((Value.slice A (n + m) c).ownBlock = v.ownBlock ∨ (Value.slice A (n + m) c).ownBlock = some w.heap.size) → wpList P ops Q rest (a.put o.dst (.slice A (n + m) c)) w') : wpList P ops Q (o :: rest) a w := by
  obtain ⟨i, z, hi, hz, hs1, hby, hzs⟩ := T.hi
  rcases A with _ | ad
  · have hv : vs = [] := by
      cases vs with
      | nil => rfl
      | cons y ys => obtain ⟨a', ha, _⟩ := hr 0 y rfl; cases ha
    subst hv
    have hm : m = 0 := by
      have h0 := T.h0
      have : m * k = 0 := by simpa using hl.symm
      rcases Nat.mul_eq_zero.1 this with h | h
      · exact h
      · omega
    subst hm
    refine wpList_plain hgd fun K hK => ?_
    unfold Oper.wp execOp
    have hrun : (Builtin.append_ #[t, t] o.type #[v, .slice none 0 c]).run P w = .ok v w := by
      rcases hown.2 with ⟨rfl, rfl⟩ | ⟨g, cap, cur, rfl, _, _, hnc, _⟩
      · simp [Builtin.append_, run_underlying T.ht, sizeOf, typeInfo, hi, Builtin.lenOf, Builtin.firstCells]
      · simp [Builtin.append_, run_underlying T.ht, sizeOf, typeInfo, hi, Builtin.lenOf, Builtin.firstCells, hnc, storeCells]
    simp only [ho, resolve, invoke, builtin, Sem.run_bind, Sem.run_pure, Result.andThen_ok, List.map_toArray, List.map_cons, List.map_nil, hs, hx, hrun]
    obtain ⟨A', c', hv', _⟩ := own_sliceK hown
    subst hv'
    exact hK _ _ (h A' c' w (by simpa using hown) ⟨rfl, rfl, rfl, Nat.le_refl _, fun _ _ _ => rfl⟩ (.inl rfl))
  · have hnews : ∀ j u, vs[j]? = some u → w.cell? (ad.add j) = some u := by
      intro j u hu
      obtain ⟨a', ha, hc⟩ := hr j u hu
      cases ha; exact hc
    have h63 : n + m ≤ maxLen := by unfold maxLen; omega
    have hbt : (n + m) * bytes ≤ 140737488355328 := by
      calc (n + m) * bytes ≤ (n + m) * 128 := Nat.mul_le_mul_left _ hb
        _ ≤ _ := by omega
    obtain ⟨v', w', hrun, hown', hg, _, hat⟩ := run_append_own_at (P := P) w base t o.type e i z k bytes T.ht hi hz hs1 hby hzs T.h0 v n xs hown ad m c vs hl hnews h1 h63 hbt hbase
    obtain ⟨A, c, rfl, _⟩ := own_sliceK hown'
    refine wpList_plain hgd fun K hK => ?_
    unfold Oper.wp execOp
    simp only [ho, resolve, invoke, builtin, Sem.run_bind, Sem.run_pure, Result.andThen_ok, List.map_toArray, List.map_cons, List.map_nil, hs, hx, hrun]
    exact hK _ _ (h A c w' hown' hg hat)
end
/-- What an append onto a row leaves. -/
theorem app_tn0 {wr wx : World} {v : Value} (hg : wr.grownBy wx v.ownBlock) : ∃ F : List Nat, Tn F wr wx ∧ ∀ k ∈ F, v.ownBlock = some k :=
  ⟨v.ownBlock.toList, (Tn.refl _ _).grown hg (fun k e => .inl (by simp [e])), fun k hk => by simpa using hk⟩
end Go.Proofs.YtiblpnadninmbaaGreatDoor

/- Package vergelaw39: the walks of ChartRuns and ChartAsks. Conditions: lists that read, the tables as laid. -/
import Derived.Test.YtlmhgfgdkenpfaaDoorChO
import Derived.Test.YtlmhgfgdkenpfaaDoorChK
import Derived.Test.YtlmhgfgdkenpfaaDoorChM
namespace Go.Proofs.YtlmhgfgdkenpfaaDoor
open Go.RowKit Go.Shelf
attribute [local go_sem] Oper.semAt_some

theorem runsO_len (ms : List Mk) (start now : Int) : (runsO ms start now).length ≤ ms.length + 1 := by
  unfold runsO
  split
  · exact runs_len ms start now
  · simp
set_option maxHeartbeats 4000000 in
set_option maxRecDepth 100000 in
theorem chartRuns_any (ms : List Mk) (A : Option Addr) (c : Nat) (start now o : Int) (w : World) (hl : ms.length ≤ 1048576) (hr : Rd w A (ms.flatMap mkc))
    (ht1 : Lib.TabIs Tryd.prog w "verge/chart.letters" .u8 [105, 116, 98, 108]) (ht2 : Lib.TabIs Tryd.prog w "internal/strconv.uint64pow10" .u64 Lib.pow10Tab) :
    Calls Tryd.prog 3 #[.slice A ms.length c, .int .i64 start, .int .i64 now, .int .i64 o] w fun e w' => e = .returned (.bool true) ∧ Below w.heap.size w w' := by
  have T1 := Lib.hid (Lib.tabBelow_of_tabIs ht1)
  have T2 := Lib.hid (Lib.tabBelow_of_tabIs ht2)
  have HR := Lib.hid hr
  have HLn := Lib.hid (runsO_len ms start now)
  have f1 := Lib.hid (runs_any ms start now A c w hl hr)
  have f2 := Lib.hid (fun X (h : Below w.heap.size w X) => runs39_any ms start now A c X hl (hr.below h))
  have f5 := Lib.hid (fun X (h : Below w.heap.size w X) => stops_any o ms A c X hl (hr.below h))
  have f6 := Lib.hid (fun X (h : Below w.heap.size w X) => stops39_any o ms A c X hl (hr.below h))
  have f3 := Lib.hid (fun X (h : Below w.heap.size w X) => lives39_any X (T1.out X h) (T2.out X h))
  clear ht1 ht2 hr
  unfold RetRuns at f1 f2
  obtain ⟨cc, hcc⟩ : ∃ cc : Int, cc = (if rgB ms start now = true then 0 else 2) := ⟨_, rfl⟩
  rw [← hcc] at f1 f2
  clear hcc
  have f4 := Lib.hid (fun (P1 : Option Addr) (d1 : Nat) (P2 : Option Addr) (d2 : Nat) X h1 h2 => same39_one (runsO ms start now) (by have := HLn.out; omega) P1 d1 P2 d2 X h1 h2)
  generalize runsO ms start now = L at *
  generalize stG o 0 false ms = z at *
  go_enter Tryd.func3, Tryd.ntmps3
  go_upto_region 2 with (go_at_call 6; with_reducible refine f1.out.mono ?_; rintro e w1 ⟨P1, d1, rfl, hr1, hb1⟩; have HR1 := Lib.hid hr1; have HB1 := Lib.hid hb1; clear hr1 hb1)
  clear f1
  go_upto_region 3 with (go_at_call 7; with_reducible refine (f2.out _ HB1.out).mono ?_; rintro e w2 ⟨P2, d2, rfl, hr2, hb2⟩; have HR2 := Lib.hid hr2; have HR12 := Lib.hid (HR1.out.below hb2); have HB2 := Lib.hid (HB1.out.trans (hb2.mono HB1.out.size)); clear hr2 hb2)
  clear f2 HR1 HB1
  go_wp2_with (first
    | (go_at_call 8; with_reducible refine (f3.out _ HB2.out).mono ?_; rintro e w3 ⟨rfl, hb3⟩; have HB3 := Lib.hid (HB2.out.trans (hb3.mono HB2.out.size)); have HR13 := Lib.hid (HR12.out.below hb3); have HR23 := Lib.hid (HR2.out.below hb3); clear hb3)
    | (go_at_call 9; with_reducible refine (f4.out _ _ _ _ _ HR13.out HR23.out).mono ?_; rintro e w4 ⟨rfl, n4, rfl⟩; have HB4 := Lib.hid (bdrewN HB3.out n4))
    | (go_at_call 10; with_reducible refine (f5.out _ HB4.out).mono ?_; rintro e w5 ⟨rfl, hb5⟩; have HB5 := Lib.hid (HB4.out.trans (hb5.mono HB4.out.size)); clear hb5)
    | (go_at_call 11; with_reducible refine (f6.out _ HB5.out).mono ?_; rintro e w6 ⟨rfl, hb6⟩; have HB6 := Lib.hid (HB5.out.trans (hb6.mono HB5.out.size)); clear hb6))
  go_ret
  exact ⟨by first | rfl | simp, HB6.out⟩
/-- What ChartAsks holds behind a call. -/
structure AsI (w : World) (A : Option Addr) (l : List Rn) (X : World) : Prop where
  r : Rd X A (l.flatMap rnc)
  b : Below w.heap.size w X
theorem AsI.next {w X Y : World} {A : Option Addr} {l : List Rn} (h : AsI w A l X) (hb : Below X.heap.size X Y) : AsI w A l Y := ⟨h.r.below hb, h.b.trans (hb.mono h.b.size)⟩
set_option maxHeartbeats 4000000 in
set_option maxRecDepth 100000 in
theorem chartAsks_any (l : List Rn) (A : Option Addr) (c : Nat) (t ki o : Int) (w : World) (hl : l.length ≤ 1048577) (hr : Rd w A (l.flatMap rnc)) (hkd : ∀ x ∈ l, 0 ≤ x.kind)
    (ht1 : Lib.TabIs Tryd.prog w "verge/chart.letters" .u8 [105, 116, 98, 108]) (ht2 : Lib.TabIs Tryd.prog w "internal/strconv.uint64pow10" .u64 Lib.pow10Tab) :
    Calls Tryd.prog 4 #[.slice A l.length c, .int .i64 t, .int .u8 ki, .int .i64 o] w fun e w' => e = .returned (.bool true) ∧ Below w.heap.size w w' := by
  have T1 := Lib.hid (Lib.tabBelow_of_tabIs ht1)
  have T2 := Lib.hid (Lib.tabBelow_of_tabIs ht2)
  have H0 : Hid (AsI w A l w) := Lib.hid ⟨hr, Below.refl _ _⟩
  have f1 := Lib.hid (fun X (h : AsI w A l X) => at_any t l A c X (by omega) h.r)
  have f2 := Lib.hid (fun X (h : AsI w A l X) => at39_any t l A c X (by omega) h.r)
  have f3 := Lib.hid (fun X (h : AsI w A l X) => text_any l A c X hl h.r hkd (T1.out X h.b) (T2.out X h.b))
  have f4 := Lib.hid (fun X (h : AsI w A l X) => text39_any l A c X hl h.r hkd)
  have f5 := Lib.hid (fun X (h : AsI w A l X) => lives39_any X (T1.out X h.b) (T2.out X h.b))
  have f6 := Lib.hid (fun X (h : AsI w A l X) => share_any ki o l A c X (by omega) h.r)
  have f7 := Lib.hid (fun X (h : AsI w A l X) => share39_any ki o l A c X (by omega) h.r)
  clear ht1 ht2 hr hkd hl
  unfold RetAt at f1 f2
  unfold RetTx at f3 f4
  generalize (atF t l).isSome = b0 at *
  generalize (atF t l).getD rn0 = y at *
  obtain ⟨cc, hcc⟩ : ∃ cc : Int, cc = (if (txt l).isSome = true then 0 else 2) := ⟨_, rfl⟩
  rw [← hcc] at f3 f4
  clear hcc
  generalize (⟨((txt l).getD []).toArray⟩ : ByteArray) = S at *
  generalize shG ki o 0 l = z at *
  obtain ⟨y0, y1, y2, y3⟩ := y
  dsimp only [rnv] at f1 f2
  go_enter Tryd.func4, Tryd.ntmps4
  go_upto_region 2 with (go_at_call 12; with_reducible refine (f1.out _ H0.out).mono ?_; rintro e w1 ⟨rfl, hb1⟩; have H1 := Lib.hid (H0.out.next hb1); clear hb1)
  refine name_world fun U hU => ?_
  have hbU : Below w1.heap.size w1 U := by rw [hU]; exact (Below.refl _ _).alloc (Nat.le_refl _) _
  have HU := Lib.hid (H1.out.next hbU)
  have HX : Hid (U.heap[w1.heap.size]? = some (.cells #[.int .u8 y0, .int .i64 y1, .int .i64 y2, .int .i64 y3] 33 (0, 0))) := Lib.hid (by rw [hU]; exact heap_alloc_new _ _)
  clear hU hbU H1 H0 f1
  generalize w1.heap.size = D at *
  go_upto_region 3 with (go_at_call 13; with_reducible refine (f2.out _ HU.out).mono ?_; rintro e w2 ⟨rfl, hb2⟩; have H2 := Lib.hid (HU.out.next hb2); have HX2 := Lib.hid (box_keep HX.out hb2); clear hb2)
  refine name_world fun V hV => ?_
  have hbV : Below w2.heap.size w2 V := by rw [hV]; exact (Below.refl _ _).alloc (Nat.le_refl _) _
  have HV := Lib.hid (H2.out.next hbV)
  have HXV := Lib.hid (box_keep HX2.out hbV)
  have HYV : Hid (V.heap[w2.heap.size]? = some (.cells #[.int .u8 y0, .int .i64 y1, .int .i64 y2, .int .i64 y3] 33 (0, 0))) := Lib.hid (by rw [hV]; exact heap_alloc_new _ _)
  clear hV hbV H2 HX2 HX HU f2
  generalize w2.heap.size = E at *
  go_upto_region 4 with (go_at_call 14; with_reducible refine (f3.out _ HV.out).mono ?_; rintro e w3 ⟨rfl, hb3⟩; have H3 := Lib.hid (HV.out.next hb3); have HX3 := Lib.hid (box_keep HXV.out hb3); have HY3 := Lib.hid (box_keep HYV.out hb3); clear hb3)
  clear HV HXV HYV f3
  go_upto_region 5 with (go_at_call 15; with_reducible refine (f4.out _ H3.out).mono ?_; rintro e w4 ⟨rfl, hb4⟩; have H4 := Lib.hid (H3.out.next hb4); have HX4 := Lib.hid (box_keep HX3.out hb4); have HY4 := Lib.hid (box_keep HY3.out hb4); clear hb4)
  clear H3 HX3 HY3 f4
  go_wp2_with (first
    | (go_at_call 8; with_reducible refine (f5.out _ H4.out).mono ?_; rintro e w5 ⟨rfl, hb5⟩; have H5 := Lib.hid (H4.out.next hb5); have hx5 := box_keep HX4.out hb5; have hy5 := box_keep HY4.out hb5; clear hb5; obtain ⟨xx, xy⟩ := box_rules hx5; obtain ⟨yx, yy⟩ := box_rules hy5; have lx := box_lt hx5; have ly := box_lt hy5; clear hx5 hy5)
    | (go_at_call 16; with_reducible refine (f6.out _ H5.out).mono ?_; rintro e w6 ⟨rfl, hb6⟩; have H6 := Lib.hid (H5.out.next hb6); clear hb6)
    | (go_at_call 17; with_reducible refine (f7.out _ H6.out).mono ?_; rintro e w7 ⟨rfl, hb7⟩; have H7 := Lib.hid (H6.out.next hb7); clear hb7))
  go_ret
  exact ⟨by first | rfl | simp, H7.out.b⟩
end Go.Proofs.YtlmhgfgdkenpfaaDoor

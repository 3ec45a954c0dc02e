/- vergelaw19: the walk of lives. Conditions: the de Bruijn table. -/
import Derived.Test.YtpncbkodhojicaaDoorQdIIc
namespace Go.Proofs.YtpncbkodhojicaaDoor
open Go.RowKit Go.Shelf
attribute [local go_sem] Oper.semAt_some
theorem tab_base {w X : World} (hT : Tab w) (hb : Below w.heap.size w X) : Tab X := hT.below hb hT.lt
set_option maxHeartbeats 16000000 in
set_option maxRecDepth 100000 in
theorem lives19_any (w : World) (hT : Tab w) : Calls Tryd.prog 5 #[] w fun e w' => e = .returned (.bool true) ∧ Below w.heap.size w w' := by
  have HT := Lib.hid hT
  have HG := Lib.hid hT.lt
  have f1 := Lib.hid (lv_new w w (Nat.le_refl _))
  have f2 := Lib.hid (fun X => lv_bad X)
  clear hT
  go_enter Tryd.func5, Tryd.ntmps5
  go_upto_region 2 with (go_at_call 6; (with_reducible refine f1.out.mono ?_); rintro e w1 ⟨p, p0, g0, p1, g1, rfl, ho1, hb1⟩; have HO1 := Lib.hid ho1; have HB1 := Lib.hid hb1; clear ho1 hb1)
  go_upto_region 3 with (go_at_call 6; (with_reducible refine (f2.out _).mono ?_); rintro e w2 ⟨rfl, hb2⟩; have HO2 := Lib.hid (HO1.out.below hb2); have HB2 := Lib.hid (HB1.out.trans (hb2.mono HB1.out.size)); clear hb2)
  clear f1 f2
  go_upto_region 6 with (go_at_call 19; (with_reducible refine (lv1 _ _ _ _ HO2.out).mono ?_); rintro e w3 ⟨rfl, ho, hk⟩; have HO3 := Lib.hid ho; have HB3 := Lib.hid (hk.below HB2.out); clear ho hk)
  go_upto_region 7 with (go_at_call 21; (with_reducible refine (lv2 _ _ _ _ HO3.out (tab_base HT.out HB3.out) HG.out).mono ?_); rintro e w4 ⟨rfl, ho, hk⟩; have HO4 := Lib.hid ho; have HB4 := Lib.hid (hk.below HB3.out); clear ho hk)
  go_upto_region 8 with (first
    | (go_at_call 19; (with_reducible refine (lv3 _ _ _ _ HO4.out).mono ?_); rintro e w5 ⟨rfl, ho, hk⟩; have HO5 := Lib.hid ho; have HB5 := Lib.hid (hk.below HB4.out); clear ho hk)
    | (go_at_call 19; (with_reducible refine (lv4 _ _ _ _ HO5.out).mono ?_); rintro e w6 ⟨rfl, ho, hk⟩; have HO6 := Lib.hid ho; have HB6 := Lib.hid (hk.below HB5.out); clear ho hk)
    | (go_at_call 19; (with_reducible refine (lv5 _ _ _ _ HO6.out).mono ?_); rintro e w7 ⟨rfl, ho, hk⟩; have HO7 := Lib.hid ho; have HB7 := Lib.hid (hk.below HB6.out); clear ho hk))
  go_upto_region 9 with (go_at_call 21; (with_reducible refine (lv6 _ _ _ _ HO7.out (tab_base HT.out HB7.out) HG.out).mono ?_); rintro e w8 ⟨rfl, ho, hk⟩; have HO8 := Lib.hid ho; have HB8 := Lib.hid (hk.below HB7.out); clear ho hk)
  go_upto_region 10 with (go_at_call 21; (with_reducible refine (lv7 _ _ _ _ HO8.out (tab_base HT.out HB8.out) HG.out).mono ?_); rintro e w9 ⟨rfl, ho, hk⟩; have HO9 := Lib.hid ho; have HB9 := Lib.hid (hk.below HB8.out); clear ho hk)
  go_upto_region 11 with (go_at_call 13; (with_reducible refine (lv8 _ _ _ _ HO9.out).mono ?_); rintro e _ ⟨rfl, rfl⟩)
  go_upto_region 12 with (go_at_call 23; (with_reducible refine (lv9 _ _ _ _ HO9.out).mono ?_); rintro e w10 ⟨rfl, ho, hk⟩; have HO10 := Lib.hid ho; have HB10 := Lib.hid (hk.below HB9.out); clear ho hk)
  have HO11 := Lib.hid (HO10.out.alloc (.cells #[.int .i64 1, .int .i64 7] 62))
  have HB11 := Lib.hid (HB10.out.alloc HB10.out.size (.cells #[.int .i64 1, .int .i64 7] 62))
  have HXa11 := Lib.hid (heap_alloc_new w10 (.cells #[.int .i64 1, .int .i64 7] 62))
  have HZa : Hid (w.heap.size ≤ w10.heap.size) := Lib.hid HB10.out.size
  generalize w10.alloc (.cells #[.int .i64 1, .int .i64 7] 62) = w11 at *
  obtain ⟨ba, hba⟩ : ∃ b, w10.heap.size = b := ⟨_, rfl⟩
  rw [hba] at HO11 HXa11 HZa
  rw [hba]
  clear hba HO10 HB10
  go_upto_region 13 with (go_at_call 9; (with_reducible refine (lv10 _ _ _ _ HO11.out).mono ?_); rintro e _ ⟨rfl, rfl⟩)
  go_upto_region 14 with (go_at_call 23; (with_reducible refine (lv11 _ _ _ _ HO11.out).mono ?_); rintro e w12 ⟨rfl, ho, hk⟩; have HO12 := Lib.hid ho; have HB12 := Lib.hid (hk.below HB11.out); have HXa12 := Lib.hid (hk.box HXa11.out (by simp)); clear ho hk)
  have HO13 := Lib.hid (HO12.out.alloc (.cells #[.int .i64 0, .int .i64 0] 62))
  have HB13 := Lib.hid (HB12.out.alloc HB12.out.size (.cells #[.int .i64 0, .int .i64 0] 62))
  have HXb13 := Lib.hid (heap_alloc_new w12 (.cells #[.int .i64 0, .int .i64 0] 62))
  have HXa13 := Lib.hid (box_alloc HXa12.out (.cells #[.int .i64 0, .int .i64 0] 62))
  have HZb : Hid (w.heap.size ≤ w12.heap.size) := Lib.hid HB12.out.size
  generalize w12.alloc (.cells #[.int .i64 0, .int .i64 0] 62) = w13 at *
  obtain ⟨bb, hbb⟩ : ∃ b, w12.heap.size = b := ⟨_, rfl⟩
  rw [hbb] at HO13 HXb13 HZb
  rw [hbb]
  clear hbb HO12 HB12
  go_upto_region 15 with (go_at_call 19; (with_reducible refine (lv12 _ _ _ _ HO13.out).mono ?_); rintro e w14 ⟨rfl, ho, hk⟩; have HO14 := Lib.hid ho; have HB14 := Lib.hid (hk.below HB13.out); have HXa14 := Lib.hid (hk.box HXa13.out (by simp)); clear ho hk)
  go_upto_region 16 with (go_at_call 21; (with_reducible refine (lv13 _ _ _ _ HO14.out (tab_base HT.out HB14.out) HG.out).mono ?_); rintro e w15 ⟨rfl, ho, hk⟩; have HO15 := Lib.hid ho; have HB15 := Lib.hid (hk.below HB14.out); have HXa15 := Lib.hid (hk.box HXa14.out (by simp)); clear ho hk)
  go_upto_region 17 with (go_at_call 11; (with_reducible refine (lv14 _ _ _ _ HO15.out (tab_base HT.out HB15.out)).mono ?_); rintro e w16 ⟨rfl, hb⟩; have HO16 := Lib.hid (HO15.out.below hb); have HB16 := Lib.hid (HB15.out.trans (hb.mono HB15.out.size)); have HXa16 := Lib.hid (box_keep HXa15.out hb); clear hb)
  go_upto_region 18 with (go_at_call 16; (with_reducible refine (lv15 _ _ _ _ HO16.out).mono ?_); rintro e _ ⟨rfl, rfl⟩)
  go_upto_region 19 with (go_at_call 22; (with_reducible refine (lv16 _ _ _ _ HO16.out (tab_base HT.out HB16.out) HG.out).mono ?_); rintro e w17 ⟨OA, oc, rfl, hr, hn, ho, hk⟩; have HR17 := Lib.hid hr; have HN17 := Lib.hid hn; have HO17 := Lib.hid ho; have HB17 := Lib.hid (hk.below HB16.out); have HXa17 := Lib.hid (hk.box HXa16.out (by simp)); clear ho hk hr hn)
  go_upto_region 20 with (go_at_call 22; (with_reducible refine (lv17 _ _ _ _ HO17.out (tab_base HT.out HB17.out) HG.out).mono ?_); rintro e w18 ⟨OA2, oc2, rfl, ho, hk⟩; have HR18 := Lib.hid (hk.rd HR17.out (fun a ha => .inr (by simp [ha]))); have HO18 := Lib.hid ho; have HB18 := Lib.hid (hk.below HB17.out); have HXa18 := Lib.hid (hk.box HXa17.out (by simp)); clear ho hk)
  have fS : Hid (Calls Tryd.prog 24 #[.slice OA 1 oc, .slice (some ⟨w18.heap.size, 0, none⟩) 1 1] (w18.alloc (.cells #[.int .i64 0] 3)) fun e w' => e = .returned (.bool true) ∧ ∃ k, (w18.alloc (.cells #[.int .i64 0] 3)).drewN k = w') := Lib.hid (same_eqq OA oc (some ⟨w18.heap.size, 0, none⟩) 1 [0] _ (by decide) (HR18.out.alloc _) (fun i u hu => ⟨_, rfl, by rw [add_zero_lit, Nat.zero_add]; exact new_cell hu⟩))
  have HQ := Lib.hid (fun n => (HO18.out.below (W' := w18.alloc (.cells #[.int .i64 0] 3)) ((Below.refl _ _).alloc (Nat.le_refl _) _)).drewN n)
  have HE : Hid (∀ n, Below w.heap.size w ((w18.alloc (.cells #[.int .i64 0] 3)).drewN n)) := Lib.hid (fun n => bdrewN (HB18.out.alloc HB18.out.size _) n)
  have hba : ba < w18.heap.size := box_lt HXa18.out
  obtain ⟨xa, ya⟩ := box_rules HXa18.out
  go_wp2_with (first
    | (go_at_call 24; (with_reducible refine fS.out.mono ?_); rintro e w' ⟨rfl, n1, rfl⟩)
    | (go_at_call 17; (with_reducible refine (lv18 _ _ _ _ (HQ.out _)).mono ?_); rintro e w' ⟨rfl, rfl⟩)
    | (go_at_call 18; (with_reducible refine (lv19 _ _ _ _ (HQ.out _)).mono ?_); rintro e w' ⟨rfl, rfl⟩))
  go_ret
  exact ⟨rfl, HE.out _⟩
end Go.Proofs.YtpncbkodhojicaaDoor

/- Package vergeref09: the walks of Stop, New, Same. Conditions: lists that read. -/
import Derived.Test.YtiblpnadninmbaaGreatDoorTrX1Y
import Derived.Test.YtiblpnadninmbaaGreatDoorTmXY
import Derived.Test.YtiblpnadninmbaaGreatDoorTmDzY
namespace Go.Proofs.YtiblpnadninmbaaGreatDoor
open Go.RowKit Go.Shelf
attribute [local go_sem] Oper.semAt_some

set_option maxHeartbeats 4000000 in
set_option maxRecDepth 100000 in
theorem rstop_any (now : Int) (room : Nat) (id : Int) (L : List Du) (A : Option Addr) (c : Nat) (P : List Pe) (Q : Option Addr) (d : Nat) (w : World) (hL : L.length ≤ 1048576) (hP : P.length ≤ 1048576) (hr : Rd w A (L.flatMap duc)) (hq : Rd w Q (P.flatMap pec)) (hA : ∀ a, A = some a → a.block < w.heap.size) (hQ : ∀ a, Q = some a → a.block < w.heap.size) (hI : PI L P) :
    Calls Tryz.prog 41 #[rtv now room A L.length c Q P.length d, .int .i64 id] w (RetRt now room (canL L id) (woD P id) (canC L id) A Q w) := by
  have HR := Lib.hid hr; have HQ := Lib.hid hq; have HA := Lib.hid hA; have HQl := Lib.hid hQ
  have f1 := Lib.hid (fun X (hX : Rd X A (L.flatMap duc)) => rcan_any now room id L A c X hL hX)
  unfold RetRw rwv at f1
  by_cases hh : hasD L id = true
  · have hc : canC L id = 0 := if_pos hh
    rw [hc] at f1 ⊢
    have f2 := Lib.hid (fun X A2 n2 c2 (hX : Rd X Q (P.flatMap pec)) => rwo_any now room id A2 n2 c2 P Q d X hP hX)
    unfold rtv at f2 ⊢
    generalize canL L id = L2 at *
    generalize woD P id = P2 at *
    clear hr hq hA hQ hI hc hh
    go_enter Tryz.func41, Tryz.ntmps41
    go_upto_region 1 with fail
    refine name_world fun V hV => ?_
    have HS0 : Hid (TrS w V now room A L.length c Q P.length d) := Lib.hid (by rw [hV]; exact TrS.mk0 ..)
    clear hV
    obtain ⟨x0, y0⟩ := box_rules HS0.out.b0
    have l0 := box_lt HS0.out.b0
    obtain ⟨x1, y1⟩ := box_rules HS0.out.b1
    have l1 := box_lt HS0.out.b1
    go_upto_region 2 with (go_at_call 61; (with_reducible refine (f1.out _ (HR.out.below HS0.out.bel)).mono ?_); rintro e w5 ⟨A5, c5, rfl, hr5, ho5, hb5⟩; have HR5 := Lib.hid hr5; have HO5 := Lib.hid ho5; have HS5 := Lib.hid (HS0.out.below hb5); have HV5 := Lib.hid hb5.size; clear hr5 ho5 hb5)
    refine name_world fun U hU => ?_
    have hbU : Below w5.heap.size w5 U := by rw [hU]; exact (Below.refl _ _).alloc (Nat.le_refl _) _
    have HX : Hid (U.heap[w5.heap.size]? = some (.cells #[.int .i64 now, .int .i64 room, .slice A5 L2.length c5] 32 (0, 0))) := Lib.hid (by rw [hU]; exact heap_alloc_new _ _)
    have HSU := Lib.hid (HS5.out.below hbU)
    have HRU := Lib.hid (HR5.out.below hbU)
    have HOf : Hid (∀ a, A5 = some a → a.block < w.heap.size ∨ w.heap.size + 2 ≤ a.block) := Lib.hid (off_two HA.out (fun a ha => (HO5.out a ha).imp (fun h => h) (fun h => Nat.le_trans HS0.out.sz h.1)))
    have HOg : Hid (∀ a, A5 = some a → A = some a ∨ (w.heap.size ≤ a.block ∧ a.block < U.heap.size)) := Lib.hid (fun a ha => (HO5.out a ha).imp (fun h => h) (fun h => ⟨Nat.le_trans HS0.out.bel.size h.1, Nat.lt_of_lt_of_le h.2 hbU.size⟩))
    clear hU hbU x0 y0 x1 y1 l0 l1
    generalize w5.heap.size = b8 at *
    obtain ⟨x8, y8⟩ := box_rules HX.out
    have l8 := box_lt HX.out
    obtain ⟨x0, y0⟩ := box_rules (HSU.out).b0
    have l0 := box_lt (HSU.out).b0
    obtain ⟨x1, y1⟩ := box_rules (HSU.out).b1
    have l1 := box_lt (HSU.out).b1
    go_upto_region 5 with fail
    refine name_world fun X hX => ?_
    obtain ⟨hSX, hTX⟩ := HSU.out.wheel now room A5 L2.length c5
    rw [← hX] at hSX hTX
    have HSX := Lib.hid hSX; have HTX := Lib.hid hTX
    clear hX hSX hTX x0 y0 x1 y1 l0 l1 x8 y8 l8
    obtain ⟨x0, y0⟩ := box_rules (HSX.out).b0
    have l0 := box_lt (HSX.out).b0
    obtain ⟨x1, y1⟩ := box_rules (HSX.out).b1
    have l1 := box_lt (HSX.out).b1
    have hZ := HSX.out.sz
    go_wp2_with (go_at_call 62; (with_reducible refine (f2.out _ _ _ _ (HQ.out.below HSX.out.bel)).mono ?_); rintro e w6 ⟨Q6, d6, rfl, hq6, ho6, hb6⟩; have HQ6 := Lib.hid hq6; have HP6 := Lib.hid ho6; have HS6 := Lib.hid (HSX.out.below hb6); have HB6 := Lib.hid hb6; clear hq6 ho6 hb6 x0 y0 x1 y1 l0 l1; obtain ⟨x1, y1⟩ := box_rules HS6.out.b1; have l1 := box_lt HS6.out.b1)
    have hsX := HTX.out.size
    have hs6 := HB6.out.size
    refine name_post fun V4 hV4 => ?_
    obtain ⟨hE4, hB4, hT4⟩ := TrS.done (HS6.out) (now) room (A5) (L2.length) (c5) (Q6) (P2.length) (d6)
    rw [← hV4] at hE4 hB4 hT4
    obtain ⟨vx, vy⟩ := box_rules hE4
    clear hV4
    refine bodyPost_ret (v := .tuple #[.agg #[.int .i64 (now), .int .i64 room, .slice (A5) (L2.length) (c5), .slice (Q6) (P2.length) (d6)], .int .i64 (0)]) (by simp [results, Tryz.f41, go_sem, vx]) rfl ?_
    have hQo : ∀ a, Q6 = some a → a.block < w.heap.size ∨ w.heap.size + 2 ≤ a.block := fun a ha => .inr (Nat.le_trans hZ (HP6.out a ha).1)
    have hs4 := hT4.size
    refine ⟨A5, c5, Q6, d6, rfl, ((HRU.out.two HTX.out HOf.out (fun b hb => .inl (List.mem_singleton.1 hb))).below HB6.out).two hT4 HOf.out (fun b hb => .inr (List.mem_singleton.1 hb)), HQ6.out.two hT4 hQo (fun b hb => .inr (List.mem_singleton.1 hb)), fun a ha => (HOg.out a ha).imp (fun h => h) (fun h => ⟨h.1, by omega⟩), fun a ha => .inr ⟨Nat.le_trans HSX.out.bel.size (HP6.out a ha).1, Nat.lt_of_lt_of_le (HP6.out a ha).2 hs4⟩, hB4⟩
  · have hc : canC L id = 3 := if_neg hh
    have hw : woD P id = P := List.filter_eq_self.2 fun x hx => by
      simp only [ne_eq, decide_eq_true_eq]
      exact fun e => hh (by rw [← e]; exact hI.has x hx)
    have hcl : canL L id = L := can_none (by simpa using hh)
    rw [hc] at f1 ⊢
    rw [hcl] at f1 ⊢
    rw [hw]
    unfold rtv
    clear hr hq hA hQ hI hc hh hw hcl
    go_enter Tryz.func41, Tryz.ntmps41
    go_upto_region 1 with fail
    refine name_world fun V hV => ?_
    have HS0 : Hid (TrS w V now room A L.length c Q P.length d) := Lib.hid (by rw [hV]; exact TrS.mk0 ..)
    clear hV
    obtain ⟨x0, y0⟩ := box_rules HS0.out.b0
    have l0 := box_lt HS0.out.b0
    obtain ⟨x1, y1⟩ := box_rules HS0.out.b1
    have l1 := box_lt HS0.out.b1
    go_upto_region 2 with (go_at_call 61; (with_reducible refine (f1.out _ (HR.out.below HS0.out.bel)).mono ?_); rintro e w5 ⟨A5, c5, rfl, hr5, ho5, hb5⟩; have HS5 := Lib.hid (HS0.out.below hb5); clear hr5 ho5 hb5)
    refine name_world fun U hU => ?_
    have hbU : Below w5.heap.size w5 U := by rw [hU]; exact (Below.refl _ _).alloc (Nat.le_refl _) _
    have HSU := Lib.hid (HS5.out.below hbU)
    clear hU hbU x0 y0 x1 y1 l0 l1
    generalize w5.heap.size = b8 at *
    obtain ⟨x0, y0⟩ := box_rules (HSU.out).b0
    have l0 := box_lt (HSU.out).b0
    obtain ⟨x1, y1⟩ := box_rules (HSU.out).b1
    have l1 := box_lt (HSU.out).b1
    go_wp2
    refine name_post fun V4 hV4 => ?_
    obtain ⟨hE4, hB4, hT4⟩ := TrS.done (HSU.out) (now) room (A) (L.length) (c) (Q) (P.length) (d)
    rw [← hV4] at hE4 hB4 hT4
    obtain ⟨vx, vy⟩ := box_rules hE4
    clear hV4
    refine bodyPost_ret (v := .tuple #[.agg #[.int .i64 (now), .int .i64 room, .slice (A) (L.length) (c), .slice (Q) (P.length) (d)], .int .i64 (3)]) (by simp [results, Tryz.f41, go_sem, vx]) rfl ?_
    exact ⟨A, c, Q, d, rfl, HR.out.below hB4, HQ.out.below hB4, fun a ha => .inl ha, fun a ha => .inl ha, hB4⟩
end Go.Proofs.YtiblpnadninmbaaGreatDoor
/- Package vergeref09: the walks of Every, New, Same. Conditions: lists that read. -/
namespace Go.Proofs.YtiblpnadninmbaaGreatDoor
open Go.RowKit Go.Shelf
attribute [local go_sem] Oper.semAt_some

set_option maxHeartbeats 4000000 in
set_option maxRecDepth 100000 in
theorem revery_any (now : Int) (room : Nat) (id a p : Int) (L : List Du) (A : Option Addr) (c : Nat) (P : List Pe) (Q : Option Addr) (d : Nat) (w : World) (hL : L.length ≤ 1048576) (hP : P.length ≤ 1048575) (hr : Rd w A (L.flatMap duc)) (hq : Rd w Q (P.flatMap pec)) (hA : ∀ a, A = some a → a.block < w.heap.size) (hQ : ∀ a, Q = some a → a.block < w.heap.size) :
    Calls Tryz.prog 40 #[rtv now room A L.length c Q P.length d, .int .i64 id, .int .i64 a, .int .i64 p] w (RetRt now room (everyL room L id a p) (everyP room L P id a p) (everyC room L id a p) A Q w) := by
  have HR := Lib.hid hr; have HQ := Lib.hid hq; have HA := Lib.hid hA; have HQl := Lib.hid hQ
  have f1 := Lib.hid (fun X => rtime_any p X)
  unfold everyL everyP everyC
  by_cases hp : 1 ≤ p ∧ p ≤ 4503599627370496
  · simp only [if_pos hp]
    rw [decide_eq_true (show 0 ≤ p ∧ p ≤ 4503599627370496 by omega)] at f1
    have hp1 : ¬ p < 1 := by omega
    have f2 := Lib.hid (fun X (hX : Below w.heap.size w X) => rstart_any now room id a L A c P Q d X hL (hr.below hX) (hq.below hX) (fun a ha => Nat.lt_of_lt_of_le (hA a ha) hX.size) (fun a ha => Nat.lt_of_lt_of_le (hQ a ha) hX.size))
    unfold RetRt at f2
    by_cases hc : insC room L id a = 0
    · rw [hc] at f2 ⊢
      simp only [if_true]
      obtain ⟨P2, hP2⟩ : ∃ P2, P ++ [(⟨id, p⟩ : Pe)] = P2 := ⟨_, rfl⟩
      have HP2 : Hid (P2.flatMap pec = P.flatMap pec ++ [.int .i64 id, .int .i64 p]) := Lib.hid (by rw [← hP2, List.flatMap_append]; rfl)
      have HPl : Hid (P.length + 1 = P2.length) := Lib.hid (by rw [← hP2]; simp)
      rw [hP2]
      unfold rtv at f2 ⊢
      generalize insL room L id a = L2 at *
      clear hr hq hA hQ hp hc hP2
      go_enter Tryz.func40, Tryz.ntmps40
      go_upto_region 1 with fail
      refine name_world fun V hV => ?_
      have HS0 : Hid (TrS w V now room A L.length c Q P.length d) := Lib.hid (by rw [hV]; exact TrS.mk0 ..)
      clear hV
      obtain ⟨x0, y0⟩ := box_rules HS0.out.b0
      have l0 := box_lt HS0.out.b0
      obtain ⟨x1, y1⟩ := box_rules HS0.out.b1
      have l1 := box_lt HS0.out.b1
      go_upto_region 3 with (go_at_call 57; (with_reducible refine (f1.out _).mono ?_); rintro e w1 ⟨rfl, rfl⟩)
      go_upto_region 4 with (go_at_call 38; (with_reducible refine (f2.out _ HS0.out.bel).mono ?_); rintro e w5 ⟨A5, c5, Q5, d5, rfl, hr5, hq5, ho5, hp5, hb5⟩; have HR5 := Lib.hid hr5; have HQ5 := Lib.hid hq5; have HO5 := Lib.hid ho5; have HP5 := Lib.hid hp5; have HS5 := Lib.hid (HS0.out.below hb5); have HV5 := Lib.hid hb5.size; clear hr5 ho5 hb5 hq5 hp5)
      refine name_world fun U hU => ?_
      have hbU : Below w5.heap.size w5 U := by rw [hU]; exact (Below.refl _ _).alloc (Nat.le_refl _) _
      have HX : Hid (U.heap[w5.heap.size]? = some (.cells #[.int .i64 now, .int .i64 room, .slice A5 L2.length c5, .slice Q5 P.length d5] 35 (0, 0))) := Lib.hid (by rw [hU]; exact heap_alloc_new _ _)
      have HSU := Lib.hid (HS5.out.below hbU)
      have HRU := Lib.hid (HR5.out.below hbU)
      have HQU := Lib.hid (HQ5.out.below hbU)
      have hz8 : w.heap.size + 2 ≤ w5.heap.size := HS5.out.sz
      have HOf : Hid (∀ a, A5 = some a → (a.block < w.heap.size ∨ w.heap.size + 2 ≤ a.block) ∧ a.block < w5.heap.size) := Lib.hid (fun a ha => ⟨off_two HA.out (fun a ha => (HO5.out a ha).imp (fun h => h) (fun h => Nat.le_trans HS0.out.sz h.1)) a ha, by
        rcases HO5.out a ha with h | h
        · have := HA.out a h; omega
        · exact h.2⟩)
      have HOg : Hid (∀ a, A5 = some a → A = some a ∨ (w.heap.size ≤ a.block ∧ a.block < U.heap.size)) := Lib.hid (fun a ha => (HO5.out a ha).imp (fun h => h) (fun h => ⟨Nat.le_trans HS0.out.bel.size h.1, Nat.lt_of_lt_of_le h.2 hbU.size⟩))
      clear hU hbU x0 y0 x1 y1 l0 l1
      generalize w5.heap.size = b8 at *
      obtain ⟨x8, y8⟩ := box_rules HX.out
      have l8 := box_lt HX.out
      obtain ⟨x0, y0⟩ := box_rules (HSU.out).b0
      have l0 := box_lt (HSU.out).b0
      obtain ⟨x1, y1⟩ := box_rules (HSU.out).b1
      have l1 := box_lt (HSU.out).b1
      have HE := Lib.hid (own_emptyK U 136 (k := 2) (Nat.le_refl _))
      go_upto_region 7 with (at_builtin; (first
        | (go_loud (refine wp_appNK rfl _ _ skc_pe (by decide) rfl HE.out rfl (by simp) Q5 P.length d5 _ rfl (pec_len P) (HQU.out.below ((Below.refl _ _).alloc (Nat.le_refl _) _)) (pec_one P) (by omega) ?_); intro A1 c1 v1 ho hb; rw [Nat.zero_add, List.nil_append] at ho; have HO1 := Lib.hid ho; have HB1 := Lib.hid (((Below.refl U.heap.size U).alloc (Nat.le_refl _) _).trans hb); clear ho hb)
        | (go_loud (refine wp_appK rfl _ _ skc_pe (by decide) rfl (own_allocK HO1.out _) rfl (by omega) (by have := HB1.out.size; simp at this ⊢; omega) v1.heap.size [.int .i64 id, .int .i64 p] rfl rfl (fun j u hu => new_cell hu) rfl ?_); intro A3 c3 v3 ho hg hat; have HO3 := Lib.hid ho; have HB3 := Lib.hid ((grown_step HO1.out hg).below HB1.out (Nat.le_refl _) HB1.out.size); clear ho hg hat; have HX3 := Lib.hid (box_keep HX.out HB3.out); obtain ⟨z8, zz8⟩ := box_rules HX3.out; have lz8 := box_lt HX3.out)))
      refine name_world fun X hX => ?_
      have HSX0 := HSU.out.below HB3.out
      have hTX : Tn [b8] v3 X := by rw [hX]; exact (Tn.refl _ _).setCell (by simp) _
      have HSX := Lib.hid (HSX0.far hTX hz8)
      have HX4 : Hid (X.heap[b8]? = some (.cells #[.int .i64 now, .int .i64 room, .slice A5 L2.length c5, .slice A3 (P.length + 1) c3] 35 (0, 0))) := Lib.hid (by rw [hX]; exact box_set (i := 3) HX3.out _)
      have HOX : Hid (X.ownsRow U.heap.size 136 2 (.slice A3 (P.length + 1) c3) (P.length + 1) (P2.flatMap pec)) := Lib.hid (by rw [hX, HP2.out]; exact own_setK HO3.out (own_low HO3.out l8) _)
      have HRX := Lib.hid ((HRU.out.below HB3.out).tn hTX (fun a ha hm => by have h9 := (HOf.out a ha).2; have h8 := List.mem_singleton.1 hm; omega))
      have hsX : U.heap.size ≤ X.heap.size := Nat.le_trans HB3.out.size hTX.size
      clear hX hTX HSX0 x0 y0 x1 y1 l0 l1 x8 y8 z8 zz8 lz8 HX3 HO3
      obtain ⟨x0, y0⟩ := box_rules (HSX.out).b0
      have l0 := box_lt (HSX.out).b0
      obtain ⟨x1, y1⟩ := box_rules (HSX.out).b1
      have l1 := box_lt (HSX.out).b1
      obtain ⟨x8, y8⟩ := box_rules HX4.out
      have l9 := box_lt HX4.out
      go_wp2
      refine name_post fun V4 hV4 => ?_
      obtain ⟨hE4, hB4, hT4⟩ := TrS.done (HSX.out) (now) room (A5) (L2.length) (c5) (A3) (P.length + 1) (c3)
      rw [← hV4] at hE4 hB4 hT4
      obtain ⟨vx, vy⟩ := box_rules hE4
      clear hV4
      refine bodyPost_ret (v := .tuple #[.agg #[.int .i64 (now), .int .i64 room, .slice (A5) (L2.length) (c5), .slice (A3) (P.length + 1) (c3)], .int .i64 (0)]) (by simp [results, Tryz.f40, go_sem, vx]) rfl ?_
      have hs4 := hT4.size
      have hzU := HSU.out.sz
      have hA3 : ∀ a, A3 = some a → U.heap.size ≤ a.block ∧ a.block < X.heap.size := fun a ha => by
        subst ha
        exact ⟨(own_blockK HOX.out rfl).1, (own_blockK HOX.out rfl).2.1⟩
      refine ⟨A5, c5, A3, c3, by rw [← HPl.out]; rfl, HRX.out.two hT4 (fun a ha => (HOf.out a ha).1) (fun b hb => .inr (List.mem_singleton.1 hb)), (own_rdK HOX.out).two hT4 (fun a ha => .inr (Nat.le_trans hzU (hA3 a ha).1)) (fun b hb => .inr (List.mem_singleton.1 hb)), fun a ha => (HOg.out a ha).imp (fun h => h) (fun h => ⟨h.1, by omega⟩), fun a ha => .inr ⟨by have := (hA3 a ha).1; omega, Nat.lt_of_lt_of_le (hA3 a ha).2 hs4⟩, hB4⟩
    · obtain ⟨cc, hcq⟩ : ∃ cc, insC room L id a = cc := ⟨_, rfl⟩
      have hLq : insL room L id a = L := if_neg hc
      rw [hcq] at f2 hc ⊢
      simp only [if_neg hc]
      rw [hLq] at f2 ⊢
      unfold rtv at f2 ⊢
      clear hr hq hA hQ hp hcq hLq
      go_enter Tryz.func40, Tryz.ntmps40
      go_upto_region 1 with fail
      refine name_world fun V hV => ?_
      have HS0 : Hid (TrS w V now room A L.length c Q P.length d) := Lib.hid (by rw [hV]; exact TrS.mk0 ..)
      clear hV
      obtain ⟨x0, y0⟩ := box_rules HS0.out.b0
      have l0 := box_lt HS0.out.b0
      obtain ⟨x1, y1⟩ := box_rules HS0.out.b1
      have l1 := box_lt HS0.out.b1
      go_upto_region 3 with (go_at_call 57; (with_reducible refine (f1.out _).mono ?_); rintro e w1 ⟨rfl, rfl⟩)
      go_upto_region 4 with (go_at_call 38; (with_reducible refine (f2.out _ HS0.out.bel).mono ?_); rintro e w5 ⟨A5, c5, Q5, d5, rfl, hr5, hq5, ho5, hp5, hb5⟩; have HS5 := Lib.hid (HS0.out.below hb5); clear hr5 ho5 hb5 hq5 hp5)
      refine name_world fun U hU => ?_
      have hbU : Below w5.heap.size w5 U := by rw [hU]; exact (Below.refl _ _).alloc (Nat.le_refl _) _
      have HSU := Lib.hid (HS5.out.below hbU)
      clear hU hbU x0 y0 x1 y1 l0 l1
      generalize w5.heap.size = b8 at *
      obtain ⟨x0, y0⟩ := box_rules (HSU.out).b0
      have l0 := box_lt (HSU.out).b0
      obtain ⟨x1, y1⟩ := box_rules (HSU.out).b1
      have l1 := box_lt (HSU.out).b1
      go_wp2
      refine name_post fun V4 hV4 => ?_
      obtain ⟨hE4, hB4, hT4⟩ := TrS.done (HSU.out) (now) room (A) (L.length) (c) (Q) (P.length) (d)
      rw [← hV4] at hE4 hB4 hT4
      obtain ⟨vx, vy⟩ := box_rules hE4
      clear hV4
      refine bodyPost_ret (v := .tuple #[.agg #[.int .i64 (now), .int .i64 room, .slice (A) (L.length) (c), .slice (Q) (P.length) (d)], .int .i64 (cc)]) (by simp [results, Tryz.f40, go_sem, vx]) rfl ?_
      exact ⟨A, c, Q, d, rfl, HR.out.below hB4, HQ.out.below hB4, fun a ha => .inl ha, fun a ha => .inl ha, hB4⟩
  · simp only [if_neg hp]
    rw [if_neg (by decide)]
    unfold rtv
    clear hr hq hA hQ
    go_enter Tryz.func40, Tryz.ntmps40
    go_upto_region 1 with fail
    refine name_world fun V hV => ?_
    have HS0 : Hid (TrS w V now room A L.length c Q P.length d) := Lib.hid (by rw [hV]; exact TrS.mk0 ..)
    clear hV
    obtain ⟨x0, y0⟩ := box_rules HS0.out.b0
    have l0 := box_lt HS0.out.b0
    obtain ⟨x1, y1⟩ := box_rules HS0.out.b1
    have l1 := box_lt HS0.out.b1
    by_cases h1 : p < 1
    · clear hp
      go_wp2_with (go_at_call 57; (with_reducible refine (f1.out _).mono ?_); rintro e w1 ⟨rfl, rfl⟩)
      refine name_post fun V4 hV4 => ?_
      obtain ⟨hE4, hB4, hT4⟩ := TrS.done (HS0.out) (now) room (A) (L.length) (c) (Q) (P.length) (d)
      rw [← hV4] at hE4 hB4 hT4
      obtain ⟨vx, vy⟩ := box_rules hE4
      clear hV4
      refine bodyPost_ret (v := .tuple #[.agg #[.int .i64 (now), .int .i64 room, .slice (A) (L.length) (c), .slice (Q) (P.length) (d)], .int .i64 (1)]) (by simp [results, Tryz.f40, go_sem, vx]) rfl ?_
      exact ⟨A, c, Q, d, rfl, HR.out.below hB4, HQ.out.below hB4, fun a ha => .inl ha, fun a ha => .inl ha, hB4⟩
    · have hp2 : decide (0 ≤ p ∧ p ≤ 4503599627370496) = false := decide_eq_false (by omega)
      rw [hp2] at f1
      clear hp hp2
      go_wp2_with (go_at_call 57; (with_reducible refine (f1.out _).mono ?_); rintro e w1 ⟨rfl, rfl⟩)
      refine name_post fun V4 hV4 => ?_
      obtain ⟨hE4, hB4, hT4⟩ := TrS.done (HS0.out) (now) room (A) (L.length) (c) (Q) (P.length) (d)
      rw [← hV4] at hE4 hB4 hT4
      obtain ⟨vx, vy⟩ := box_rules hE4
      clear hV4
      refine bodyPost_ret (v := .tuple #[.agg #[.int .i64 (now), .int .i64 room, .slice (A) (L.length) (c), .slice (Q) (P.length) (d)], .int .i64 (1)]) (by simp [results, Tryz.f40, go_sem, vx]) rfl ?_
      exact ⟨A, c, Q, d, rfl, HR.out.below hB4, HQ.out.below hB4, fun a ha => .inl ha, fun a ha => .inl ha, hB4⟩
set_option maxHeartbeats 4000000 in
set_option maxRecDepth 100000 in
theorem rtnew_ok (now : Int) (room : Nat) (w : World) (h0 : 0 ≤ now) (h1 : now ≤ 4503599627370496) (h2 : 1 ≤ room) (h3 : room ≤ 4096) :
    Calls Tryz.prog 20 #[.int .i64 now, .int .i64 room] w fun e w' => e = .returned (.tuple #[rtv now room none 0 0 none 0 0, .bool true]) ∧ Below w.heap.size w w' := by
  have f1 := Lib.hid (fun X => rnew_ok now room X h0 h1 h2 h3)
  unfold rwv at f1
  unfold rtv
  clear h0 h1 h2 h3
  go_enter Tryz.func20, Tryz.ntmps20
  go_upto_region 1 with fail
  refine name_world fun V hV => ?_
  have HB1 : Hid (V.heap[w.heap.size]? = some (.cells #[.int .i64 0, .int .i64 0, .slice none 0 0, .slice none 0 0] 35 (0, 0))) := Lib.hid (by rw [hV]; exact heap_alloc_new _ _)
  have HBV : Hid (Below w.heap.size w V) := Lib.hid (by rw [hV]; exact (Below.refl _ _).alloc (Nat.le_refl _) _)
  clear hV
  have l1 := box_lt HB1.out
  go_upto_region 2 with (go_at_call 37; (with_reducible refine (f1.out _).mono ?_); rintro e w5 ⟨rfl, hb5⟩; have HB5 := Lib.hid (box_keep HB1.out hb5); have HV5 := Lib.hid (HBV.out.trans (hb5.mono HBV.out.size)); clear hb5)
  refine name_world fun U hU => ?_
  have hbU : Below w5.heap.size w5 U := by rw [hU]; exact (Below.refl _ _).alloc (Nat.le_refl _) _
  have HX : Hid (U.heap[w5.heap.size]? = some (.cells #[.int .i64 (now), .int .i64 ((room : Int)), .slice none 0 0] 32 (0, 0))) := Lib.hid (by rw [hU]; exact heap_alloc_new _ _)
  have HU1 := Lib.hid (box_keep HB5.out hbU)
  have HUB := Lib.hid (HV5.out.trans (hbU.mono HV5.out.size))
  clear hU hbU l1
  generalize w5.heap.size = b8 at *
  obtain ⟨x8, y8⟩ := box_rules HX.out
  have l8 := box_lt HX.out
  obtain ⟨x1, y1⟩ := box_rules HU1.out
  have l1 := box_lt HU1.out
  go_wp2
  refine name_post fun V4 hV4 => ?_
  obtain ⟨hE4, hT4⟩ := set4 HU1.out rfl (.int .i64 (now)) (.int .i64 ((room : Int))) (.slice none 0 0) (.slice none 0 0)
  rw [← hV4] at hE4 hT4
  obtain ⟨vx, vy⟩ := box_rules hE4
  clear hV4
  refine bodyPost_ret (v := .tuple #[.agg #[.int .i64 (now), .int .i64 ((room : Int)), .slice none 0 0, .slice none 0 0], .bool true]) (by simp [results, Tryz.f20, go_sem, vx]) rfl ?_
  exact ⟨rfl, hT4.base HUB.out (fun k hk => by obtain rfl := List.mem_singleton.1 hk; exact Nat.le_refl _) HUB.out.size⟩
set_option maxHeartbeats 4000000 in
set_option maxRecDepth 100000 in
theorem rtnew_bad (now room : Int) (w : World) (h : ¬ ((0 ≤ now ∧ now ≤ 4503599627370496) ∧ 1 ≤ room ∧ room ≤ 4096)) :
    Calls Tryz.prog 20 #[.int .i64 now, .int .i64 room] w fun e w' => e = .returned (.tuple #[rtv 0 0 none 0 0 none 0 0, .bool false]) ∧ Below w.heap.size w w' := by
  have f1 := Lib.hid (fun X => rnew_bad now room X h)
  unfold rwv at f1
  unfold rtv
  clear h
  go_enter Tryz.func20, Tryz.ntmps20
  go_upto_region 1 with fail
  refine name_world fun V hV => ?_
  have HB1 : Hid (V.heap[w.heap.size]? = some (.cells #[.int .i64 0, .int .i64 0, .slice none 0 0, .slice none 0 0] 35 (0, 0))) := Lib.hid (by rw [hV]; exact heap_alloc_new _ _)
  have HBV : Hid (Below w.heap.size w V) := Lib.hid (by rw [hV]; exact (Below.refl _ _).alloc (Nat.le_refl _) _)
  clear hV
  have l1 := box_lt HB1.out
  go_upto_region 2 with (go_at_call 37; (with_reducible refine (f1.out _).mono ?_); rintro e w5 ⟨rfl, hb5⟩; have HB5 := Lib.hid (box_keep HB1.out hb5); have HV5 := Lib.hid (HBV.out.trans (hb5.mono HBV.out.size)); clear hb5)
  refine name_world fun U hU => ?_
  have hbU : Below w5.heap.size w5 U := by rw [hU]; exact (Below.refl _ _).alloc (Nat.le_refl _) _
  have HX : Hid (U.heap[w5.heap.size]? = some (.cells #[.int .i64 (0), .int .i64 (0), .slice none 0 0] 32 (0, 0))) := Lib.hid (by rw [hU]; exact heap_alloc_new _ _)
  have HU1 := Lib.hid (box_keep HB5.out hbU)
  have HUB := Lib.hid (HV5.out.trans (hbU.mono HV5.out.size))
  clear hU hbU l1
  generalize w5.heap.size = b8 at *
  obtain ⟨x8, y8⟩ := box_rules HX.out
  have l8 := box_lt HX.out
  obtain ⟨x1, y1⟩ := box_rules HU1.out
  have l1 := box_lt HU1.out
  go_wp2
  refine name_post fun V4 hV4 => ?_
  obtain ⟨hE4, hT4⟩ := set4 HU1.out rfl (.int .i64 (0)) (.int .i64 (0)) (.slice none 0 0) (.slice none 0 0)
  rw [← hV4] at hE4 hT4
  obtain ⟨vx, vy⟩ := box_rules hE4
  clear hV4
  refine bodyPost_ret (v := .tuple #[.agg #[.int .i64 (0), .int .i64 (0), .slice none 0 0, .slice none 0 0], .bool false]) (by simp [results, Tryz.f20, go_sem, vx]) rfl ?_
  exact ⟨rfl, hT4.base HUB.out (fun k hk => by obtain rfl := List.mem_singleton.1 hk; exact Nat.le_refl _) HUB.out.size⟩
end Go.Proofs.YtiblpnadninmbaaGreatDoor
/- Package vergeref09: what Run keeps; the walk of Same. Conditions: lists that read. -/
namespace Go.Proofs.YtiblpnadninmbaaGreatDoor
open Go.RowKit Go.Shelf
attribute [local go_sem] Oper.semAt_some
/-- Where a run of the document's stands: its timers in the call's box. -/
structure RrI (w wr : World) (T room : Int) (A Q : Option Addr) (L : List Du) (P : List Pe) (A' : Option Addr) (c' : Nat) (Q' : Option Addr) (d' : Nat) : Prop where
  s : TrS w wr T room A' L.length c' Q' P.length d'
  ra : Rd wr A' (L.flatMap duc)
  rq : Rd wr Q' (P.flatMap pec)
  oa : ∀ a, A' = some a → A = some a ∨ (w.heap.size + 2 ≤ a.block ∧ a.block < wr.heap.size)
  oq : ∀ a, Q' = some a → Q = some a ∨ (w.heap.size + 2 ≤ a.block ∧ a.block < wr.heap.size)
section
variable {w wr wx : World} {T room : Int} {A Q A' Q' A6 Q6 : Option Addr} {L L2 : List Du} {P P2 : List Pe} {c' d' c6 d6 : Nat}
theorem RrI.below (h : RrI w wr T room A Q L P A' c' Q' d') (hb : Below wr.heap.size wr wx) : RrI w wx T room A Q L P A' c' Q' d' :=
  ⟨h.s.below hb, h.ra.below hb, h.rq.below hb, fun a ha => (h.oa a ha).imp (fun h => h) (fun h => ⟨h.1, Nat.lt_of_lt_of_le h.2 hb.size⟩), fun a ha => (h.oq a ha).imp (fun h => h) (fun h => ⟨h.1, Nat.lt_of_lt_of_le h.2 hb.size⟩)⟩
/-- A block of the call's own turned, that is no row of these. -/
theorem RrI.far {b : Nat} (h : RrI w wr T room A Q L P A' c' Q' d') (ht : Tn [b] wr wx) (hb : w.heap.size + 2 ≤ b) (hA : ∀ a, A' = some a → a.block ≠ b) (hQ : ∀ a, Q' = some a → a.block ≠ b) : RrI w wx T room A Q L P A' c' Q' d' :=
  ⟨h.s.far ht hb, h.ra.tn ht (fun a ha hm => hA a ha (List.mem_singleton.1 hm)), h.rq.tn ht (fun a ha hm => hQ a ha (List.mem_singleton.1 hm)), fun a ha => (h.oa a ha).imp (fun h => h) (fun h => ⟨h.1, Nat.lt_of_lt_of_le h.2 ht.size⟩), fun a ha => (h.oq a ha).imp (fun h => h) (fun h => ⟨h.1, Nat.lt_of_lt_of_le h.2 ht.size⟩)⟩
/-- The wheel inside is a new one. -/
theorem RrI.wheel {U : World} (hA : ∀ a, A = some a → a.block < w.heap.size) (hQ : ∀ a, Q = some a → a.block < w.heap.size) (h : RrI w wr T room A Q L P A' c' Q' d') (hb : Below wr.heap.size wr U) (hr : Rd U A6 (L2.flatMap duc)) (ho : ∀ a, A6 = some a → A' = some a ∨ (wr.heap.size ≤ a.block ∧ a.block < U.heap.size)) :
    RrI w (((U.setCell ⟨w.heap.size, 0, none⟩ (.int .i64 T)).setCell ⟨w.heap.size, 1, none⟩ (.int .i64 room)).setCell ⟨w.heap.size, 2, none⟩ (.slice A6 L2.length c6)) T room A Q L2 P A6 c6 Q' d' ∧
    Tn [w.heap.size] U (((U.setCell ⟨w.heap.size, 0, none⟩ (.int .i64 T)).setCell ⟨w.heap.size, 1, none⟩ (.int .i64 room)).setCell ⟨w.heap.size, 2, none⟩ (.slice A6 L2.length c6)) := by
  have hU := h.below hb
  obtain ⟨h1, h2⟩ := hU.s.wheel T room A6 L2.length c6
  have ho' : ∀ a, A6 = some a → A = some a ∨ (w.heap.size + 2 ≤ a.block ∧ a.block < U.heap.size) := fun a ha => by
    rcases ho a ha with h9 | h9
    · exact hU.oa a h9
    · exact .inr ⟨Nat.le_trans h.s.sz h9.1, h9.2⟩
  refine ⟨⟨h1, hr.tn h2 (fun a ha hm => ?_), hU.rq.tn h2 (fun a ha hm => ?_), fun a ha => (ho' a ha).imp (fun h => h) (fun h => ⟨h.1, Nat.lt_of_lt_of_le h.2 h2.size⟩), fun a ha => (hU.oq a ha).imp (fun h => h) (fun h => ⟨h.1, Nat.lt_of_lt_of_le h.2 h2.size⟩)⟩, h2⟩
  · have h8 := List.mem_singleton.1 hm
    rcases ho' a ha with h9 | h9
    · have := hA a h9; omega
    · omega
  · have h8 := List.mem_singleton.1 hm
    rcases hU.oq a ha with h9 | h9
    · have := hQ a h9; omega
    · omega
/-- All inside is new. -/
theorem RrI.whole {U : World} (hA : ∀ a, A = some a → a.block < w.heap.size) (h : RrI w wr T room A Q L P A' c' Q' d') (hb : Below wr.heap.size wr U) (hq : Rd U Q6 (P2.flatMap pec)) (ho : ∀ a, Q6 = some a → wr.heap.size ≤ a.block ∧ a.block < U.heap.size) :
    RrI w ((((U.setCell ⟨w.heap.size, 0, none⟩ (.int .i64 T)).setCell ⟨w.heap.size, 1, none⟩ (.int .i64 room)).setCell ⟨w.heap.size, 2, none⟩ (.slice A' L.length c')).setCell ⟨w.heap.size, 3, none⟩ (.slice Q6 P2.length d6)) T room A Q L P2 A' c' Q6 d6 ∧
    Tn [w.heap.size] U ((((U.setCell ⟨w.heap.size, 0, none⟩ (.int .i64 T)).setCell ⟨w.heap.size, 1, none⟩ (.int .i64 room)).setCell ⟨w.heap.size, 2, none⟩ (.slice A' L.length c')).setCell ⟨w.heap.size, 3, none⟩ (.slice Q6 P2.length d6)) := by
  have hU := h.below hb
  obtain ⟨h1, h2⟩ := set4 hU.s.b0 rfl (.int .i64 T) (.int .i64 room) (.slice A' L.length c') (.slice Q6 P2.length d6)
  refine ⟨⟨⟨h1, h2.box hU.s.b1 (by simp), h2.base hU.s.bel (fun k hk => by obtain rfl := List.mem_singleton.1 hk; exact Nat.le_refl _) hU.s.bel.size, Nat.le_trans hU.s.sz h2.size⟩, hU.ra.tn h2 (fun a ha hm => ?_), hq.tn h2 (fun a ha hm => ?_), fun a ha => (hU.oa a ha).imp (fun h => h) (fun h => ⟨h.1, Nat.lt_of_lt_of_le h.2 h2.size⟩), fun a ha => .inr ⟨Nat.le_trans h.s.sz (ho a ha).1, Nat.lt_of_lt_of_le (ho a ha).2 h2.size⟩⟩, h2⟩
  · have h8 := List.mem_singleton.1 hm
    rcases hU.oa a ha with h9 | h9
    · have := hA a h9; omega
    · omega
  · have h8 := List.mem_singleton.1 hm
    have h9 := ho a ha
    have := h.s.sz
    omega
end
section
variable {w wr wx : World} {T room : Int} {A Q A' Q' A6 Q6 : Option Addr} {L L2 : List Du} {P P2 : List Pe} {c' d' c6 d6 : Nat}
theorem RrI.farF {F : List Nat} (h : RrI w wr T room A Q L P A' c' Q' d') (ht : Tn F wr wx) (hF : ∀ k ∈ F, w.heap.size + 2 ≤ k ∧ (∀ a, A' = some a → a.block ≠ k) ∧ ∀ a, Q' = some a → a.block ≠ k) : RrI w wx T room A Q L P A' c' Q' d' :=
  ⟨⟨ht.box h.s.b0 (fun hm => by have := (hF _ hm).1; omega), ht.box h.s.b1 (fun hm => by have := (hF _ hm).1; omega), ht.base h.s.bel (fun k hk => by have := (hF _ hk).1; omega) h.s.bel.size, Nat.le_trans h.s.sz ht.size⟩,
    h.ra.tn ht (fun a ha hm => (hF _ hm).2.1 a ha rfl), h.rq.tn ht (fun a ha hm => (hF _ hm).2.2 a ha rfl), fun a ha => (h.oa a ha).imp (fun h => h) (fun h => ⟨h.1, Nat.lt_of_lt_of_le h.2 ht.size⟩), fun a ha => (h.oq a ha).imp (fun h => h) (fun h => ⟨h.1, Nat.lt_of_lt_of_le h.2 ht.size⟩)⟩
/-- The row of those that fired is apart from the timers' rows. -/
def ApR (v : Value) (A' Q' : Option Addr) : Prop := ∀ g, v.ownBlock = some g → (∀ a, A' = some a → a.block ≠ g) ∧ ∀ a, Q' = some a → a.block ≠ g
theorem ApR.new {v : Value} {n : Nat} (h : ApR v A' Q') (hv : ∀ g, v.ownBlock = some g → g < n) (hA : ∀ a, A6 = some a → A' = some a ∨ n ≤ a.block) (hQ : ∀ a, Q6 = some a → Q' = some a ∨ n ≤ a.block) : ApR v A6 Q6 := fun g hg =>
  ⟨fun a ha => (hA a ha).elim (fun h9 => (h g hg).1 a h9) (fun h9 => by have := hv g hg; omega), fun a ha => (hQ a ha).elim (fun h9 => (h g hg).2 a h9) (fun h9 => by have := hv g hg; omega)⟩
theorem ApR.grow {v v' : Value} {n : Nat} (h : ApR v A' Q') (hv : v'.ownBlock = v.ownBlock ∨ v'.ownBlock = some n) (hA : ∀ a, A' = some a → a.block < n) (hQ : ∀ a, Q' = some a → a.block < n) : ApR v' A' Q' := fun g hg => by
  rcases hv with h9 | h9
  · exact h g (by rw [← h9]; exact hg)
  · rw [h9] at hg
    cases hg
    exact ⟨fun a ha => by have := hA a ha; omega, fun a ha => by have := hQ a ha; omega⟩
theorem app_tnF {o : Obj} {v : Value} (hg : (wr.alloc o).grownBy wx v.ownBlock) : ∃ F : List Nat, Tn F wr wx ∧ ∀ k ∈ F, v.ownBlock = some k := by
  cases hv : v.ownBlock with
  | none =>
    rw [hv] at hg
    exact ⟨[], ((Tn.refl _ _).alloc _).trans ((Tn.refl _ _).grown hg (fun k e => by cases e)), fun k hk => by cases hk⟩
  | some g =>
    rw [hv] at hg
    exact ⟨[g], ((Tn.refl _ _).alloc _).trans ((Tn.refl _ _).grown hg (fun k e => by cases e; simp)), fun k hk => by rw [List.mem_singleton.1 hk]⟩
end
/-- Times that may be. -/
def AtOk (L : List Du) : Prop := ∀ x ∈ L, 0 ≤ x.at' ∧ x.at' ≤ 4503599627370496
theorem AtOk.can {L : List Du} (h : AtOk L) (id : Int) : AtOk (canL L id) := fun x hx => by
  unfold canL at hx
  exact h x (List.mem_filter.1 hx).1
theorem AtOk.ins {L : List Du} (h : AtOk L) (room : Nat) (id a : Int) : AtOk (insL room L id a) := fun x hx => by
  unfold insL at hx
  by_cases hc : insC room L id a = 0
  · rw [if_pos hc] at hx
    rcases List.mem_append.1 hx with hx | hx
    · exact h x hx
    · obtain rfl := List.mem_singleton.1 hx
      unfold insC at hc
      split at hc
      · omega
      · rename_i h9
        simpa using h9
  · rw [if_neg hc] at hx
    exact h x hx
theorem AtOk.fire {L : List Du} (h : AtOk L) (room : Nat) (now : Int) (P : List Pe) : AtOk (fireL room now L P) := by
  unfold fireL
  split
  · exact h.can _
  · exact (h.can _).ins _ _ _
theorem can_le (L : List Du) (id : Int) : (canL L id).length ≤ L.length := List.length_filter_le _ _
theorem ins_le {room : Nat} {L : List Du} {id a : Int} (hr : room ≤ 4096) (hl : L.length ≤ 4096) : (insL room L id a).length ≤ 4096 := by
  unfold insL
  by_cases hc : insC room L id a = 0
  · rw [if_pos hc]
    unfold insC at hc
    split at hc
    · omega
    · split at hc
      · omega
      · split at hc
        · omega
        · simp; omega
  · rw [if_neg hc]; exact hl
theorem fire_le {room : Nat} {L : List Du} {P : List Pe} {now : Int} (hr : room ≤ 4096) (hl : L.length ≤ 4096) : (fireL room now L P).length ≤ 4096 := by
  unfold fireL
  have h1 := can_le L (popR now L).id
  split
  · omega
  · exact ins_le hr (by omega)
theorem fireP_le (room : Nat) (L : List Du) (P : List Pe) (now : Int) : (fireP room now L P).length ≤ P.length ∧ ∀ x ∈ fireP room now L P, x ∈ P := by
  unfold fireP
  split
  · exact ⟨Nat.le_refl _, fun x h => h⟩
  · split
    · exact ⟨Nat.le_refl _, fun x h => h⟩
    · exact ⟨List.length_filter_le _ _, fun x h => (wo_mem.1 h).1⟩
theorem Rd.fiAt {w : World} {A : Option Addr} {ts : List Fi} (h : Rd w A (ts.flatMap fic)) {k : Nat} (hk : k < ts.length) : ∃ a x, A = some a ∧ ts.getD k fi0 = x ∧
    w.cell? (a.add (k * 3)) = some (.int .i64 x.id) ∧ w.cell? ⟨(a.add (k * 3)).block, (a.add (k * 3)).off + 1, none⟩ = some (.int .i64 x.at') ∧ w.cell? ⟨(a.add (k * 3)).block, (a.add (k * 3)).off + 2, none⟩ = some (.int .i64 x.late) := by
  have g := flat_get (f := fic) (k := 3) (fun _ => rfl) fi0 ts k hk
  generalize ts.getD k fi0 = x at *
  obtain ⟨a, rfl, h0⟩ := h _ _ (g 0 (by omega))
  obtain ⟨_, ha1, h1⟩ := h _ _ (g 1 (by omega)); cases ha1
  obtain ⟨_, ha2, h2⟩ := h _ _ (g 2 (by omega)); cases ha2
  refine ⟨a, x, rfl, rfl, h0, ?_, ?_⟩
  · rw [← add_plus2 a (k * 3) 1 (by omega)]; exact h1
  · rw [← add_plus2 a (k * 3) 2 (by omega)]; exact h2
end Go.Proofs.YtiblpnadninmbaaGreatDoor
/- Package vergeref09: the walks of Same and Run. Conditions: lists that read. -/
namespace Go.Proofs.YtiblpnadninmbaaGreatDoor
open Go.RowKit Go.Shelf
attribute [local go_sem] Oper.semAt_some

set_option maxHeartbeats 4000000 in
theorem rtsame_one (l : List Fi) (hl : l.length ≤ 1048577) (A : Option Addr) (c : Nat) (B : Option Addr) (d : Nat) (w : World) (ha : Rd w A (l.flatMap fic)) (hb : Rd w B (l.flatMap fic)) :
    Calls Tryz.prog 15 #[.slice A l.length c, .slice B l.length d] w fun e w' => e = .returned (.bool true) ∧ ∃ n, w.drewN n = w' := by
  have Ha := Lib.hid ha; have Hb := Lib.hid hb
  clear ha hb
  go_enter Tryz.func15, Tryz.ntmps15
  go_wp2
  go_loopw [13] (fun i wr => ∃ k : Nat, k ≤ l.length ∧ i = .int .i64 k ∧ ∃ n, wr = w.drewN n) (fun i _ => l.length - (intOf i).toNat)
  case atStart => exact ⟨0, by omega, rfl, 0, rfl⟩
  case round =>
    obtain ⟨k, hk, rfl, n, rfl⟩ := hrel
    by_cases hlt : k < l.length
    · obtain ⟨a, x, rfl, hx, g0, g1, g2⟩ := Ha.out.fiAt hlt
      obtain ⟨b, y, rfl, hy, q0, q1, q2⟩ := Hb.out.fiAt hlt
      obtain rfl : x = y := hx.symm.trans hy
      clear hx hy
      obtain ⟨x0, x1, x2⟩ := x
      dsimp only at *
      go_wp2
      go_quiet (fail)
      go_wp2
      go_roundw
      case rel => exact ⟨k + 1, by omega, by go_num, _, rfl⟩
      case measure => simp [intOf]; omega
    · obtain rfl : k = l.length := by omega
      go_wp2
      go_ret
      exact ⟨rfl, n, rfl⟩
/-- What Run of the document's hands back where it may. -/
def RrOk (R : List Fi × List Du × List Pe) (T room : Int) (A Q : Option Addr) (w : World) (e : Ending) (w' : World) : Prop :=
  ∃ A' c' Q' d' B cb, e = .returned (.tuple #[.agg #[.int .i64 T, .int .i64 room, .slice A' R.2.1.length c', .slice Q' R.2.2.length d'], .slice B R.1.length cb, .int .i64 0]) ∧
    Rd w' A' (R.2.1.flatMap duc) ∧ Rd w' Q' (R.2.2.flatMap pec) ∧ Rd w' B (R.1.flatMap fic) ∧
    (∀ a, A' = some a → A = some a ∨ (w.heap.size ≤ a.block ∧ a.block < w'.heap.size)) ∧ (∀ a, Q' = some a → Q = some a ∨ (w.heap.size ≤ a.block ∧ a.block < w'.heap.size)) ∧ (∀ a, B = some a → w.heap.size ≤ a.block) ∧ Below w.heap.size w w'
/-- What Run of the document's hands back. -/
def RetRr (now room T : Int) (rm : Nat) (L : List Du) (P : List Pe) (A : Option Addr) (c : Nat) (Q : Option Addr) (d : Nat) (w : World) (e : Ending) (w' : World) : Prop :=
  if (0 ≤ T ∧ T ≤ 4503599627370496) ∧ now ≤ T then RrOk (runT rm T 1024 L P) T room A Q w e w'
  else e = .returned (.tuple #[rtv now room A L.length c Q P.length d, .slice none 0 0, .int .i64 1]) ∧ Below w.heap.size w w'
set_option maxHeartbeats 8000000 in
set_option maxRecDepth 100000 in
theorem rrun_any (now : Int) (room : Nat) (T : Int) (L : List Du) (A : Option Addr) (c : Nat) (P : List Pe) (Q : Option Addr) (d : Nat) (w : World) (hrm : room ≤ 4096) (hL : L.length ≤ 4096) (hP : P.length ≤ 1048575) (hat : AtOk L) (hlo : ∀ x ∈ P, 1 ≤ x.long ∧ x.long ≤ 4503599627370496) (hr : Rd w A (L.flatMap duc)) (hq : Rd w Q (P.flatMap pec)) (hA : ∀ a, A = some a → a.block < w.heap.size) (hQ : ∀ a, Q = some a → a.block < w.heap.size) :
    Calls Tryz.prog 42 #[rtv now room A L.length c Q P.length d, .int .i64 T] w (RetRr now room T room L P A c Q d w) := by
  have HR := Lib.hid hr; have HQ := Lib.hid hq; have HA := Lib.hid hA; have HQl := Lib.hid hQ
  have f1 := Lib.hid (fun X => rtime_any T X)
  unfold RetRr
  by_cases hc : (0 ≤ T ∧ T ≤ 4503599627370496) ∧ now ≤ T
  · simp only [if_pos hc]
    rw [decide_eq_true hc.1] at f1
    obtain ⟨R, hR⟩ : ∃ R, runT room T 1024 L P = R := ⟨_, rfl⟩
    have HRu : Hid (∀ out L' P', runT room T 1024 L P = (out, L', P') → R = (out, L', P')) := Lib.hid (fun _ _ _ h9 => hR.symm.trans h9)
    rw [hR]
    have hT0 := hc.1
    have hnT : decide (T < now) = false := decide_eq_false (by omega)
    have Hat := Lib.hid hat; have Hlo := Lib.hid hlo
    unfold rtv
    clear hr hq hA hQ hR hc hat hlo
    go_enter Tryz.func42, Tryz.ntmps42
    go_upto_region 1 with fail
    refine name_world fun V hV => ?_
    have HS0 : Hid (TrS w V now room A L.length c Q P.length d) := Lib.hid (by rw [hV]; exact TrS.mk0 ..)
    clear hV
    obtain ⟨x0, y0⟩ := box_rules HS0.out.b0
    have l0 := box_lt HS0.out.b0
    obtain ⟨x1, y1⟩ := box_rules HS0.out.b1
    have l1 := box_lt HS0.out.b1
    go_upto_region 3 with (go_at_call 57; (with_reducible refine (f1.out _).mono ?_); rintro e w1 ⟨rfl, rfl⟩)
    go_upto_region 5 with fail
    refine name_world fun V1 hV1 => ?_
    have HI0 : Hid (RrI w V1 T room A Q L P A c Q d) := Lib.hid (by
      have h2 : Tn [w.heap.size] V V1 := by rw [hV1]; exact (Tn.refl _ _).setCell (by simp) _
      refine ⟨⟨by rw [hV1]; exact box_set (i := 0) HS0.out.b0 _, h2.box HS0.out.b1 (by simp), h2.base HS0.out.bel (fun k hk => by obtain rfl := List.mem_singleton.1 hk; exact Nat.le_refl _) HS0.out.bel.size, Nat.le_trans HS0.out.sz h2.size⟩, (HR.out.below HS0.out.bel).tn h2 (fun a ha hm => ?_), (HQ.out.below HS0.out.bel).tn h2 (fun a ha hm => ?_), fun a ha => .inl ha, fun a ha => .inl ha⟩
      · have := HA.out a ha; have := List.mem_singleton.1 hm; omega
      · have := HQl.out a ha; have := List.mem_singleton.1 hm; omega)
    have HRz := Lib.hid (RuI.zero room T L P)
    clear hV1 x0 y0 x1 y1 l0 l1 HS0 HR HQ
    go_loopw [7] (fun o wr => ∃ (out : List Fi) (L' : List Du) (P' : List Pe) (A' : Option Addr) (c' : Nat) (Q' : Option Addr) (d' : Nat) (B : Option Addr) (cb : Nat), o = .slice B out.length cb ∧ L'.length ≤ 4096 ∧ P'.length ≤ 1048575 ∧ Hid (AtOk L' ∧ ∀ x ∈ P', 1 ≤ x.long ∧ x.long ≤ 4503599627370496) ∧ Hid (RuI room T L P out L' P') ∧ Hid (RrI w wr T room A Q L' P' A' c' Q' d') ∧ Hid (wr.ownsRow (w.heap.size + 2) 57 3 (.slice B out.length cb) out.length (out.flatMap fic)) ∧ Hid (ApR (.slice B out.length cb) A' Q')) (fun o _ => match o with
      | .slice _ n _ => 1024 - n
      | _ => 0)
    case atStart => exact ⟨[], L, P, A, c, Q, d, none, 0, rfl, hL, hP, Lib.hid ⟨Hat.out, Hlo.out⟩, HRz, HI0, Lib.hid (own_nilK _ _ _ _), Lib.hid (fun g hg => by cases hg)⟩
    case round =>
      obtain ⟨out, L', P', A', c', Q', d', B, cb, rfl, hL', hP', HOk, HRj, HIj, HOj, HAp⟩ := hrel
      obtain ⟨x0, y0⟩ := box_rules (HIj.out.s).b0
      have l0 := box_lt (HIj.out.s).b0
      obtain ⟨x1, y1⟩ := box_rules (HIj.out.s).b1
      have l1 := box_lt (HIj.out.s).b1
      by_cases hlt : out.length < 1024
      · have hw1 : wrap64 (T + 1) = T + 1 := Go.IntWalk.wrap64_in _ (by omega)
        obtain ⟨wo, hwo⟩ : ∃ wo, wo = wr := ⟨_, rfl⟩
        subst hwo
        go_upto_region 7 with fail
        refine name_world fun V hV => ?_
        have hbV : Below wo.heap.size wo V := by rw [hV]; exact (Below.refl _ _).alloc (Nat.le_refl _) _
        have HX : Hid (V.heap[wo.heap.size]? = some (.cells #[.int .i64 0, .int .i64 (T + 1)] 140 (0, 0))) := Lib.hid (by rw [hV]; exact heap_alloc_new _ _)
        have HIV := Lib.hid (HIj.out.below hbV)
        have HBV := Lib.hid hbV
        have hz8 : w.heap.size + 2 ≤ wo.heap.size := HIj.out.s.sz
        have HoA : Hid (∀ a, A' = some a → a.block < wo.heap.size) := Lib.hid (fun a ha => (HIj.out.oa a ha).elim (fun h => by have := HA.out a h; omega) (fun h => h.2))
        have HoQ : Hid (∀ a, Q' = some a → a.block < wo.heap.size) := Lib.hid (fun a ha => (HIj.out.oq a ha).elim (fun h => by have := HQl.out a h; omega) (fun h => h.2))
        have HR0 : Hid (popG ⟨0, T + 1⟩ (L'.drop 0) = popR T L') := Lib.hid rfl
        clear hV hbV x0 y0 x1 y1 l0 l1
        generalize hq8 : wo.heap.size = b8 at *
        have Hq8 := Lib.hid hq8
        clear hq8
        obtain ⟨x8, y8⟩ := box_rules HX.out
        have l8 := box_lt HX.out
        obtain ⟨x0, y0⟩ := box_rules (HIV.out.s).b0
        have l0 := box_lt (HIV.out.s).b0
        obtain ⟨x1, y1⟩ := box_rules (HIV.out.s).b1
        have l1 := box_lt (HIV.out.s).b1
        go_upto_region 8 with fail
        obtain ⟨R0, hR0⟩ : ∃ R0, popR T L' = R0 := ⟨_, rfl⟩
        rw [hR0] at HR0
        have HRq := Lib.hid hR0
        clear x8 y8 l8 x0 y0 x1 y1 l0 l1 hR0
        go_loopw [38] (fun i wi => ∃ (k : Nat) (bs : Du), k ≤ L'.length ∧ i = .int .i64 k ∧ Hid (popG bs (L'.drop k) = R0) ∧ Hid (wi.heap[b8]? = some (.cells #[.int .i64 bs.id, .int .i64 bs.at'] 140 (0, 0))) ∧ Hid (Below b8 wo wi)) (fun i _ => L'.length - (intOf i).toNat)
        case atStart => exact ⟨0, ⟨0, T + 1⟩, by omega, rfl, HR0, HX, HBV⟩
        case round =>
          obtain ⟨k, bs, hk, rfl, HG, HXi, HBi⟩ := hrel
          have HIi : Hid (RrI w wr T room A Q L' P' A' c' Q' d') := Lib.hid (HIj.out.below (by rw [Hq8.out]; exact HBi.out))
          have hsz := HBi.out.size
          have hb8 := box_lt HXi.out
          by_cases hk2 : k < L'.length
          · obtain ⟨a, x, rfl, hx, g0, g1⟩ := HIi.out.ra.duAt hk2
            have hdr := drop_atN (d := du0) hk2
            rw [hx] at hdr
            obtain ⟨x8, y8⟩ := box_rules HXi.out
            by_cases hcm : x.at' < bs.at'
            · have HG2 : Hid (popG x (L'.drop (k + 1)) = R0) := Lib.hid (by
                have h9 := HG.out
                rw [hdr] at h9
                rw [← h9, popG, if_pos hcm])
              clear hx hdr
              go_wp2
              refine ⟨⟨k + 1, x, by omega, by go_num, HG2, Lib.hid ?_, Lib.hid ?_⟩, ?_⟩
              · exact box_alloc (box_set (i := 1) (box_set (i := 0) HXi.out _) _) _
              · exact ((HBi.out.setCell (p := ⟨b8, 0, none⟩) (Nat.le_refl _) _).setCell (p := ⟨b8, 1, none⟩) (Nat.le_refl _) _).alloc (by simp; omega) _
              · simp [intOf]; omega
            · have HG2 : Hid (popG bs (L'.drop (k + 1)) = R0) := Lib.hid (by
                have h9 := HG.out
                rw [hdr] at h9
                rw [← h9, popG, if_neg hcm])
              clear hx hdr
              go_wp2
              refine ⟨⟨k + 1, bs, by omega, by go_num, HG2, Lib.hid (box_alloc HXi.out _), Lib.hid (HBi.out.alloc (by omega) _)⟩, ?_⟩
              simp [intOf]; omega
          · obtain rfl : k = L'.length := by omega
            have hbs : bs = R0 := by
              have h9 := HG.out
              rw [List.drop_length] at h9
              exact h9
            subst hbs
            have HOi := Lib.hid (own_belowK HOj.out (show Below wo.heap.size wo wr by rw [Hq8.out]; exact HBi.out))
            obtain ⟨x8, y8⟩ := box_rules HXi.out
            obtain ⟨x0, y0⟩ := box_rules (HIi.out.s).b0
            have l0 := box_lt (HIi.out.s).b0
            obtain ⟨x1, y1⟩ := box_rules (HIi.out.s).b1
            have l1 := box_lt (HIi.out.s).b1
            by_cases hd : bs.at' ≤ T
            · have HRn := Lib.hid (HRj.out.step hlt (by rw [HRq.out]; exact hd))
              have hin := pop_in (now := T) (L := L') (by rw [HRq.out]; exact hd)
              rw [HRq.out] at hin
              have hat9 := HOk.out.1 _ hin
              have HFi : Hid (fired T L' = ⟨bs.id, bs.at', T - bs.at'⟩) := Lib.hid (by unfold fired; rw [HRq.out])
              have HFL : Hid (fireL room T L' P' = if perD P' bs.id = 0 then canL L' bs.id else insL room (canL L' bs.id) bs.id (bs.at' + perD P' bs.id)) := Lib.hid (by unfold fireL; rw [HRq.out])
              have HFP : Hid (fireP room T L' P' = if perD P' bs.id = 0 then P' else if insC room (canL L' bs.id) bs.id (bs.at' + perD P' bs.id) = 0 then P' else woD P' bs.id) := Lib.hid (by unfold fireP; rw [HRq.out])
              have HOl : Hid ((out ++ [fired T L']).length = out.length + 1) := Lib.hid (by simp)
              have HOkn : Hid (AtOk (fireL room T L' P') ∧ ∀ x ∈ fireP room T L' P', 1 ≤ x.long ∧ x.long ≤ 4503599627370496) := Lib.hid ⟨HOk.out.1.fire _ _ _, fun x hx => HOk.out.2 x ((fireP_le _ _ _ _).2 x hx)⟩
              have hLn : (fireL room T L' P').length ≤ 4096 := fire_le hrm hL'
              have hPn : (fireP room T L' P').length ≤ 1048575 := Nat.le_trans (fireP_le _ _ _ _).1 hP'
              have hpr : 0 ≤ perD P' bs.id ∧ perD P' bs.id ≤ 4503599627370496 := by
                by_cases hz : perD P' bs.id = 0
                · omega
                · obtain ⟨x, q1, _, q3⟩ := per_in hz
                  have := HOk.out.2 x q1
                  omega
              have hcl := can_le L' bs.id
              generalize fireL room T L' P' = LN at *
              generalize fireP room T L' P' = PN at *
              clear hin HG
              obtain ⟨e0, e1⟩ := bs
              dsimp only at *
              have hw2 : wrap64 (T - e1) = T - e1 := Go.IntWalk.wrap64_in _ (by omega)
              go_upto_region 15 with (at_builtin; go_loud (refine wp_appK rfl _ _ skc_fi (by decide) rfl (own_allocK HOi.out _) rfl (by omega) (by have := HIi.out.s.sz; simp; omega) wr.heap.size [.int .i64 e0, .int .i64 e1, .int .i64 (T - e1)] rfl rfl (fun j u hu => new_cell hu) rfl ?_); intro B4 b4 w4 ho4 hg4 hat4; have S4 := Lib.hid (grown_step HOi.out hg4); have HO4 := Lib.hid ho4; have HG4 := Lib.hid hg4; have HAt4 := Lib.hid hat4; clear ho4 hg4 hat4)
              have HXw := Lib.hid (S4.out.other HXi.out (by decide))
              have HI4 : Hid (RrI w w4 T room A Q L' P' A' c' Q' d') := Lib.hid (by
                obtain ⟨F, t1, t2⟩ := app_tnF HG4.out
                exact HIi.out.farF t1 (fun k hk => ⟨(own_blockK HOi.out (t2 k hk)).1, HAp.out k (t2 k hk)⟩))
              have hwA : ∀ a, A' = some a → a.block < wr.heap.size + 1 := fun a ha => by have := HoA.out a ha; omega
              have hwQ : ∀ a, Q' = some a → a.block < wr.heap.size + 1 := fun a ha => by have := HoQ.out a ha; omega
              have HAp4 : Hid (ApR (.slice B4 (out.length + 1) b4) A' Q') := Lib.hid (HAp.out.grow (n := wr.heap.size + 1) (by
                rcases HAt4.out with h9 | h9
                · exact .inl h9
                · exact .inr (by simpa using h9)) hwA hwQ)
              have hs4 : wr.heap.size + 1 ≤ w4.heap.size := S4.out.size
              clear S4 HG4 HAt4 HAp HOi HIi HXi x8 y8 x0 y0 x1 y1 l0 l1 hwA hwQ
              obtain ⟨x8, y8⟩ := box_rules HXw.out
              have l8 := box_lt HXw.out
              obtain ⟨x0, y0⟩ := box_rules (HI4.out.s).b0
              have l0 := box_lt (HI4.out.s).b0
              obtain ⟨x1, y1⟩ := box_rules (HI4.out.s).b1
              have l1 := box_lt (HI4.out.s).b1
              have fp := Lib.hid (rper_any T room e0 A' L'.length c' P' Q' d' w4 (by omega) HI4.out.rq)
              unfold rtv at fp
              obtain ⟨p, hp⟩ : ∃ p, perD P' e0 = p := ⟨_, rfl⟩
              rw [hp] at hpr HFL HFP fp
              clear hp
              go_upto_region 16 with (go_at_call 63; (with_reducible refine fp.out.mono ?_); rintro e w5 ⟨rfl, hb5⟩; have HI5 := Lib.hid (HI4.out.below hb5); have HO5 := Lib.hid (own_belowK HO4.out hb5); have HXv := Lib.hid (box_keep HXw.out hb5); have hs5 := hb5.size; clear hb5)
              clear x8 y8 l8 x0 y0 x1 y1 l0 l1 fp HI4 HO4 HXw
              obtain ⟨x8, y8⟩ := box_rules HXv.out
              have l8 := box_lt HXv.out
              obtain ⟨x0, y0⟩ := box_rules (HI5.out.s).b0
              have l0 := box_lt (HI5.out.s).b0
              obtain ⟨x1, y1⟩ := box_rules (HI5.out.s).b1
              have l1 := box_lt (HI5.out.s).b1
              have fc := Lib.hid (rcan_any T room e0 L' A' c' w5 (by omega) HI5.out.ra)
              unfold RetRw rwv at fc
              generalize canC L' e0 = ccx at *
              generalize canL L' e0 = LC at *
              go_upto_region 17 with (go_at_call 61; (with_reducible refine fc.out.mono ?_); rintro e w6 ⟨A6, c6, rfl, hr6, ho6, hb6⟩; have HR6 := Lib.hid hr6; have HO6 := Lib.hid ho6; have HB6 := Lib.hid hb6; have HI6 := Lib.hid (HI5.out.below hb6); clear hr6 ho6 hb6 x8 y8 l8 x0 y0 x1 y1 l0 l1; obtain ⟨x0, y0⟩ := box_rules HI6.out.s.b0; have l0 := box_lt HI6.out.s.b0)
              refine name_world fun X hX => ?_
              obtain ⟨hIX, hTX⟩ := RrI.wheel (c6 := c6) HA.out HQl.out HI5.out HB6.out HR6.out HO6.out
              rw [← hX] at hIX hTX
              have HIX := Lib.hid hIX
              have HOX := Lib.hid (own_tn (own_belowK HO5.out HB6.out) hTX (fun b hb => by obtain rfl := List.mem_singleton.1 hb; omega))
              have HX8 := Lib.hid (hTX.box (box_keep HXv.out HB6.out) (by simp; omega))
              have HApX : Hid (ApR (.slice B4 (out.length + 1) b4) A6 Q') := Lib.hid (HAp4.out.new (n := w5.heap.size) (fun g hg => (own_blockK HO5.out hg).2.1) (fun a ha => (HO6.out a ha).imp (fun h => h) (·.1)) (fun a ha => .inl ha))
              have hsX : w6.heap.size ≤ X.heap.size := hTX.size
              have hs6 := HB6.out.size
              clear hX hIX hTX x0 y0 l0 HI6 HR6 HO6 HB6 HXv HO5 HI5 HAp4 fc
              obtain ⟨x8, y8⟩ := box_rules HX8.out
              have l8 := box_lt HX8.out
              obtain ⟨x0, y0⟩ := box_rules (HIX.out.s).b0
              have l0 := box_lt (HIX.out.s).b0
              obtain ⟨x1, y1⟩ := box_rules (HIX.out.s).b1
              have l1 := box_lt (HIX.out.s).b1
              by_cases hz : p = 0
              · subst hz
                have hLN : LN = LC := by have h9 := HFL.out; rw [if_pos rfl] at h9; exact h9
                have hPN : PN = P' := by have h9 := HFP.out; rw [if_pos rfl] at h9; exact h9
                clear HFL HFP
                subst hLN hPN
                go_wp2
                refine ⟨⟨out ++ [fired T L'], LN, PN, A6, c6, Q', d', B4, b4, by rw [HOl.out], hLn, hPn, HOkn, HRn, HIX, Lib.hid ?_, Lib.hid ?_⟩, ?_⟩
                · rw [HOl.out, HFi.out, List.flatMap_append]; exact HOX.out
                · rw [HOl.out]; exact HApX.out
                · simp; omega
              · have hw3 : wrap64 (e1 + p) = e1 + p := Go.IntWalk.wrap64_in _ (by omega)
                rw [if_neg hz] at HFL HFP
                have HzB : Hid ((p == 0) = false) := Lib.hid (beq_eq_false_iff_ne.2 hz)
                have fi := Lib.hid (rins_any T room e0 (e1 + p) LC A6 c6 X (by omega) HIX.out.ra)
                unfold RetRw rwv at fi
                have hLI : insC room LC e0 (e1 + p) ≠ 0 → insL room LC e0 (e1 + p) = LC := fun h9 => if_neg h9
                generalize insC room LC e0 (e1 + p) = ci at *
                generalize insL room LC e0 (e1 + p) = LI at *
                go_upto_region 19 with (go_at_call 58; (with_reducible refine fi.out.mono ?_); rintro e w7 ⟨A7, c7, rfl, hr7, ho7, hb7⟩; have HR7 := Lib.hid hr7; have HO7 := Lib.hid ho7; have HB7 := Lib.hid hb7; clear hr7 ho7 hb7 x8 y8 l8 x0 y0 x1 y1 l0 l1)
                refine name_world fun U hU => ?_
                have hbU : Below w7.heap.size w7 U := by rw [hU]; exact (Below.refl _ _).alloc (Nat.le_refl _) _
                have HX12 : Hid (U.heap[w7.heap.size]? = some (.cells #[.int .i64 T, .int .i64 room, .slice A7 LI.length c7] 32 (0, 0))) := Lib.hid (by rw [hU]; exact heap_alloc_new _ _)
                have HBU := Lib.hid (HB7.out.trans (hbU.mono HB7.out.size))
                have HIU := Lib.hid (HIX.out.below HBU.out)
                have HOU := Lib.hid (own_belowK HOX.out HBU.out)
                have HRU := Lib.hid (HR7.out.below hbU)
                have HU8 := Lib.hid (box_keep HX8.out HBU.out)
                have HOa : Hid (∀ a, A7 = some a → A6 = some a ∨ (X.heap.size ≤ a.block ∧ a.block < U.heap.size)) := Lib.hid (fun a ha => (HO7.out a ha).imp (fun h => h) (fun h => ⟨h.1, Nat.lt_of_lt_of_le h.2 hbU.size⟩))
                clear hU hbU HR7 HO7 fi
                generalize w7.heap.size = b12 at *
                obtain ⟨x8, y8⟩ := box_rules HU8.out
                have l8 := box_lt HU8.out
                obtain ⟨x12, y12⟩ := box_rules HX12.out
                have l12 := box_lt HX12.out
                obtain ⟨x0, y0⟩ := box_rules (HIU.out.s).b0
                have l0 := box_lt (HIU.out.s).b0
                obtain ⟨x1, y1⟩ := box_rules (HIU.out.s).b1
                have l1 := box_lt (HIU.out.s).b1
                by_cases hci : ci = 0
                · subst hci
                  have hLN : LN = LI := HFL.out
                  have hPN : PN = P' := by have h9 := HFP.out; rw [if_pos rfl] at h9; exact h9
                  clear HFL HFP hLI
                  subst hLN hPN
                  obtain ⟨hI9, hT9⟩ := RrI.wheel (c6 := c7) HA.out HQl.out HIX.out HBU.out HRU.out HOa.out
                  have HI9 := Lib.hid hI9; have HT9 := Lib.hid hT9
                  clear hI9 hT9
                  go_wp2
                  refine ⟨⟨out ++ [fired T L'], LN, PN, A7, c7, Q', d', B4, b4, by rw [HOl.out], hLn, hPn, HOkn, HRn, HI9, Lib.hid ?_, Lib.hid ?_⟩, ?_⟩
                  · rw [HOl.out, HFi.out, List.flatMap_append]; exact own_tn HOU.out HT9.out (fun b hb => by obtain rfl := List.mem_singleton.1 hb; omega)
                  · rw [HOl.out]; exact HApX.out.new (n := X.heap.size) (fun g hg => (own_blockK HOX.out hg).2.1) (fun a ha => (HOa.out a ha).imp (fun h => h) (·.1)) (fun a ha => .inl ha)
                  · simp; omega
                · have hLN : LN = LC := by rw [HFL.out]; exact hLI hci
                  have hPN : PN = woD P' e0 := by have h9 := HFP.out; rw [if_neg hci] at h9; exact h9
                  clear HFL HFP hLI
                  subst hLN
                  have fw := Lib.hid (rwo_any T room e0 A6 LN.length c6 P' Q' d' U (by omega) HIU.out.rq)
                  unfold rtv at fw
                  rw [← hPN] at fw
                  clear hPN
                  go_upto_region 21 with (go_at_call 62; (with_reducible refine fw.out.mono ?_); rintro e w8 ⟨Q8, d8, rfl, hq8, ho8, hb8'⟩; have HQ8 := Lib.hid hq8; have HO8 := Lib.hid ho8; have HB8 := Lib.hid hb8'; have HI8 := Lib.hid (HIU.out.below hb8'); clear hq8 ho8 hb8' x8 y8 l8 x0 y0 x1 y1 l0 l1 x12 y12 l12; obtain ⟨x0, y0⟩ := box_rules HI8.out.s.b0; have l0 := box_lt HI8.out.s.b0)
                  obtain ⟨hI9, hT9⟩ := RrI.whole (d6 := d8) HA.out HIU.out HB8.out HQ8.out HO8.out
                  have hU8 := HB8.out.size
                  have hsU := HBU.out.size
                  refine ⟨⟨out ++ [fired T L'], LN, PN, A6, c6, Q8, d8, B4, b4, ⟨rfl, HOl.out.symm, rfl⟩, hLn, hPn, HOkn, HRn, Lib.hid hI9, Lib.hid ?_, Lib.hid ?_⟩, by omega⟩
                  · rw [HOl.out, HFi.out, List.flatMap_append]; exact own_tn (own_belowK HOU.out HB8.out) hT9 (fun b hb => by obtain rfl := List.mem_singleton.1 hb; omega)
                  · rw [HOl.out]; exact HApX.out.new (n := X.heap.size) (fun g hg => (own_blockK HOX.out hg).2.1) (fun a ha => .inl ha) (fun a ha => .inr (by have := (HO8.out a ha).1; omega))
            · have HRd := Lib.hid (HRu.out _ _ _ (HRj.out.stop (by rw [HRq.out]; exact hd)))
              go_wp2
              refine name_post fun V4 hV4 => ?_
              obtain ⟨hE4, hB4, hT4⟩ := TrS.done (HIi.out.s) (T) room (A') (L'.length) (c') (Q') (P'.length) (d')
              rw [← hV4] at hE4 hB4 hT4
              obtain ⟨vx, vy⟩ := box_rules hE4
              clear hV4
              refine bodyPost_ret (v := .tuple #[.agg #[.int .i64 (T), .int .i64 room, .slice (A') (L'.length) (c'), .slice (Q') (P'.length) (d')], .slice B out.length cb, .int .i64 (0)]) (by simp [results, Tryz.f42, go_sem, vx]) rfl ?_
              have hs4 := hT4.size
              have hAo : ∀ a, A' = some a → a.block < w.heap.size ∨ w.heap.size + 2 ≤ a.block := fun a ha => (HIi.out.oa a ha).elim (fun h => .inl (HA.out a h)) (fun h => .inr h.1)
              have hQo : ∀ a, Q' = some a → a.block < w.heap.size ∨ w.heap.size + 2 ≤ a.block := fun a ha => (HIi.out.oq a ha).elim (fun h => .inl (HQl.out a h)) (fun h => .inr h.1)
              have hBo : ∀ a, B = some a → w.heap.size + 2 ≤ a.block := fun a ha => by subst ha; exact (own_blockK HOi.out rfl).1
              rw [HRd.out]
              exact ⟨A', c', Q', d', B, cb, rfl, HIi.out.ra.two hT4 hAo (fun b hb => .inr (List.mem_singleton.1 hb)), HIi.out.rq.two hT4 hQo (fun b hb => .inr (List.mem_singleton.1 hb)), (own_rdK HOi.out).two hT4 (fun a ha => .inr (hBo a ha)) (fun b hb => .inr (List.mem_singleton.1 hb)),
                fun a ha => (HIi.out.oa a ha).imp (fun h => h) (fun h => ⟨by omega, by omega⟩), fun a ha => (HIi.out.oq a ha).imp (fun h => h) (fun h => ⟨by omega, by omega⟩), fun a ha => by have := hBo a ha; omega, hB4⟩
      · have HRd := Lib.hid (HRu.out _ _ _ (HRj.out.full hlt))
        go_wp2
        refine name_post fun V4 hV4 => ?_
        obtain ⟨hE4, hB4, hT4⟩ := TrS.done (HIj.out.s) (T) room (A') (L'.length) (c') (Q') (P'.length) (d')
        rw [← hV4] at hE4 hB4 hT4
        obtain ⟨vx, vy⟩ := box_rules hE4
        clear hV4
        refine bodyPost_ret (v := .tuple #[.agg #[.int .i64 (T), .int .i64 room, .slice (A') (L'.length) (c'), .slice (Q') (P'.length) (d')], .slice B out.length cb, .int .i64 (0)]) (by simp [results, Tryz.f42, go_sem, vx]) rfl ?_
        have hs4 := hT4.size
        have hAo : ∀ a, A' = some a → a.block < w.heap.size ∨ w.heap.size + 2 ≤ a.block := fun a ha => (HIj.out.oa a ha).elim (fun h => .inl (HA.out a h)) (fun h => .inr h.1)
        have hQo : ∀ a, Q' = some a → a.block < w.heap.size ∨ w.heap.size + 2 ≤ a.block := fun a ha => (HIj.out.oq a ha).elim (fun h => .inl (HQl.out a h)) (fun h => .inr h.1)
        have hBo : ∀ a, B = some a → w.heap.size + 2 ≤ a.block := fun a ha => by subst ha; exact (own_blockK HOj.out rfl).1
        rw [HRd.out]
        exact ⟨A', c', Q', d', B, cb, rfl, HIj.out.ra.two hT4 hAo (fun b hb => .inr (List.mem_singleton.1 hb)), HIj.out.rq.two hT4 hQo (fun b hb => .inr (List.mem_singleton.1 hb)), (own_rdK HOj.out).two hT4 (fun a ha => .inr (hBo a ha)) (fun b hb => .inr (List.mem_singleton.1 hb)),
          fun a ha => (HIj.out.oa a ha).imp (fun h => h) (fun h => ⟨by omega, by omega⟩), fun a ha => (HIj.out.oq a ha).imp (fun h => h) (fun h => ⟨by omega, by omega⟩), fun a ha => by have := hBo a ha; omega, hB4⟩
  · simp only [if_neg hc]
    unfold rtv
    clear hr hq hA hQ
    go_enter Tryz.func42, Tryz.ntmps42
    go_upto_region 1 with fail
    refine name_world fun V hV => ?_
    have HS0 : Hid (TrS w V now room A L.length c Q P.length d) := Lib.hid (by rw [hV]; exact TrS.mk0 ..)
    clear hV
    obtain ⟨x0, y0⟩ := box_rules HS0.out.b0
    have l0 := box_lt HS0.out.b0
    obtain ⟨x1, y1⟩ := box_rules HS0.out.b1
    have l1 := box_lt HS0.out.b1
    by_cases hb : 0 ≤ T ∧ T ≤ 4503599627370496
    · rw [decide_eq_true hb] at f1
      have hlt : T < now := by omega
      clear hc
      go_wp2_with (go_at_call 57; (with_reducible refine (f1.out _).mono ?_); rintro e w1 ⟨rfl, rfl⟩)
      refine name_post fun V4 hV4 => ?_
      obtain ⟨hE4, hB4, hT4⟩ := TrS.done (HS0.out) (now) room (A) (L.length) (c) (Q) (P.length) (d)
      rw [← hV4] at hE4 hB4 hT4
      obtain ⟨vx, vy⟩ := box_rules hE4
      clear hV4
      refine bodyPost_ret (v := .tuple #[.agg #[.int .i64 (now), .int .i64 room, .slice (A) (L.length) (c), .slice (Q) (P.length) (d)], .slice none 0 0, .int .i64 (1)]) (by simp [results, Tryz.f42, go_sem, vx]) rfl ?_
      exact ⟨rfl, hB4⟩
    · rw [decide_eq_false hb] at f1
      clear hc hb
      go_wp2_with (go_at_call 57; (with_reducible refine (f1.out _).mono ?_); rintro e w1 ⟨rfl, rfl⟩)
      refine name_post fun V4 hV4 => ?_
      obtain ⟨hE4, hB4, hT4⟩ := TrS.done (HS0.out) (now) room (A) (L.length) (c) (Q) (P.length) (d)
      rw [← hV4] at hE4 hB4 hT4
      obtain ⟨vx, vy⟩ := box_rules hE4
      clear hV4
      refine bodyPost_ret (v := .tuple #[.agg #[.int .i64 (now), .int .i64 room, .slice (A) (L.length) (c), .slice (Q) (P.length) (d)], .slice none 0 0, .int .i64 (1)]) (by simp [results, Tryz.f42, go_sem, vx]) rfl ?_
      exact ⟨rfl, hB4⟩
end Go.Proofs.YtiblpnadninmbaaGreatDoor

/- Package timers: the walks of New and Run. Conditions: timers' memory, the de Bruijn table. -/
import Derived.Test.YtiblpnadninmbaaGreatDoorTmXY
import Derived.Test.YtiblpnadninmbaaGreatDoorWhT
import Derived.Test.YtiblpnadninmbaaGreatDoorWhOY
namespace Go.Proofs.YtiblpnadninmbaaGreatDoor
open Go.RowKit Go.Shelf
attribute [local go_sem] Oper.semAt_some

/-- What New hands back. -/
def RetTms (room : Nat) (now : Int) (w : World) (e : Ending) (w' : World) : Prop := ∃ g : TmF, e = .returned (.tuple #[.pointer (some ⟨g.pt, 0, none⟩), .int .i64 0]) ∧ (∀ b ∈ g.l, w.heap.size ≤ b) ∧ Tms w' g room now [] [] 0 ∧ Below w.heap.size w w'
set_option maxHeartbeats 4000000 in
set_option maxRecDepth 100000 in
theorem tnew_ok (now : Int) (room : Nat) (w : World) (h0 : 0 ≤ now) (h1 : now ≤ 4503599627370496) (h2 : 1 ≤ room) (h3 : room ≤ 4096) :
    Calls Tryz.prog 17 #[.int .i64 now, .int .i64 room] w (RetTms room now w) := by
  have f1 := Lib.hid (whl_new now room w h0 h1 h2 h3)
  unfold RetWhl at f1
  have hmm := @run_makeMap Tryz.prog
  go_enter Tryz.func17, Tryz.ntmps17
  go_upto_region 2 with (go_at_call 35; (with_reducible refine f1.out.mono ?_); rintro e w1 ⟨f, rfl, hf, hw, hb⟩; have HW := Lib.hid hw; have HF := Lib.hid hf; have HB := Lib.hid hb; clear hw hf hb)
  go_wp2
  refine name_post (fun V hV => ?_)
  have hz := HB.out.size
  have hbV : Below w1.heap.size w1 V := by rw [hV]; exact ((Below.refl _ _).alloc (Nat.le_refl _) _).alloc (by simp) _
  have hM : Tms V ⟨w1.heap.size + 1, w1.heap.size, f⟩ room now [] [] 0 := by
    refine ⟨by rw [hV]; exact heap_new_at _ (by simp), HW.out.below hbV, ⟨fun _ => none, 0, ?_, fun q => rfl, Nat.le_refl _⟩, fun hm => ?_, fun hm => ?_, fun x hx => (by cases hx)⟩
    · rw [hV]
      exact MapN.alloc (MapN.made Tryz.prog 3 2 w1) _
    · have := HW.out.lt _ hm
      dsimp only at this
      omega
    · have := HW.out.lt _ hm
      dsimp only at this
      omega
  clear hV
  go_ret2
  refine ⟨⟨w1.heap.size + 1, w1.heap.size, f⟩, rfl, fun b hb => ?_, hM, HB.out.trans (hbV.mono hz)⟩
  simp [TmF.l] at hb
  rcases hb with rfl | rfl | hb
  · omega
  · omega
  · exact HF.out b hb
theorem tnew_bad (now room : Int) (w : World) (h : ¬ (0 ≤ now ∧ now ≤ 4503599627370496 ∧ 1 ≤ room ∧ room ≤ 4096)) :
    Calls Tryz.prog 17 #[.int .i64 now, .int .i64 room] w fun e w' => e = .returned (.tuple #[.pointer none, .int .i64 1]) ∧ w = w' := by
  have f1 := Lib.hid (whl_bad now room w h)
  clear h
  go_enter Tryz.func17, Tryz.ntmps17
  go_wp2_with (go_at_call 35; (with_reducible refine f1.out.mono ?_); rintro e w1 ⟨rfl, rfl⟩)
  go_ret2
  exact ⟨rfl, rfl⟩
theorem skc_fi : SlK Tryz.prog 50 57 3 24 := SlK.mk' (z := .agg #[.int .i64 0, .int .i64 0, .int .i64 0]) Tryz.underlying50 (by kernel_rfl) rfl (by decide)
/-- What Run hands back. -/
def RetRun (g : TmF) (room : Nat) (now : Int) (L : List Du) (P : List Pe) (tn : Nat) (T : Int) (w : World) (e : Ending) (w' : World) : Prop :=
  if now ≤ T ∧ T ≤ 4503599627370496 then ∃ A c, e = .returned (.tuple #[.slice A (runT room T 1024 L P).1.length c, .int .i64 0]) ∧ Rd w' A ((runT room T 1024 L P).1.flatMap fic) ∧ (∀ a, A = some a → w.heap.size ≤ a.block) ∧
    Tms w' g room T (runT room T 1024 L P).2.1 (runT room T 1024 L P).2.2 (tn + 1024) ∧ Tn g.l w w'
  else e = .returned (.tuple #[.slice none 0 0, .int .i64 1]) ∧ Tms w' g room now L P tn ∧ Tn g.l w w'
set_option maxHeartbeats 4000000 in
set_option maxRecDepth 100000 in
theorem trun_any (g : TmF) (room : Nat) (now : Int) (L : List Du) (P : List Pe) (tn : Nat) (w : World) (T : Int) (h : Tms w g room now L P tn) (hT : Tab w) (hg : 0 ∉ g.f.l) (ht : tn + 1024 ≤ 1152921504606846976) :
    Calls Tryz.prog 51 #[.pointer (some ⟨g.pt, 0, none⟩), .int .i64 T] w (RetRun g room now L P tn T w) := by
  have H := Lib.hid h
  have f1 := Lib.hid (whl_set g.f room now L tn w T h.whl hT hg)
  have HGl : Hid (∀ b ∈ g.l, b < w.heap.size) := Lib.hid h.lt
  obtain ⟨xx, xy⟩ := box_rules (h).box
  have lx := box_lt (h).box
  unfold RetRun
  by_cases hc : now ≤ T ∧ T ≤ 4503599627370496
  · simp only [if_pos hc] at f1 ⊢
    have hT0 : 0 ≤ T := by have := h.whl.n0; omega
    obtain ⟨R, hR⟩ : ∃ R, runT room T 1024 L P = R := ⟨_, rfl⟩
    have HRu : Hid (∀ out L' P', runT room T 1024 L P = (out, L', P') → R = (out, L', P')) := Lib.hid (fun _ _ _ h9 => hR.symm.trans h9)
    rw [hR]
    clear h hT hg hR
    go_enter Tryz.func51, Tryz.ntmps51
    go_upto_region 5 with (go_at_call 32; (with_reducible refine f1.out.mono ?_); rintro e w1 ⟨rfl, hw1, ht1⟩; have HW1 := Lib.hid (H.out.wheel hw1 ht1 (Nat.le_refl _)); have HT1 := Lib.hid (Tms.tnl g ht1); clear hw1 ht1)
    have hs1 := HT1.out.size
    have HRz := Lib.hid (RuI.zero room T L P)
    clear f1 xx xy lx H
    go_loopw [7] (fun o wr => ∃ (out : List Fi) (L' : List Du) (P' : List Pe) (A : Option Addr) (c : Nat), o = .slice A out.length c ∧ Hid (RuI room T L P out L' P') ∧ Hid (Tms wr g room T L' P' (tn + out.length)) ∧ Hid (wr.ownsRow w1.heap.size 57 3 (.slice A out.length c) out.length (out.flatMap fic)) ∧ Hid (Tn g.l w1 wr)) (fun o _ => match o with
      | .slice _ n _ => 1024 - n
      | _ => 0)
    case atStart => exact ⟨[], L, P, none, 0, rfl, HRz, HW1, Lib.hid (own_nilK _ _ _ _), Lib.hid (Tn.refl _ _)⟩
    case round =>
      obtain ⟨out, L', P', A, c, rfl, HRj, HMj, HOj, HTj⟩ := hrel
      have hsj := HTj.out.size
      obtain ⟨xx, xy⟩ := box_rules (HMj.out).box
      have lx := box_lt (HMj.out).box
      by_cases hlt : out.length < 1024
      · have f2 := Lib.hid (whl_pop g.f room T L' (tn + out.length) wr HMj.out.whl)
        by_cases hd : (popR T L').at' ≤ T
        · simp only [if_pos hd] at f2
          have hin := pop_in hd
          have hat := HMj.out.whl.at0 _ hin
          have HId := Lib.hid (HMj.out.whl.ids.2 _ hin)
          have HRn := Lib.hid (HRj.out.step hlt hd)
          obtain ⟨x, hx⟩ : ∃ x, popR T L' = x := ⟨_, rfl⟩
          rw [hx] at HId
          have HL2 : Hid ((if perD P' x.id = 0 then canL L' x.id else insL room (canL L' x.id) x.id (x.at' + perD P' x.id)) = fireL room T L' P' ∧ (if perD P' x.id = 0 then P' else if insC room (canL L' x.id) x.id (x.at' + perD P' x.id) = 0 then P' else woD P' x.id) = fireP room T L' P') := Lib.hid (by rw [← hx]; exact ⟨rfl, rfl⟩)
          have HFi : Hid (fired T L' = ⟨x.id, x.at', T - x.at'⟩) := Lib.hid (by rw [← hx]; rfl)
          have HOu : Hid ((out ++ [fired T L']).length = out.length + 1) := Lib.hid (by simp)
          rw [hx] at f2 hat hd
          have f3 := Lib.hid (fun X (hX : Tms X g room T (canL L' x.id) P' (tn + out.length)) => tagain_any g room T (canL L' x.id) P' (tn + out.length) X x.id x.at' hX HId.out hat.1 hat.2 (by omega))
          rw [HL2.out.1, HL2.out.2] at f3
          generalize fireL room T L' P' = L2 at *
          generalize fireP room T L' P' = P2 at *
          obtain ⟨x0, x1⟩ := x
          dsimp only at *
          have hw : wrap64 (T - x1) = T - x1 := Go.IntWalk.wrap64_in _ (by omega)
          clear hx hin
          go_upto_region 8 with (go_at_call 74; (with_reducible refine f2.out.mono ?_); rintro e w2 ⟨rfl, hw2, ht2⟩; have HM2 := Lib.hid (HMj.out.wheel hw2 ht2 (Nat.le_refl _)); have HT2 := Lib.hid (HTj.out.trans (Tms.tnl g ht2)); have HO2 := Lib.hid (own_tn HOj.out ht2 (fun b hb => by have := HGl.out b (by simp [TmF.l, hb]); omega)); clear hw2 ht2)
          refine name_world fun V hV => ?_
          have hbV : Below w2.heap.size w2 V := by rw [hV]; exact (Below.refl _ _).alloc (Nat.le_refl _) _
          have HX : Hid (V.heap[w2.heap.size]? = some (.cells #[.int .i64 x0, .int .i64 x1] 140 (0, 0))) := Lib.hid (by rw [hV]; exact heap_alloc_new _ _)
          have HM3 := Lib.hid (HM2.out.below hbV)
          have HT3 := Lib.hid (HT2.out.below hbV)
          have HO3 := Lib.hid (own_belowK HO2.out hbV)
          have hs3 := HT3.out.size
          clear hV hbV xx xy lx HOj HTj HMj HO2 HT2 HM2 f2
          generalize w2.heap.size = bx at *
          obtain ⟨x0r, x1r⟩ := box_rules HX.out
          have lbx := box_lt HX.out
          go_upto_region 9 with (at_builtin; go_loud (refine wp_appK rfl _ _ skc_fi (by decide) rfl (own_allocK HO3.out _) rfl (by omega) (by simp; omega) V.heap.size [.int .i64 x0, .int .i64 x1, .int .i64 (T - x1)] rfl rfl (fun j u hu => new_cell hu) rfl ?_); intro P4 c4 w4 ho4 hg4 hat4; have S4 := Lib.hid (grown_step HO3.out hg4); have HB4 := Lib.hid (S4.out.below (Below.refl w1.heap.size V) (Nat.le_refl _) hs3); have HO4 := Lib.hid ho4; clear ho4 hg4 hat4)
          have HX4 := Lib.hid (S4.out.other HX.out (by decide))
          have HM4 := Lib.hid (HM3.out.low HB4.out (fun b hb => by have := HGl.out b hb; have := hs1; omega))
          have HT4 : Hid (Tn g.l w1 w4) := Lib.hid (by
            obtain ⟨F, h8, h9⟩ := tnHigh HB4.out
            exact HT3.out.new h9 h8)
          clear x0r x1r HX HM3 HT3 HO3 S4
          obtain ⟨x0r, x1r⟩ := box_rules HX4.out
          have lb4 := box_lt HX4.out
          go_wp2_with (go_at_call 75; (with_reducible refine (f3.out _ HM4.out).mono ?_); rintro e w5 ⟨rfl, hm5, ht5⟩; have HM5 := Lib.hid hm5; have HT5 := Lib.hid (HT4.out.trans ht5); have HO5 := Lib.hid (own_tn HO4.out ht5 (fun b hb => by have := HGl.out b hb; omega)); clear hm5 ht5)
          refine ⟨⟨out ++ [fired T L'], L2, P2, P4, c4, by rw [HOu.out], HRn, Lib.hid ?_, Lib.hid ?_, HT5⟩, ?_⟩
          · rw [HOu.out]; exact HM5.out
          · rw [HOu.out, HFi.out, List.flatMap_append]; exact HO5.out
          · simp; omega
        · simp only [if_neg hd] at f2
          have HRd := Lib.hid (HRu.out _ _ _ (HRj.out.stop hd))
          go_upto_region 7 with (go_at_call 74; (with_reducible refine f2.out.mono ?_); rintro e w2 ⟨rfl, hw2, ht2⟩; have HM2 := Lib.hid (HMj.out.wheel hw2 ht2 (Nat.le_refl _)); have HT2 := Lib.hid (HTj.out.trans (Tms.tnl g ht2)); have HO2 := Lib.hid (own_tn HOj.out ht2 (fun b hb => by have := HGl.out b (by simp [TmF.l, hb]); omega)); clear hw2 ht2)
          have HB3 : Hid (Below w2.heap.size w2 (w2.alloc (Obj.cells #[.int .i64 0, .int .i64 0] 140 (0, 0)))) := Lib.hid ((Below.refl _ _).alloc (Nat.le_refl _) _)
          go_wp2
          go_ret2
          have HRl := HRj.out.le
          refine ⟨A, c, by rw [HRd.out]; rfl, by rw [HRd.out]; exact own_rdK (own_belowK HO2.out HB3.out), fun a ha => ?_, by rw [HRd.out]; exact (HM2.out.below HB3.out).mono (by omega), (HT1.out.trans HT2.out).below HB3.out⟩
          subst ha
          have h9 := (own_blockK HO2.out rfl).1
          omega
      · have HRd := Lib.hid (HRu.out _ _ _ (HRj.out.full hlt))
        have hl4 := HRj.out.le
        go_wp2
        go_ret2
        refine ⟨A, c, by rw [HRd.out]; rfl, by rw [HRd.out]; exact own_rdK HOj.out, fun a ha => ?_, by rw [HRd.out]; exact HMj.out.mono (by omega), HT1.out.trans HTj.out⟩
        subst ha
        have h9 := (own_blockK HOj.out rfl).1
        omega
  · simp only [if_neg hc] at f1 ⊢
    clear h hT hg
    go_enter Tryz.func51, Tryz.ntmps51
    go_wp2_with (go_at_call 32; (with_reducible refine f1.out.mono ?_); rintro e w1 ⟨rfl, hw1, ht1⟩; have HW1 := Lib.hid (H.out.wheel hw1 ht1 (Nat.le_refl _)); have HT1 := Lib.hid (Tms.tnl g ht1); clear hw1 ht1)
    go_ret2
    exact ⟨rfl, HW1.out, HT1.out⟩
end Go.Proofs.YtiblpnadninmbaaGreatDoor

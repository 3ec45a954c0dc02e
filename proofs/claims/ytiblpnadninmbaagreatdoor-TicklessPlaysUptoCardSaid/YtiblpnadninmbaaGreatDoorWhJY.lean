/- Package wheel: the walk of Set. Conditions: a wheel's memory, the de Bruijn table. -/
import Derived.Test.YtiblpnadninmbaaGreatDoorWhIY
import Derived.WalkMore
namespace Go.Proofs.YtiblpnadninmbaaGreatDoor
open Go.RowKit Go.Shelf
attribute [local go_sem] Oper.semAt_some

theorem Tab.tn {F : List Nat} {w w' : World} (h : Tab w) (ht : Tn F w w') (hg : 0 ∉ F) : Tab w' := fun j hj => ht.cell (h j hj) hg
theorem ahead_wi (f : WhF) (room : Nat) (E : List Ent) (s : WhS) (w : World) (b : Bool) (k : Nat) (z : Int) (h : WhM w f room s) (hw : WI room E s) (hT : Tab w) (hr : AhR s b k z) :
    Calls Tryz.prog 53 #[.pointer (some ⟨f.pw, 0, none⟩)] w fun e w' => e = .returned (.tuple #[.int .i64 k, .int .i64 z, .bool b]) ∧ Below w.heap.size w w' := by
  have ho := hw.ahOk
  cases b with
  | false =>
    obtain ⟨rfl, rfl, h3⟩ := hr.no rfl
    exact (ahead_none f room s w h ho h3).mono fun e w' ⟨h1, j, h2⟩ => ⟨h1, h2 ▸ bdrewN (Below.refl _ _) j⟩
  | true =>
    obtain ⟨h1, h2, h3, h4⟩ := hr.yes rfl
    by_cases h6 : k = 256
    · subst h6
      rw [if_pos rfl] at h4
      subst h4
      exact ahead_far f room s w h ho h3 h2 (fun i hi => by
        obtain ⟨e, he, _, _, ht⟩ := hw.ent hi
        rw [ht]; exact (hw.at0 e he).1)
    · rw [if_neg h6] at h4
      subst h4
      have h9 := ahead_slot f room s w (k / 64) (k % 64) h hT ho (by omega) (by omega) (by rw [show 64 * (k / 64) + k % 64 = k by omega]; exact h2) (fun j hj => h3 j (by omega))
      rw [show 64 * (k / 64) + k % 64 = k by omega] at h9
      exact h9.mono fun e w' ⟨h1, j, h2⟩ => ⟨h1, h2 ▸ bdrewN (Below.refl _ _) j⟩
theorem set_bad (f : WhF) (room : Nat) (s : WhS) (w : World) (T : Int) (h : WhM w f room s) (hT : T < s.now ∨ 4503599627370496 < T) :
    Calls Tryz.prog 32 #[.pointer (some ⟨f.pw, 0, none⟩), .int .i64 T] w fun e w' => e = .returned (.int .i64 1) ∧ w = w' := by
  obtain ⟨xx, xy⟩ := box_rules (h).box
  have xz := (box_rules (h).tm).2
  have lx := box_lt (h).box
  clear h
  by_cases h1 : T < s.now
  · go_enter Tryz.func32, Tryz.ntmps32
    go_wp2
    go_step3
    go_wp2
    rw [Exit.noGoto_ret]
    go_ret
    exact ⟨rfl, rfl⟩
  · have h2 : 4503599627370496 < T := by omega
    have h3 : s.now ≤ T := by omega
    clear h1 hT
    go_enter Tryz.func32, Tryz.ntmps32
    go_wp2
    go_step3
    go_wp2
    rw [Exit.noGoto_ret]
    go_ret
    exact ⟨rfl, rfl⟩
set_option maxHeartbeats 8000000 in
set_option maxRecDepth 100000 in
theorem set_ok (f : WhF) (room : Nat) (E : List Ent) (s : WhS) (w : World) (T : Int) (h : WhM w f room s) (hw : WI room E s) (hT : Tab w) (hg : 0 ∉ f.l) (h0 : s.now ≤ T) (h1 : T ≤ 4503599627370496) :
    Calls Tryz.prog 32 #[.pointer (some ⟨f.pw, 0, none⟩), .int .i64 T] w fun e w' => e = .returned (.int .i64 0) ∧ ∃ s', WhM w' f room s' ∧ WI room E s' ∧ s'.now = T ∧ s'.turns = s.turns ∧ Tn f.l w w' := by
  have H := Lib.hid h; have HW := Lib.hid hw; have HT := Lib.hid hT
  have Hn0 := Lib.hid h0
  obtain ⟨xx, xy⟩ := box_rules (h).box
  have xz := (box_rules (h).tm).2
  have lx := box_lt (h).box
  clear h hw hT
  go_enter Tryz.func32, Tryz.ntmps32
  go_wp2
  go_step3
  go_wp2
  go_step3
  clear xx xy xz lx
  go_wp2_with fail
  go_loopw [5] (fun _ wr => ∃ s' : WhS, Hid (WhM wr f room s') ∧ Hid (WI room E s' ∧ s'.now ≤ T ∧ s'.turns = s.turns) ∧ Hid (Tn f.l w wr)) (fun _ wr => (T - intOf ((wr.cell? ⟨f.pw, 0, none⟩).getD undef)).toNat)
  case atStart => exact ⟨s, H, Lib.hid ⟨HW.out, Hn0.out, rfl⟩, Lib.hid (Tn.refl _ _)⟩
  case round =>
    obtain ⟨s', HM, HI, HTn⟩ := hrel
    obtain ⟨b, k, z, hr⟩ := ahR_ex s'
    have f1 := Lib.hid (ahead_wi f room E s' wr b k z HM.out HI.out.1 (HT.out.tn HTn.out hg) hr)
    have HR := Lib.hid hr
    have hnow : wr.cell? ⟨f.pw, 0, none⟩ = some (.int .i64 s'.now) := (box_rules HM.out.box).1 0
    have HNow := Lib.hid hnow
    clear hr hnow
    cases b with
    | false =>
      have HF := Lib.hid (HI.out.1.time (T := T) (by have := HI.out.1.n0; have := HI.out.2.1; omega) h1 (HI.out.1.stay HR.out HI.out.2.1 (fun h => by cases h)))
      go_upto_region 7 with (go_at_call 53; (with_reducible refine f1.out.mono ?_); rintro e w2 ⟨rfl, hb2⟩; have HM2 := Lib.hid (HM.out.below hb2); have HT2 := Lib.hid (HTn.out.below hb2); clear hb2)
      obtain ⟨xx, xy⟩ := box_rules (HM2.out).box
      have xz := (box_rules (HM2.out).tm).2
      have lx := box_lt (HM2.out).box
      go_wp2
      rw [Exit.noGoto_ret]
      go_ret
      exact ⟨rfl, _, HM2.out.setNow T, HF.out, rfl, HI.out.2.2, HT2.out.setCell (by simp [WhF.l]) _⟩
    | true =>
      by_cases hz : T < z
      · have HF := Lib.hid (HI.out.1.time (T := T) (by have := HI.out.1.n0; have := HI.out.2.1; omega) h1 (HI.out.1.stay HR.out HI.out.2.1 (fun _ => hz)))
        go_upto_region 7 with (go_at_call 53; (with_reducible refine f1.out.mono ?_); rintro e w2 ⟨rfl, hb2⟩; have HM2 := Lib.hid (HM.out.below hb2); have HT2 := Lib.hid (HTn.out.below hb2); clear hb2)
        obtain ⟨xx, xy⟩ := box_rules (HM2.out).box
        have xz := (box_rules (HM2.out).tm).2
        have lx := box_lt (HM2.out).box
        go_wp2
        rw [Exit.noGoto_ret]
        go_ret
        exact ⟨rfl, _, HM2.out.setNow T, HF.out, rfl, HI.out.2.2, HT2.out.setCell (by simp [WhF.l]) _⟩
      · have hz' : z ≤ T := by omega
        obtain ⟨hpos, hst⟩ := HI.out.1.next HR.out
        have HPos := Lib.hid hpos
        have HSt := Lib.hid hst
        have f2 := Lib.hid (fun X (hX : WhM X f room { s' with now := z }) => spread_any f room { s' with now := z } X k hX HI.out.1.fbl HI.out.1.rm (by have := (HR.out.yes rfl).1; omega) (fun i hi => by
          obtain ⟨e, he, _, _, ht⟩ := HI.out.1.ent (k := k) hi
          show 0 ≤ (s'.ts.getD i tm0).at' ∧ (s'.ts.getD i tm0).at' ≤ 4503599627370496
          rw [ht]; exact HI.out.1.at0 e he) HI.out.1.bit)
        clear hz hpos hst
        go_upto_region 4 with (go_at_call 53; (with_reducible refine f1.out.mono ?_); rintro e w2 ⟨rfl, hb2⟩; have HM2 := Lib.hid (HM.out.below hb2); have HT2 := Lib.hid (HTn.out.below hb2); clear hb2)
        obtain ⟨xx, xy⟩ := box_rules (HM2.out).box
        have xz := (box_rules (HM2.out).tm).2
        have lx := box_lt (HM2.out).box
        go_upto_region 5 with fail
        refine name_world fun V hV => ?_
        have HMV := Lib.hid (show WhM V f room { s' with now := z } by rw [hV]; exact HM2.out.setNow z)
        have HTV := Lib.hid (show Tn f.l w V by rw [hV]; exact HT2.out.setCell (by simp [WhF.l]) _)
        clear hV xx xy xz lx
        go_wp2_with (go_at_call 54; (with_reducible refine (f2.out _ HMV.out).mono ?_); rintro e w3 ⟨rfl, s3, hm3, hs3, hb3, ht3⟩; have HM3 := Lib.hid hm3; have HT3 := Lib.hid (HTV.out.trans ht3); have HI3 := Lib.hid (HI.out.1.spread (by omega) HPos.out HSt.out hs3 hb3); have HN3 := Lib.hid hs3.now; have HU3 := Lib.hid hs3.turns; clear hm3 hs3 hb3 ht3)
        refine ⟨⟨s3, HM3, Lib.hid ⟨HI3.out, ?_, ?_⟩, HT3⟩, ?_⟩
        · have h7 : s3.now = z := HN3.out
          omega
        · exact HU3.out.trans HI.out.2.2
        · have hc3 : w3.cell? ⟨f.pw, 0, none⟩ = some (.int .i64 s3.now) := (box_rules HM3.out.box).1 0
          rw [hc3, HNow.out]
          simp only [Option.getD_some, intOf]
          have h7 : s3.now = z := HN3.out
          have h8 := HPos.out
          omega
end Go.Proofs.YtiblpnadninmbaaGreatDoor

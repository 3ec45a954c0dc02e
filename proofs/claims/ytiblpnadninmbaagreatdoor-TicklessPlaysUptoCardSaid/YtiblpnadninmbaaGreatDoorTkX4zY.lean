/- Packages shot, tickless, vergelaw10: the walks of Check of a bad timing, New, Len, by. Conditions: numbers of 64 bits. -/
import Derived.Test.YtiblpnadninmbaaGreatDoorTkMxzY
import Derived.Test.YtiblpnadninmbaaGreatDoorTrX2zY
namespace Go.Proofs.YtiblpnadninmbaaGreatDoor
open Go.RowKit Go.Shelf
attribute [local go_sem] Oper.semAt_some
set_option maxHeartbeats 4000000 in
theorem scheck_bad (mn mx : Int) (w : World) (h : ¬ TmOk mn mx) (hx : I64N mx) : Calls Tryz.prog 16 #[.agg #[.int .i64 mn, .int .i64 mx]] w fun e w' => e = .returned (.int .i64 2) ∧ Below w.heap.size w w' := by
  unfold I64N at hx
  by_cases c1 : mn < 1
  · clear h
    go_enter Tryz.func16, Tryz.ntmps16
    go_wp2
    go_ret
    exact ⟨rfl, (Below.refl _ _).alloc (Nat.le_refl _) _⟩
  · by_cases c2 : 2147483648 ≤ mx
    · clear h
      go_enter Tryz.func16, Tryz.ntmps16
      go_wp2
      go_ret
      exact ⟨rfl, (Below.refl _ _).alloc (Nat.le_refl _) _⟩
    · obtain ⟨d, hd, hdl, hdb, hdu⟩ : ∃ d, mx.tdiv 2 = d ∧ d < mn ∧ -4611686018427387904 ≤ d ∧ d ≤ 2147483648 := by
        by_cases hp : 0 ≤ mx
        · have hn : ¬ mn ≤ mx / 2 := fun h9 => h ⟨by omega, by omega, h9⟩
          exact ⟨mx / 2, Int.tdiv_eq_ediv_of_nonneg hp, by omega, by omega, by omega⟩
        · have e : mx.tdiv 2 = -((-mx) / 2) := by
            have h1 := Int.tdiv_eq_ediv_of_nonneg (a := -mx) (b := 2) (by omega)
            rw [Int.neg_tdiv] at h1
            omega
          exact ⟨-((-mx) / 2), e, by omega, by omega, by omega⟩
      have e4 : wrap64 d = d := Go.IntWalk.wrap64_in _ (by omega)
      clear h
      go_enter Tryz.func16, Tryz.ntmps16
      go_wp2
      go_ret
      exact ⟨rfl, (Below.refl _ _).alloc (Nat.le_refl _) _⟩
/-- What New hands back. -/
def RetSv (room : Nat) (mn mx start : Int) (w : World) (e : Ending) (w' : World) : Prop :=
  ∃ g : SvF, e = .returned (.tuple #[.pointer (some ⟨g.ps, 0, none⟩), .int .i64 0]) ∧ (∀ b ∈ g.l, w.heap.size ≤ b) ∧ SvS w' g room mn mx start ⟨[], [], start, false, 0, 0⟩ 0 ∧ Below w.heap.size w w'
set_option maxHeartbeats 8000000 in
set_option maxRecDepth 100000 in
theorem snew_ok (start mn mx : Int) (room : Nat) (w : World) (hok : TmOk mn mx) (h0 : 0 ≤ start) (h1 : start ≤ 4503599627370496) (h2 : 1 ≤ room) (h3 : room ≤ 4096) :
    Calls Tryz.prog 5 #[.int .i64 start, .agg #[.int .i64 mn, .int .i64 mx], .int .i64 room] w (RetSv room mn mx start w) := by
  have f1 := Lib.hid (fun X => scheck_any mn mx X hok)
  have f2 := Lib.hid (fun X => tnew_ok start room X h0 h1 h2 h3)
  have f3 := Lib.hid (fun X => cmake_any start X h0 h1)
  unfold clv at f3
  obtain ⟨cn, hcn⟩ : ∃ cn, start % 4294967296 = cn := ⟨_, rfl⟩
  rw [hcn] at f3
  have HCn := Lib.hid hcn
  unfold RetTms at f2
  unfold RetSv
  clear hcn hok
  go_enter Tryz.func5, Tryz.ntmps5
  go_upto_region 1 with fail
  refine name_world fun V hV => ?_
  have H0 : Hid (V.heap[w.heap.size]? = some (.cells #[.int .i64 mn, .int .i64 mx] 23 (0, 0))) := Lib.hid (by rw [hV]; exact heap_alloc_new _ _)
  have HB : Hid (Below w.heap.size w V) := Lib.hid (by rw [hV]; exact (Below.refl _ _).alloc (Nat.le_refl _) _)
  clear hV
  obtain ⟨x0, y0⟩ := box_rules H0.out
  have l0 := box_lt H0.out
  go_upto_region 2 with (go_at_call 16; (with_reducible refine (f1.out _).mono ?_); rintro e w1 ⟨rfl, hb1⟩; have H1 := Lib.hid (box_keep H0.out hb1); have HB1 := Lib.hid (HB.out.trans (hb1.mono HB.out.size)); clear hb1)
  clear x0 y0 l0
  go_upto_region 5 with (go_at_call 17; (with_reducible refine (f2.out _).mono ?_); rintro e w2 ⟨t, rfl, hf2, hm2, hb2⟩; have H2 := Lib.hid (box_keep H1.out hb2); have HB2 := Lib.hid (HB1.out.trans (hb2.mono HB1.out.size)); have HF2 := Lib.hid (fun b hb => Nat.le_trans HB1.out.size (hf2 b hb)); have HM2 := Lib.hid hm2; clear hf2 hm2 hb2)
  go_upto_region 8 with (go_at_call 18; (with_reducible refine (f3.out _).mono ?_); rintro e w3 ⟨rfl, hb3⟩; have H3 := Lib.hid (box_keep H2.out hb3); have HB3 := Lib.hid (HB2.out.trans (hb3.mono HB2.out.size)); have HM3 := Lib.hid (HM2.out.below hb3); clear hb3)
  refine name_world fun U hU => ?_
  have hbU : Below w3.heap.size w3 U := by
    rw [hU]; first | exact (Below.refl _ _).alloc (Nat.le_refl _) _ | exact (((Tn.refl [] w3).alloc _).new (set5 (heap_alloc_new _ _) rfl _ _ _ _ _).2 (fun b hb => by simp at hb; omega)).base (Below.refl _ _) (fun b hb => by cases hb) (Nat.le_refl _)
  have HU : Hid (U.heap[w3.heap.size]? = some (.cells #[.int .u32 cn, .int .u32 0, .bool false, .bool false, .int .i64 start] 66 (0, 0))) := Lib.hid (by
    rw [hU]; first | exact heap_alloc_new _ _ | exact (set5 (heap_alloc_new _ _) rfl _ _ _ _ _).1)
  have H4 := Lib.hid (box_keep H3.out hbU)
  have HB4 := Lib.hid (HB3.out.trans (hbU.mono HB3.out.size))
  have HM4 := Lib.hid (HM3.out.below hbU)
  clear hU hbU
  obtain ⟨x0, y0⟩ := box_rules H4.out
  have l0 := box_lt H4.out
  obtain ⟨x1, y1⟩ := box_rules HU.out
  have l1 := box_lt HU.out
  go_wp2
  refine name_post fun X hX => ?_
  have hbX : Below U.heap.size U X := by rw [hX]; exact (Below.refl _ _).alloc (Nat.le_refl _) _
  have hE : X.heap[U.heap.size]? = some (.cells #[.int .i64 mn, .int .i64 mx, .int .u32 cn, .int .u32 0, .bool false, .bool false, .int .i64 start, .pointer (some ⟨t.pt, 0, none⟩), .bool false, .int .i64 0, .bool false] 70 (0, 0)) := by rw [hX]; exact heap_alloc_new _ _
  clear hX
  go_ret2
  have hs := HB4.out.size
  refine ⟨⟨U.heap.size, t⟩, rfl, fun b hb => ?_, ⟨0, false, false, 0, false, ⟨by rw [HCn.out]; exact hE, HM4.out.below hbX, fun hm => ?_⟩, fun _ => rfl, fun h9 => (by cases h9)⟩, HB4.out.trans (hbX.mono hs)⟩
  · unfold SvF.l at hb
    rcases List.mem_cons.1 hb with rfl | hb
    · exact hs
    · exact HF2.out b hb
  · have := HM4.out.lt _ hm
    dsimp only at this
    omega
set_option maxHeartbeats 4000000 in
set_option maxRecDepth 100000 in
theorem snew_form (start mn mx room : Int) (w : World) (hok : ¬ TmOk mn mx) (hx : I64N mx) :
    Calls Tryz.prog 5 #[.int .i64 start, .agg #[.int .i64 mn, .int .i64 mx], .int .i64 room] w fun e w' => e = .returned (.tuple #[.pointer none, .int .i64 2]) ∧ Below w.heap.size w w' := by
  have f1 := Lib.hid (fun X => scheck_bad mn mx X hok hx)
  clear hok hx
  go_enter Tryz.func5, Tryz.ntmps5
  go_wp2_with (go_at_call 16; (with_reducible refine (f1.out _).mono ?_); rintro e w1 ⟨rfl, hb1⟩; have HB1 := Lib.hid hb1; clear hb1)
  go_ret2
  exact ⟨rfl, ((Below.refl _ _).alloc (Nat.le_refl _) _).trans (HB1.out.mono (by simp))⟩
set_option maxHeartbeats 4000000 in
set_option maxRecDepth 100000 in
theorem snew_bad (start mn mx room : Int) (w : World) (hok : TmOk mn mx) (h : ¬ (0 ≤ start ∧ start ≤ 4503599627370496 ∧ 1 ≤ room ∧ room ≤ 4096)) :
    Calls Tryz.prog 5 #[.int .i64 start, .agg #[.int .i64 mn, .int .i64 mx], .int .i64 room] w fun e w' => e = .returned (.tuple #[.pointer none, .int .i64 1]) ∧ Below w.heap.size w w' := by
  have f1 := Lib.hid (fun X => scheck_any mn mx X hok)
  have f2 := Lib.hid (fun X => tnew_bad start room X h)
  clear hok h
  go_enter Tryz.func5, Tryz.ntmps5
  go_wp2_with (first
    | (go_at_call 16; (with_reducible refine (f1.out _).mono ?_); rintro e w1 ⟨rfl, hb1⟩; have HB1 := Lib.hid hb1; clear hb1)
    | (go_at_call 17; (with_reducible refine (f2.out _).mono ?_); rintro e w2 ⟨rfl, rfl⟩))
  go_ret2
  exact ⟨rfl, ((Below.refl _ _).alloc (Nat.le_refl _) _).trans (HB1.out.mono (by simp))⟩
theorem SvS.lenc {w : World} {g : SvF} {room : Nat} {mn mx T : Int} {s : Sst} {tn : Nat} (h : SvS w g room mn mx T s tn) : Calls Tryz.prog 10 #[.pointer (some ⟨g.ps, 0, none⟩)] w fun e w' => e = .returned (.int .i64 (s.L.length : Nat)) ∧ w = w' := by
  obtain ⟨b, m, l, gc, nf, h1, _⟩ := h
  have f1 := Lib.hid (whl_len g.t.f room T s.L tn w h1.tms.whl)
  obtain ⟨xx, xy⟩ := box_rules h1.box
  have lx := box_lt h1.box
  obtain ⟨tx, ty⟩ := box_rules h1.tms.box
  have lt := box_lt h1.tms.box
  clear h1
  generalize s.L.length = ln at *
  go_enter Tryz.func10, Tryz.ntmps10
  go_wp2_with (go_at_call 27; (with_reducible refine f1.out.mono ?_); rintro e w1 ⟨rfl, rfl⟩)
  go_ret
  exact ⟨rfl, rfl⟩
/-- A time so many behind another. -/
def by10 (t n : Int) : Int := if n < 0 ∨ 4503599627370496 - t < n then -1 else t + n
set_option maxHeartbeats 4000000 in
theorem by10_any (t n : Int) (w : World) (h0 : 0 ≤ t) (h1 : t ≤ 4503599627370496) : Calls Tryz.prog 21 #[.int .i64 t, .int .i64 n] w fun e w' => e = .returned (.int .i64 (by10 t n)) ∧ w = w' := by
  by_cases c1 : n < 0
  · have hb : by10 t n = -1 := if_pos (.inl c1)
    rw [hb]
    go_enter Tryz.func21, Tryz.ntmps21
    go_wp2
    go_ret
    exact ⟨rfl, rfl⟩
  · by_cases c2 : 4503599627370496 - t < n
    · have hb : by10 t n = -1 := if_pos (.inr c2)
      rw [hb]
      go_enter Tryz.func21, Tryz.ntmps21
      go_wp2
      go_ret
      exact ⟨rfl, rfl⟩
    · have hb : by10 t n = t + n := if_neg (by omega)
      rw [hb]
      go_enter Tryz.func21, Tryz.ntmps21
      go_wp2
      go_ret
      exact ⟨rfl, rfl⟩
end Go.Proofs.YtiblpnadninmbaaGreatDoor
/- Package vergelaw10: the walk of lives. Conditions: the de Bruijn table. -/
namespace Go.Proofs.YtiblpnadninmbaaGreatDoor
open Go.RowKit Go.Shelf
attribute [local go_sem] Oper.semAt_some
def ks0 : Sst := ⟨[], [], 10, false, 0, 0⟩
def ks1 : Sst := ⟨[⟨1, 12⟩], [], 10, true, 12, 14⟩
def ks2 : Sst := ⟨[], [], 20, false, 0, 0⟩
def ks3 : Sst := ⟨[⟨2, 320⟩], [⟨2, 7⟩], 20, true, 320, 120⟩
def ks4 : Sst := ⟨[⟨2, 334⟩], [⟨2, 7⟩], 328, true, 334, 334⟩
def ks5 : Sst := ⟨[], [], 328, false, 0, 0⟩
def ko1 : List Fi := [⟨1, 12, 2⟩]
def ko2 : List Fi := [⟨2, 320, 0⟩, ⟨2, 327, 0⟩]
theorem kl_a : insC 3 ks0.L 1 12 = 0 ∧ startS 3 4 100 ks0 1 12 = ks1 := by decide
theorem kl_c : everyC 3 ks2.L 2 320 7 = 0 ∧ everyS 3 4 100 ks2 2 320 7 = ks3 := by decide
theorem kl_e : canC ks4.L 2 = 0 ∧ stopS 4 100 ks4 2 = ks5 ∧ canC ks5.L 2 = 3 ∧ stopS 4 100 ks5 2 = ks5 := by decide
theorem adv_go {room : Nat} {mn mx en : Int} (k : Nat) {s s2 : Sst} {out M : List Fi} (hg : goesS en s out.length = true) (hr : ringS room mn mx s = (M, s2)) : advS room mn mx en (k + 1) s out = advS room mn mx en k s2 (out ++ M) := by
  rw [advS, if_pos hg, hr]
theorem adv_no {room : Nat} {mn mx en : Int} (k : Nat) {s : Sst} {out : List Fi} (hg : goesS en s out.length = false) : advS room mn mx en k s out = (s, out) := by
  cases k with
  | zero => rfl
  | succ k => rw [advS, if_neg (by rw [hg]; decide)]
theorem rg_a : ringS 3 4 100 ks1 = ([⟨1, 12, 2⟩], ⟨[], [], 14, false, 0, 0⟩) := by
  unfold ringS ranS
  rw [show runT 3 ks1.wake 1024 ks1.L ks1.P = ([⟨1, 12, 2⟩], [], []) by
    rw [run_some 1023 (by decide), run_none 1023 (by decide)]; decide]
  decide
theorem kl_b : advS 3 4 100 20 4096 ks1 [] = (⟨[], [], 14, false, 0, 0⟩, ko1) ∧ doneS 20 ⟨[], [], 14, false, 0, 0⟩ = ks2 := by
  refine ⟨?_, by decide⟩
  rw [adv_go 4095 (by decide) rg_a, adv_no 4095 (by decide)]
  rfl
theorem rg_b : ringS 3 4 100 ks3 = ([], ⟨[⟨2, 320⟩], [⟨2, 7⟩], 120, true, 320, 220⟩) := by
  unfold ringS ranS
  rw [show runT 3 ks3.wake 1024 ks3.L ks3.P = ([], [⟨2, 320⟩], [⟨2, 7⟩]) by rw [run_none 1024 (by decide)]; decide]
  decide
theorem rg_c : ringS 3 4 100 ⟨[⟨2, 320⟩], [⟨2, 7⟩], 120, true, 320, 220⟩ = ([], ⟨[⟨2, 320⟩], [⟨2, 7⟩], 220, true, 320, 320⟩) := by
  unfold ringS ranS
  dsimp only
  rw [show runT 3 220 1024 [⟨2, 320⟩] [⟨2, 7⟩] = ([], [⟨2, 320⟩], [⟨2, 7⟩]) by rw [run_none 1024 (by decide)]]
  decide
theorem rg_d : ringS 3 4 100 ⟨[⟨2, 320⟩], [⟨2, 7⟩], 220, true, 320, 320⟩ = ([⟨2, 320, 0⟩], ⟨[⟨2, 327⟩], [⟨2, 7⟩], 320, true, 327, 327⟩) := by
  unfold ringS ranS
  dsimp only
  rw [show runT 3 320 1024 [⟨2, 320⟩] [⟨2, 7⟩] = ([⟨2, 320, 0⟩], [⟨2, 327⟩], [⟨2, 7⟩]) by rw [run_some 1023 (by decide), run_none 1023 (by decide)]; decide]
  decide
theorem rg_e : ringS 3 4 100 ⟨[⟨2, 327⟩], [⟨2, 7⟩], 320, true, 327, 327⟩ = ([⟨2, 327, 0⟩], ⟨[⟨2, 334⟩], [⟨2, 7⟩], 327, true, 334, 334⟩) := by
  unfold ringS ranS
  dsimp only
  rw [show runT 3 327 1024 [⟨2, 327⟩] [⟨2, 7⟩] = ([⟨2, 327, 0⟩], [⟨2, 334⟩], [⟨2, 7⟩]) by rw [run_some 1023 (by decide), run_none 1023 (by decide)]; decide]
  decide
theorem kl_d : advS 3 4 100 328 4096 ks3 [] = (⟨[⟨2, 334⟩], [⟨2, 7⟩], 327, true, 334, 334⟩, ko2) ∧ doneS 328 ⟨[⟨2, 334⟩], [⟨2, 7⟩], 327, true, 334, 334⟩ = ks4 := by
  refine ⟨?_, by decide⟩
  rw [adv_go 4095 (by decide) rg_b, adv_go 4094 (by decide) rg_c, adv_go 4093 (by decide) rg_d, adv_go 4092 (by decide) rg_e, adv_no 4092 (by decide)]
  rfl
theorem kOk : TmOk 4 100 := ⟨by omega, by omega, by omega⟩
theorem kJ0 : JB ks0 := JB.zero (by omega) (by omega)
theorem kJ1 : JB ks1 := kl_a.2 ▸ JB.start (room := 3) kOk kJ0 1 12
theorem kJ2 : JB ks2 := JB.zero (by omega) (by omega)
theorem kJ3 : JB ks3 := kl_c.2 ▸ JB.every (room := 3) kOk kJ2 2 320 7
theorem kJ4 : JB ks4 := ⟨by decide, by decide, ⟨by decide, by decide⟩, by decide, by decide⟩
theorem kJ5 : JB ks5 := JB.zero (by omega) (by omega)
section
variable (g : SvF) (tn : Nat) (w : World)
theorem k_st (h : SvS w g 3 4 100 10 ks0 tn) (hT : Tab w) (hg : 0 ∉ g.l) (ht : tn ≤ 1152921504606846976) : Calls Tryz.prog 11 #[.pointer (some ⟨g.ps, 0, none⟩), .int .i64 1, .int .i64 12] w fun e w' => e = .returned (.int .i64 0) ∧ SvS w' g 3 4 100 10 ks1 (tn + 1) ∧ Tn g.l w w' := by
  have h9 := sstart_any g 3 4 100 ks0 1 12 tn w h (by unfold I64N; omega) ht kOk kJ0.now0 kJ0.now1 hT hg
  rwa [kl_a.1, kl_a.2] at h9
theorem k_ad (h : SvS w g 3 4 100 10 ks1 tn) (hT : Tab w) (hg : 0 ∉ g.l) (ht : tn + 4195328 ≤ 1152921504606846976) : Calls Tryz.prog 12 #[.pointer (some ⟨g.ps, 0, none⟩), .int .i64 10] w fun e w' =>
    ∃ A c, e = .returned (.tuple #[.slice A 1 c, .int .i64 10, .int .i64 0]) ∧ Rd w' A (ko1.flatMap fic) ∧ (∀ a, A = some a → w.heap.size ≤ a.block) ∧ SvS w' g 3 4 100 20 ks2 (tn + 4195328) ∧ Tn g.l w w' := by
  have h9 := sadv_ok g 3 4 100 ks1 tn 10 w h kJ1 kOk (by omega) (by decide) hT hg ht
  rw [show ks1.now + 10 = 20 by decide, kl_b.1] at h9
  dsimp only at h9
  rw [kl_b.2] at h9
  exact h9
theorem k_ev (h : SvS w g 3 4 100 20 ks2 tn) (hT : Tab w) (hg : 0 ∉ g.l) (ht : tn ≤ 1152921504606846976) : Calls Tryz.prog 13 #[.pointer (some ⟨g.ps, 0, none⟩), .int .i64 2, .int .i64 320, .int .i64 7] w fun e w' => e = .returned (.int .i64 0) ∧ SvS w' g 3 4 100 20 ks3 (tn + 1) ∧ Tn g.l w w' := by
  have h9 := severy_any g 3 4 100 ks2 2 320 7 tn w h kJ2.pi (by unfold I64N; omega) ht kOk kJ2.now0 kJ2.now1 hT hg
  rwa [kl_c.1, kl_c.2] at h9
theorem k_af (h : SvS w g 3 4 100 20 ks3 tn) (hT : Tab w) (hg : 0 ∉ g.l) (ht : tn + 4195328 ≤ 1152921504606846976) : Calls Tryz.prog 12 #[.pointer (some ⟨g.ps, 0, none⟩), .int .i64 308] w fun e w' =>
    ∃ A c, e = .returned (.tuple #[.slice A 2 c, .int .i64 308, .int .i64 0]) ∧ Rd w' A (ko2.flatMap fic) ∧ (∀ a, A = some a → w.heap.size ≤ a.block) ∧ SvS w' g 3 4 100 328 ks4 (tn + 4195328) ∧ Tn g.l w w' := by
  have h9 := sadv_ok g 3 4 100 ks3 tn 308 w h kJ3 kOk (by omega) (by decide) hT hg ht
  rw [show ks3.now + 308 = 328 by decide, kl_d.1] at h9
  dsimp only at h9
  rw [kl_d.2] at h9
  exact h9
theorem k_s1 (h : SvS w g 3 4 100 328 ks4 tn) (hT : Tab w) (hg : 0 ∉ g.l) : Calls Tryz.prog 14 #[.pointer (some ⟨g.ps, 0, none⟩), .int .i64 2] w fun e w' => e = .returned (.int .i64 0) ∧ SvS w' g 3 4 100 328 ks5 tn ∧ Tn g.l w w' := by
  have h9 := sstop_any g 3 4 100 ks4 2 tn w h kJ4.pi (by unfold I64N; omega) kOk kJ4.now0 kJ4.now1 hT hg
  rwa [kl_e.1, kl_e.2.1] at h9
theorem k_s2 (h : SvS w g 3 4 100 328 ks5 tn) (hT : Tab w) (hg : 0 ∉ g.l) : Calls Tryz.prog 14 #[.pointer (some ⟨g.ps, 0, none⟩), .int .i64 2] w fun e w' => e = .returned (.int .i64 3) ∧ SvS w' g 3 4 100 328 ks5 tn ∧ Tn g.l w w' := by
  have h9 := sstop_any g 3 4 100 ks5 2 tn w h kJ5.pi (by unfold I64N; omega) kOk kJ5.now0 kJ5.now1 hT hg
  rwa [kl_e.2.2.1, kl_e.2.2.2] at h9
theorem k_w3 (h : SvS w g 3 4 100 20 ks3 tn) : Calls Tryz.prog 8 #[.pointer (some ⟨g.ps, 0, none⟩)] w fun e w' => e = .returned (.tuple #[.int .i64 120, .bool true]) ∧ Below w.heap.size w w' := h.wakec kJ3
theorem k_w5 (h : SvS w g 3 4 100 328 ks5 tn) : Calls Tryz.prog 8 #[.pointer (some ⟨g.ps, 0, none⟩)] w fun e w' => e = .returned (.tuple #[.int .i64 0, .bool false]) ∧ Below w.heap.size w w' := h.wakec kJ5
theorem k_n5 (h : SvS w g 3 4 100 328 ks5 tn) : Calls Tryz.prog 9 #[.pointer (some ⟨g.ps, 0, none⟩)] w fun e w' => e = .returned (.int .i64 328) ∧ w = w' := h.nowc
theorem k_l5 (h : SvS w g 3 4 100 328 ks5 tn) : Calls Tryz.prog 10 #[.pointer (some ⟨g.ps, 0, none⟩)] w fun e w' => e = .returned (.int .i64 0) ∧ w = w' := h.lenc
end
set_option maxHeartbeats 16000000 in
set_option maxRecDepth 100000 in
theorem lives10_any (w : World) (hT : Tab w) : Calls Tryz.prog 4 #[] w fun e w' => e = .returned (.bool true) ∧ Below w.heap.size w w' := by
  have HT := Lib.hid hT
  have Hlt := Lib.hid hT.lt
  have f1 : Hid (Calls Tryz.prog 5 #[.int .i64 10, .agg #[.int .i64 4, .int .i64 100], .int .i64 3] w (RetSv 3 4 100 10 w)) := Lib.hid (snew_ok 10 4 100 3 w kOk (by omega) (by omega) (by omega) (by omega))
  have f2 := Lib.hid (fun X => snew_form 10 0 0 3 X (fun h => by have := h.1; omega) (by unfold I64N; omega))
  unfold RetSv at f1
  clear hT
  go_enter Tryz.func4, Tryz.ntmps4
  go_upto_region 2 with (go_at_call 5; (with_reducible refine f1.out.mono ?_); rintro e w1 ⟨g, rfl, hf1, hw1, hb1⟩; have HF := Lib.hid hf1; have HW1 := Lib.hid hw1; have HB1 := Lib.hid hb1; clear hf1 hw1 hb1)
  go_upto_region 3 with (go_at_call 5; (with_reducible refine (f2.out _).mono ?_); rintro e w2 ⟨rfl, hb2⟩; have HW2 := Lib.hid (HW1.out.below hb2); have HB2 := Lib.hid (HB1.out.trans (hb2.mono HB1.out.size)); clear hb2)
  have HG : Hid (0 ∉ g.l) := Lib.hid (fun hm => by have h1 := HF.out _ hm; have h2 := Hlt.out; omega)
  have HTb : Hid (∀ X, Tn g.l w2 X → Tab X) := Lib.hid (fun X q => (HT.out.below HB2.out Hlt.out).tn q HG.out)
  have HZ : Hid (∀ X, Tn g.l w2 X → Below w.heap.size w X) := Lib.hid (fun X q => q.base HB2.out HF.out HB2.out.size)
  have HU : Hid (∀ X, Below X.heap.size X X) := Lib.hid (fun X => Below.refl _ _)
  clear f1 f2
  go_upto_region 6 with (go_at_call 11; (with_reducible refine (k_st g _ _ HW2.out (HTb.out _ (Tn.refl _ _)) HG.out (by omega)).mono ?_); rintro e w3 ⟨rfl, hw3, ht3⟩; have HW3 := Lib.hid hw3; have HT3 := Lib.hid ht3; clear hw3 ht3)
  go_upto_region 7 with (go_at_call 8; (with_reducible refine (HW3.out.wakec kJ1).mono ?_); rintro e w4 ⟨rfl, hb4⟩; have HW4 := Lib.hid (HW3.out.below hb4); have HT4 := Lib.hid (HT3.out.below hb4); clear hb4)
  go_upto_region 8 with (go_at_call 12; (with_reducible refine (k_ad g _ _ HW4.out (HTb.out _ HT4.out) HG.out (by omega)).mono ?_); rintro e w5 ⟨A1, c1, rfl, hr5, ha5, hw5, ht5⟩; have HW5 := Lib.hid hw5; have HT5 := Lib.hid (HT4.out.trans ht5); have HR5 : Hid (∀ X, Tn g.l w5 X → Rd X A1 (ko1.flatMap fic)) := Lib.hid (fun X q => hr5.tn q (fun a ha hm => by have h1 := ha5 a ha; have h2 := HW4.out.lt _ hm; omega)); clear hr5 ha5 hw5 ht5)
  go_upto_region 9 with (go_at_call 13; (with_reducible refine (k_ev g _ _ HW5.out (HTb.out _ HT5.out) HG.out (by omega)).mono ?_); rintro e w6 ⟨rfl, hw6, ht6⟩; have HW6 := Lib.hid hw6; have HT6 := Lib.hid (HT5.out.trans ht6); have HV6 := Lib.hid ht6; clear hw6 ht6)
  go_upto_region 10 with (go_at_call 8; (with_reducible refine (k_w3 g _ _ HW6.out).mono ?_); rintro e w7 ⟨rfl, hb7⟩; have HW7 := Lib.hid (HW6.out.below hb7); have HT7 := Lib.hid (HT6.out.below hb7); have HV7 := Lib.hid (HV6.out.below hb7); clear hb7)
  go_upto_region 11 with (go_at_call 12; (with_reducible refine (k_af g _ _ HW7.out (HTb.out _ HT7.out) HG.out (by omega)).mono ?_); rintro e w8 ⟨A2, c2, rfl, hr8, ha8, hw8, ht8⟩; have HW8 := Lib.hid hw8; have HT8 := Lib.hid (HT7.out.trans ht8); have HV8 := Lib.hid (HV7.out.trans ht8); have HR8 : Hid (∀ X, Tn g.l w8 X → Rd X A2 (ko2.flatMap fic)) := Lib.hid (fun X q => hr8.tn q (fun a ha hm => by have h1 := ha8 a ha; have h2 := HW7.out.lt _ hm; omega)); clear hr8 ha8 hw8 ht8)
  go_upto_region 12 with (first
    | (go_at_call 14; (with_reducible refine (k_s1 g _ _ HW8.out (HTb.out _ HT8.out) HG.out).mono ?_); rintro e w9 ⟨rfl, hw9, ht9⟩; have HW9 := Lib.hid hw9; have HT9 := Lib.hid (HT8.out.trans ht9); have HU9 := Lib.hid ht9; clear hw9 ht9)
    | (go_at_call 14; (with_reducible refine (k_s2 g _ _ HW9.out (HTb.out _ HT9.out) HG.out).mono ?_); rintro e w10 ⟨rfl, hw10, ht10⟩; have HW10 := Lib.hid hw10; have HT10 := Lib.hid (HT9.out.trans ht10); have HU10 := Lib.hid (HU9.out.trans ht10); clear hw10 ht10))
  go_upto_region 13 with (go_at_call 8; (with_reducible refine (k_w5 g _ _ HW10.out).mono ?_); rintro e w11 ⟨rfl, hb11⟩; have HW11 := Lib.hid (HW10.out.below hb11); have HT11 := Lib.hid (HT10.out.below hb11); have HU11 := Lib.hid (HU10.out.below hb11); clear hb11)
  go_upto_region 14 with (go_at_call 12; (with_reducible refine (sadv_neg g 3 4 100 328 ks5 _ (-1) _ HW11.out (by omega)).mono ?_); rintro e w12 ⟨rfl, rfl⟩)
  have HV11 := Lib.hid (HV8.out.trans HU11.out)
  clear HW1 HW2 HW3 HW4 HW5 HW6 HW7 HW8 HW9 HW10
  obtain ⟨O1, hO1⟩ : ∃ O, O = Obj.cells #[.int .i64 1, .int .i64 12, .int .i64 2] 57 (0, 0) := ⟨_, rfl⟩
  obtain ⟨O2, hO2⟩ : ∃ O, O = Obj.cells #[.int .i64 2, .int .i64 320, .int .i64 0, .int .i64 2, .int .i64 327, .int .i64 0] 57 (0, 0) := ⟨_, rfl⟩
  have fS1 : Hid (Calls Tryz.prog 15 #[.slice A1 1 c1, .slice (some ⟨w11.heap.size, 0, none⟩) 1 1] (w11.alloc O1) fun e w' => e = .returned (.bool true) ∧ ∃ n, (w11.alloc O1).drewN n = w') := Lib.hid (rtsame_one ko1 (by decide) A1 c1 (some ⟨w11.heap.size, 0, none⟩) 1 (w11.alloc O1) ((HR5.out _ HV11.out).alloc O1) (fun i u hu => ⟨_, rfl, by rw [add_zero_lit, Nat.zero_add, hO1]; exact new_cell hu⟩))
  have fS2 : Hid (∀ n, Calls Tryz.prog 15 #[.slice A2 2 c2, .slice (some ⟨w11.heap.size + 1, 0, none⟩) 2 2] (((w11.alloc O1).drewN n).alloc O2) fun e w' => e = .returned (.bool true) ∧ ∃ n', (((w11.alloc O1).drewN n).alloc O2).drewN n' = w') := Lib.hid (fun n => rtsame_one ko2 (by decide) A2 c2 (some ⟨w11.heap.size + 1, 0, none⟩) 2 _ ((Rd.drewN ((HR8.out _ HU11.out).alloc O1) n).alloc O2) (fun i u hu => ⟨_, rfl, by
    rw [add_zero_lit, Nat.zero_add, hO2]
    have h1 := new_cell (w := (w11.alloc O1).drewN n) (t := 57) hu
    rw [show ((w11.alloc O1).drewN n).heap.size = w11.heap.size + 1 by simp] at h1
    exact h1⟩))
  have HX : Hid (∀ n m, SvS ((((w11.alloc O1).drewN n).alloc O2).drewN m) g 3 4 100 328 ks5 _) := Lib.hid (fun n m => HW11.out.turn (F := []) (((((Tn.refl [] w11).alloc O1).drewN n).alloc O2).drewN m) (fun _ _ => by simp))
  have HEnd : Hid (∀ n m, Below w.heap.size w ((((w11.alloc O1).drewN n).alloc O2).drewN m)) := Lib.hid (fun n m => HZ.out _ ((((HT11.out.alloc O1).drewN n).alloc O2).drewN m))
  subst hO1 hO2
  clear HTb HZ HU
  go_wp2_with (first
    | (go_at_call 15; (with_reducible refine fS1.out.mono ?_); rintro e w' ⟨rfl, n1, rfl⟩)
    | (go_at_call 15; (with_reducible refine (fS2.out _).mono ?_); rintro e w' ⟨rfl, n2, rfl⟩)
    | (go_at_call 9; (with_reducible refine (k_n5 g _ _ (HX.out _ _)).mono ?_); rintro e w' ⟨rfl, rfl⟩)
    | (go_at_call 10; (with_reducible refine (k_l5 g _ _ (HX.out _ _)).mono ?_); rintro e w' ⟨rfl, rfl⟩))
  go_ret
  exact ⟨rfl, HEnd.out _ _⟩
end Go.Proofs.YtiblpnadninmbaaGreatDoor

/- Package vergelaw09: the walks of lives, by. Conditions: the de Bruijn table. -/
import Derived.Test.YtiblpnadninmbaaDoorTrX2
import Derived.Test.YtiblpnadninmbaaDoorDuN
namespace Go.Proofs.YtiblpnadninmbaaDoor
open Go.RowKit Go.Shelf
attribute [local go_sem] Oper.semAt_some

set_option maxHeartbeats 4000000 in
theorem by09_any (t n : Int) (w : World) : Calls Tryd.prog 14 #[.int .i64 t, .int .i64 n] w fun e w' => (∃ z, e = .returned (.int .i64 z)) ∧ w = w' := by
  go_enter Tryd.func14, Tryd.ntmps14
  go_wp2
  all_goals (go_ret; exact ⟨⟨_, rfl⟩, rfl⟩)
def tv1 : List Du := [⟨1, 10⟩]
def tv2 : List Du := [⟨1, 10⟩, ⟨2, 15⟩]
def tv3 : List Du := [⟨1, 25⟩]
def tvP : List Pe := [⟨1, 5⟩]
def tvO : List Fi := [⟨1, 10, 12⟩, ⟨2, 15, 7⟩, ⟨1, 15, 7⟩, ⟨1, 20, 2⟩]
theorem tv_a : everyC 3 [] 1 10 5 = 0 ∧ everyL 3 [] 1 10 5 = tv1 ∧ everyP 3 [] [] 1 10 5 = tvP := by decide
theorem tv_b : insC 3 tv1 2 15 = 0 ∧ insL 3 tv1 2 15 = tv2 := by decide
theorem tv_c : everyC 3 tv2 3 1 0 = 1 ∧ everyL 3 tv2 3 1 0 = tv2 ∧ everyP 3 tv2 tvP 3 1 0 = tvP := by decide
theorem tv_d : runT 3 22 1024 tv2 tvP = (tvO, tv3, tvP) := by
  rw [run_some 1023 (by decide), run_some 1022 (by decide), run_some 1021 (by decide), run_some 1020 (by decide), run_none 1020 (by decide)]
  decide
theorem tv_e : minD 4503599627370496 tv3 = 25 := by decide
theorem tv_f : perD tvP 1 = 5 ∧ canC tv3 1 = 0 ∧ perD tvP 2 = 0 ∧ canC tv3 2 = 3 ∧ canL tv3 1 = [] ∧ woD tvP 1 = [] ∧ canC [] 1 = 3 ∧ canL [] 1 = [] ∧ woD [] 1 = [] := by decide
theorem tvI1 : PI tv1 tvP := ⟨by decide, by decide⟩
theorem tvI2 : PI tv2 tvP := ⟨by decide, by decide⟩
theorem tvI3 : PI tv3 tvP := ⟨by decide, by decide⟩
section
variable (g : TmF) (tn : Nat) (w : World)
theorem tl_ev1 (h : Tms w g 3 0 [] [] tn) (ht : tn ≤ 1152921504606846976) : Calls Tryd.prog 18 #[.pointer (some ⟨g.pt, 0, none⟩), .int .i64 1, .int .i64 10, .int .i64 5] w fun e w' => e = .returned (.int .i64 0) ∧ Tms w' g 3 0 tv1 tvP (tn + 1) ∧ Tn g.l w w' := by
  have h9 := tevery_any g 3 0 [] [] tn w 1 10 5 h (PI.zero _) (by unfold I64N; omega) ht
  rwa [tv_a.1, tv_a.2.1, tv_a.2.2] at h9
theorem tl_st (h : Tms w g 3 0 tv1 tvP tn) (ht : tn ≤ 1152921504606846976) : Calls Tryd.prog 16 #[.pointer (some ⟨g.pt, 0, none⟩), .int .i64 2, .int .i64 15] w fun e w' => e = .returned (.int .i64 0) ∧ Tms w' g 3 0 tv2 tvP (tn + 1) ∧ Tn g.l w w' := by
  have h9 := tstart_any g 3 0 tv1 tvP tn w 2 15 h (by unfold I64N; omega) ht
  rwa [tv_b.1, tv_b.2] at h9
theorem tl_ev2 (h : Tms w g 3 0 tv2 tvP tn) (ht : tn ≤ 1152921504606846976) : Calls Tryd.prog 18 #[.pointer (some ⟨g.pt, 0, none⟩), .int .i64 3, .int .i64 1, .int .i64 0] w fun e w' => e = .returned (.int .i64 1) ∧ Tms w' g 3 0 tv2 tvP (tn + 1) ∧ Tn g.l w w' := by
  have h9 := tevery_any g 3 0 tv2 tvP tn w 3 1 0 h tvI2 (by unfold I64N; omega) ht
  rwa [tv_c.1, tv_c.2.1, tv_c.2.2] at h9
theorem tl_run (h : Tms w g 3 0 tv2 tvP tn) (hT : Tab w) (hg : 0 ∉ g.f.l) (ht : tn + 1024 ≤ 1152921504606846976) : Calls Tryd.prog 23 #[.pointer (some ⟨g.pt, 0, none⟩), .int .i64 22] w fun e w' => ∃ A c, e = .returned (.tuple #[.slice A 4 c, .int .i64 0]) ∧ Rd w' A (tvO.flatMap fic) ∧ (∀ a, A = some a → w.heap.size ≤ a.block) ∧ Tms w' g 3 22 tv3 tvP (tn + 1024) ∧ Tn g.l w w' := by
  have h9 := trun_any g 3 0 tv2 tvP tn w 22 h hT hg ht
  unfold RetRun at h9
  simp only [if_pos (show (0 : Int) ≤ 22 ∧ (22 : Int) ≤ 4503599627370496 by omega), tv_d] at h9
  exact h9
theorem tl_nx (h : Tms w g 3 22 tv3 tvP tn) (hT : Tab w) : Calls Tryd.prog 27 #[.pointer (some ⟨g.f.pw, 0, none⟩)] w fun e w' => e = .returned (.tuple #[.int .i64 25, .bool true]) ∧ Below w.heap.size w w' := by
  have h9 := whl_next g.f 3 22 tv3 tn w h.whl hT
  rw [if_neg (by decide), tv_e] at h9
  exact h9
theorem tl_p1 (h : Tms w g 3 22 tv3 tvP tn) : Calls Tryd.prog 25 #[.pointer (some ⟨g.pt, 0, none⟩), .int .i64 1] w fun e w' => e = .returned (.tuple #[.int .i64 5, .int .i64 0]) ∧ w = w' := by
  have h9 := tperiod_any g 3 22 tv3 tvP tn w 1 h tvI3 (by unfold I64N; omega)
  rwa [tv_f.1, tv_f.2.1] at h9
theorem tl_p2 (h : Tms w g 3 22 tv3 tvP tn) : Calls Tryd.prog 25 #[.pointer (some ⟨g.pt, 0, none⟩), .int .i64 2] w fun e w' => e = .returned (.tuple #[.int .i64 0, .int .i64 3]) ∧ w = w' := by
  have h9 := tperiod_any g 3 22 tv3 tvP tn w 2 h tvI3 (by unfold I64N; omega)
  rwa [tv_f.2.2.1, tv_f.2.2.2.1] at h9
theorem tl_s1 (h : Tms w g 3 22 tv3 tvP tn) : Calls Tryd.prog 20 #[.pointer (some ⟨g.pt, 0, none⟩), .int .i64 1] w fun e w' => e = .returned (.int .i64 0) ∧ Tms w' g 3 22 [] [] tn ∧ Tn g.l w w' := by
  have h9 := tstop_any g 3 22 tv3 tvP tn w 1 h tvI3 (by unfold I64N; omega)
  rwa [tv_f.2.1, tv_f.2.2.2.2.1, tv_f.2.2.2.2.2.1] at h9
theorem tl_s2 (h : Tms w g 3 22 [] [] tn) : Calls Tryd.prog 20 #[.pointer (some ⟨g.pt, 0, none⟩), .int .i64 1] w fun e w' => e = .returned (.int .i64 3) ∧ Tms w' g 3 22 [] [] tn ∧ Tn g.l w w' := by
  have h9 := tstop_any g 3 22 [] [] tn w 1 h (PI.zero _) (by unfold I64N; omega)
  rwa [tv_f.2.2.2.2.2.2.1, tv_f.2.2.2.2.2.2.2.1, tv_f.2.2.2.2.2.2.2.2] at h9
end
set_option maxHeartbeats 4000000 in
set_option maxRecDepth 100000 in
theorem lives09_any (w : World) (hT : Tab w) : Calls Tryd.prog 11 #[] w fun e w' => e = .returned (.bool true) ∧ Below w.heap.size w w' := by
  have HT := Lib.hid hT
  have Hlt := Lib.hid hT.lt
  have f1 : Hid (Calls Tryd.prog 12 #[.int .i64 0, .int .i64 3] w (RetTms 3 0 w)) := Lib.hid (tnew_ok 0 3 w (by omega) (by omega) (by omega) (by omega))
  have f2 := Lib.hid (fun X => tnew_bad 0 0 X (by omega))
  unfold RetTms at f1
  clear hT
  go_enter Tryd.func11, Tryd.ntmps11
  go_upto_region 2 with (go_at_call 12; (with_reducible refine f1.out.mono ?_); rintro e w1 ⟨g, rfl, hf1, hw1, hb1⟩; have HF := Lib.hid hf1; have HW1 := Lib.hid hw1; have HB1 := Lib.hid hb1; clear hf1 hw1 hb1)
  go_upto_region 3 with (go_at_call 12; (with_reducible refine (f2.out _).mono ?_); rintro e w2 ⟨rfl, rfl⟩)
  go_upto_region 6 with (first
    | (go_at_call 18; (with_reducible refine (tl_ev1 g _ _ HW1.out (by omega)).mono ?_); rintro e w3 ⟨rfl, hw3, ht3⟩; have HW3 := Lib.hid hw3; have HT3 := Lib.hid ht3; clear hw3 ht3; clear HW1)
    | (go_at_call 16; (with_reducible refine (tl_st g _ _ HW3.out (by omega)).mono ?_); rintro e w4 ⟨rfl, hw4, ht4⟩; have HW4 := Lib.hid hw4; have HT4 := Lib.hid (HT3.out.trans ht4); clear hw4 ht4)
    | (go_at_call 18; (with_reducible refine (tl_ev2 g _ _ HW4.out (by omega)).mono ?_); rintro e w5 ⟨rfl, hw5, ht5⟩; have HW5 := Lib.hid hw5; have HT5 := Lib.hid (HT4.out.trans ht5); clear hw5 ht5))
  have HG : Hid (0 ∉ g.l) := Lib.hid (fun hm => by have h1 := HF.out _ hm; have h2 := Hlt.out; omega)
  have HGf : Hid (0 ∉ g.f.l) := Lib.hid (fun hm => HG.out (by simp [TmF.l, hm]))
  have HT5' : Hid (Tab w5) := Lib.hid (((HT.out.below HB1.out Hlt.out)).tn HT5.out HG.out)
  go_upto_region 7 with (go_at_call 23; (with_reducible refine (tl_run g _ _ HW5.out HT5'.out HGf.out (by omega)).mono ?_); rintro e w6 ⟨A, c, rfl, hr6, ha6, hw6, ht6⟩; have HR6 := Lib.hid hr6; have HA6 := Lib.hid ha6; have HW6 := Lib.hid hw6; have HT6 := Lib.hid (HT5.out.trans ht6); clear hr6 ha6 hw6 ht6)
  have HT6' : Hid (Tab w6) := Lib.hid (((HT.out.below HB1.out Hlt.out)).tn HT6.out HG.out)
  obtain ⟨xx, xy⟩ := box_rules (HW6.out).box
  have lx := box_lt (HW6.out).box
  go_upto_region 8 with (go_at_call 27; (with_reducible refine (tl_nx g _ _ HW6.out HT6'.out).mono ?_); rintro e w7 ⟨rfl, hb7⟩; have HW7 := Lib.hid (HW6.out.below hb7); have HT7 := Lib.hid (HT6.out.below hb7); have HR7 := Lib.hid (HR6.out.below hb7); have hs7 := hb7.size; clear hb7)
  clear xx xy lx
  go_upto_region 9 with (go_at_call 25; (with_reducible refine (tl_p1 g _ _ HW7.out).mono ?_); rintro e w' ⟨rfl, rfl⟩)
  go_upto_region 10 with (go_at_call 25; (with_reducible refine (tl_p2 g _ _ HW7.out).mono ?_); rintro e w' ⟨rfl, rfl⟩)
  go_upto_region 11 with (first
    | (go_at_call 20; (with_reducible refine (tl_s1 g _ _ HW7.out).mono ?_); rintro e w8 ⟨rfl, hw8, ht8⟩; have HW8 := Lib.hid hw8; have HT8 := Lib.hid (HT7.out.trans ht8); have HU8 := Lib.hid ht8; clear hw8 ht8)
    | (go_at_call 20; (with_reducible refine (tl_s2 g _ _ HW8.out).mono ?_); rintro e w9 ⟨rfl, hw9, ht9⟩; have HW9 := Lib.hid hw9; have HT9 := Lib.hid (HT8.out.trans ht9); have HU9 := Lib.hid (HU8.out.trans ht9); clear hw9 ht9))
  have HA : Hid (∀ a, A = some a → a.block ∉ g.l) := Lib.hid (fun a ha hm => by
    have h1 := HA6.out a ha
    have h3 := HW5.out.lt _ hm
    omega)
  obtain ⟨O, hO⟩ : ∃ O, O = Obj.cells #[.int .i64 1, .int .i64 10, .int .i64 12, .int .i64 2, .int .i64 15, .int .i64 7, .int .i64 1, .int .i64 15, .int .i64 7, .int .i64 1, .int .i64 20, .int .i64 2] 66 (0, 0) := ⟨_, rfl⟩
  have HRA : Hid (Rd (w9.alloc O) A (tvO.flatMap fic)) := Lib.hid ((HR7.out.tn HU9.out HA.out).alloc O)
  have HRB : Hid (Rd (w9.alloc O) (some ⟨w9.heap.size, 0, none⟩) (tvO.flatMap fic)) := Lib.hid (fun i u hu => ⟨_, rfl, by rw [add_zero_lit, Nat.zero_add, hO]; exact new_cell hu⟩)
  have fS : Hid (Calls Tryd.prog 24 #[.slice A 4 c, .slice (some ⟨w9.heap.size, 0, none⟩) 4 4] (w9.alloc O) fun e w' => e = .returned (.bool true) ∧ ∃ n, (w9.alloc O).drewN n = w') := Lib.hid (rtsame_one tvO (by decide) A c (some ⟨w9.heap.size, 0, none⟩) 4 (w9.alloc O) HRA.out HRB.out)
  have HWX := Lib.hid (fun n => HW9.out.turn (F := []) (((Tn.refl [] w9).alloc O).drewN n) (fun _ _ => by simp))
  have fL : Hid (∀ n, Calls Tryd.prog 29 #[.pointer (some ⟨g.f.pw, 0, none⟩)] ((w9.alloc O).drewN n) fun e w' => e = .returned (.int .i64 0) ∧ (w9.alloc O).drewN n = w') := Lib.hid (fun n => whl_len g.f 3 22 [] _ _ (HWX.out n).whl)
  have fN : Hid (∀ n, Calls Tryd.prog 30 #[.pointer (some ⟨g.f.pw, 0, none⟩)] ((w9.alloc O).drewN n) fun e w' => e = .returned (.int .i64 22) ∧ (w9.alloc O).drewN n = w') := Lib.hid (fun n => whl_now g.f 3 22 [] _ _ (HWX.out n).whl)
  have HEnd : Hid (∀ n, Below w.heap.size w ((w9.alloc O).drewN n)) := Lib.hid (fun n => HT9.out.alloc O |>.drewN n |>.base HB1.out HF.out HB1.out.size)
  have HBx : Hid (w9.heap[g.pt]? = some (.cells #[.pointer (some ⟨g.f.pw, 0, none⟩), .map (some g.mb)] 60 (0, 0))) := Lib.hid HW9.out.box
  obtain ⟨xx, xy⟩ := box_rules HBx.out
  have lx := box_lt HBx.out
  subst hO
  go_wp2_with (first
    | (go_at_call 24; (with_reducible refine fS.out.mono ?_); rintro e w' ⟨rfl, n, rfl⟩)
    | (go_at_call 29; (with_reducible refine (fL.out _).mono ?_); rintro e w' ⟨rfl, rfl⟩)
    | (go_at_call 30; (with_reducible refine (fN.out _).mono ?_); rintro e w' ⟨rfl, rfl⟩))
  go_ret
  exact ⟨rfl, HEnd.out _⟩
end Go.Proofs.YtiblpnadninmbaaDoor

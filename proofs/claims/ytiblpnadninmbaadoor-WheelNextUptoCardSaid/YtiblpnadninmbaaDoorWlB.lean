/- Package vergelaw08: the walk of lives: the document's own answers. Conditions: the de Bruijn table. -/
import Derived.Test.YtiblpnadninmbaaDoorWlA
import Derived.Test.YtiblpnadninmbaaDoorRhD
namespace Go.Proofs.YtiblpnadninmbaaDoor
open Go.RowKit Go.Shelf
attribute [local go_sem] Oper.semAt_some
def lv1 : List Du := [⟨1, 100⟩]
def lv2 : List Du := [⟨1, 100⟩, ⟨2, 70⟩]
def lv3 : List Du := [⟨1, 100⟩, ⟨2, 70⟩, ⟨3, 100⟩]
def lv4 : List Du := [⟨1, 100⟩, ⟨2, 70⟩, ⟨3, 100⟩, ⟨9, 1099511627776⟩]
def lvT : List Du := [⟨2, 70⟩, ⟨1, 100⟩, ⟨3, 100⟩]
def lvR : List Du := [⟨9, 1099511627776⟩]
theorem lv_a : insC 4 [] 1 100 = 0 ∧ insL 4 [] 1 100 = lv1 := by decide
theorem lv_b : insC 4 lv1 2 70 = 0 ∧ insL 4 lv1 2 70 = lv2 := by decide
theorem lv_c : insC 4 lv2 3 100 = 0 ∧ insL 4 lv2 3 100 = lv3 := by decide
theorem lv_d : insC 4 lv3 1 5 = 4 ∧ insL 4 lv3 1 5 = lv3 := by decide
theorem lv_e : insC 4 lv3 9 1099511627776 = 0 ∧ insL 4 lv3 9 1099511627776 = lv4 := by decide
theorem lv_f : insC 4 lv4 10 5 = 5 ∧ insL 4 lv4 10 5 = lv4 := by decide
theorem lv_g : minD 4503599627370496 lv4 = 70 := by decide
theorem lv_h : mvD 100 lv4 = lvT ∧ rsD 100 lv4 = lvR := by decide
theorem lv_i : atD lvR 9 = 1099511627776 ∧ canC lvR 9 = 0 ∧ canL lvR 9 = [] ∧ canC [] 9 = 3 ∧ canL [] 9 = [] := by decide
theorem whl_ins2 {f : WhF} {room : Nat} {now : Int} {L L' : List Du} {tn : Nat} {id a code : Int} (w : World) (h : Whl w f room now L tn) (hc : insC room L id a = code ∧ insL room L id a = L') (hi : I64N id) (ht : tn ≤ 1152921504606846976) :
    Calls Tryd.prog 44 #[.pointer (some ⟨f.pw, 0, none⟩), .int .i64 id, .int .i64 a] w fun e w' => e = .returned (.int .i64 code) ∧ Whl w' f room now L' (tn + 1) ∧ Tn f.l w w' := by
  have h9 := whl_insert f room now L tn w id a h hi ht
  rwa [hc.1, hc.2] at h9
theorem nx_lives (f : WhF) (tn : Nat) (w : World) (h : Whl w f 4 0 lv4 tn) (hT : Tab w) : Calls Tryd.prog 27 #[.pointer (some ⟨f.pw, 0, none⟩)] w fun e w' => e = .returned (.tuple #[.int .i64 70, .bool true]) ∧ Below w.heap.size w w' := by
  have h9 := whl_next f 4 0 lv4 tn w h hT
  rw [if_neg (by decide), lv_g] at h9
  exact h9
theorem mv_lives (f : WhF) (tn : Nat) (w : World) (h : Whl w f 4 0 lv4 tn) (hT : Tab w) (hg : 0 ∉ f.l) : Calls Tryd.prog 48 #[.pointer (some ⟨f.pw, 0, none⟩), .int .i64 100] w fun e w' => ∃ A c, e = .returned (.tuple #[.slice A 3 c, .int .i64 0]) ∧ Rd w' A (lvT.flatMap duc) ∧ (∀ a, A = some a → w.heap.size ≤ a.block) ∧ Whl w' f 4 100 lvR tn ∧ Tn f.l w w' := by
  have h9 := whl_move f 4 0 lv4 tn w 100 h hT hg
  unfold RetMv at h9
  simp only [if_pos (show (0 : Int) ≤ 100 ∧ (100 : Int) ≤ 4503599627370496 by omega), lv_h.1, lv_h.2] at h9
  exact h9
theorem mb_lives (f : WhF) (tn : Nat) (w : World) (h : Whl w f 4 100 [] tn) (hT : Tab w) (hg : 0 ∉ f.l) : Calls Tryd.prog 48 #[.pointer (some ⟨f.pw, 0, none⟩), .int .i64 99] w fun e w' => e = .returned (.tuple #[.slice none 0 0, .int .i64 1]) ∧ Whl w' f 4 100 [] tn ∧ Tn f.l w w' := by
  have h9 := whl_move f 4 100 [] tn w 99 h hT hg
  unfold RetMv at h9
  simp only [if_neg (show ¬ ((100 : Int) ≤ 99 ∧ (99 : Int) ≤ 4503599627370496) by omega)] at h9
  exact h9
theorem at_lives (f : WhF) (tn : Nat) (w : World) (h : Whl w f 4 100 lvR tn) : Calls Tryd.prog 50 #[.pointer (some ⟨f.pw, 0, none⟩), .int .i64 9] w fun e w' => e = .returned (.tuple #[.int .i64 1099511627776, .int .i64 0]) ∧ w = w' := by
  have h9 := whl_at f 4 100 lvR tn w 9 h (by unfold I64N; omega)
  rwa [lv_i.1, lv_i.2.1] at h9
theorem ca_lives (f : WhF) (tn : Nat) (w : World) (h : Whl w f 4 100 lvR tn) : Calls Tryd.prog 46 #[.pointer (some ⟨f.pw, 0, none⟩), .int .i64 9] w fun e w' => e = .returned (.int .i64 0) ∧ Whl w' f 4 100 [] tn ∧ Tn f.l w w' := by
  have h9 := whl_cancel f 4 100 lvR tn w 9 h (by unfold I64N; omega)
  rwa [lv_i.2.1, lv_i.2.2.1] at h9
theorem cb_lives (f : WhF) (tn : Nat) (w : World) (h : Whl w f 4 100 [] tn) : Calls Tryd.prog 46 #[.pointer (some ⟨f.pw, 0, none⟩), .int .i64 9] w fun e w' => e = .returned (.int .i64 3) ∧ Whl w' f 4 100 [] tn ∧ Tn f.l w w' := by
  have h9 := whl_cancel f 4 100 [] tn w 9 h (by unfold I64N; omega)
  rwa [lv_i.2.2.2.1, lv_i.2.2.2.2] at h9
set_option maxHeartbeats 4000000 in
set_option maxRecDepth 100000 in
theorem lives08_any (w : World) (hT : Tab w) : Calls Tryd.prog 39 #[] w fun e w' => e = .returned (.bool true) ∧ Below w.heap.size w w' := by
  have HT := Lib.hid hT
  have Hlt := Lib.hid hT.lt
  have f1 : Hid (Calls Tryd.prog 40 #[.int .i64 0, .int .i64 4] w (RetWhl 4 0 w)) := Lib.hid (whl_new 0 4 w (by omega) (by omega) (by omega) (by omega))
  have f2 := Lib.hid (fun X => whl_bad (-1) 4 X (by omega))
  unfold RetWhl at f1
  clear hT
  go_enter Tryd.func39, Tryd.ntmps39
  go_upto_region 2 with (go_at_call 40; go_loud ((with_reducible refine f1.out.mono ?_); rintro e w1 ⟨f, rfl, hf1, hw1, hb1⟩; have HF := Lib.hid hf1; have HW1 := Lib.hid hw1; have HB1 := Lib.hid hb1; clear hf1 hw1 hb1))
  go_upto_region 3 with (go_at_call 40; go_loud ((with_reducible refine (f2.out _).mono ?_); rintro e w2 ⟨rfl, rfl⟩))
  go_upto_region 6 with (first
    | (go_at_call 44; (with_reducible refine (whl_ins2 (id := 1) (a := 100) _ HW1.out lv_a (by unfold I64N; omega) (by omega)).mono ?_); rintro e w3 ⟨rfl, hw3, ht3⟩; have HW3 := Lib.hid hw3; have HT3 := Lib.hid (ht3); clear hw3 ht3)
    | (go_at_call 44; (with_reducible refine (whl_ins2 (id := 2) (a := 70) _ HW3.out lv_b (by unfold I64N; omega) (by omega)).mono ?_); rintro e w4 ⟨rfl, hw4, ht4⟩; have HW4 := Lib.hid hw4; have HT4 := Lib.hid (HT3.out.trans ht4); clear hw4 ht4)
    | (go_at_call 44; (with_reducible refine (whl_ins2 (id := 3) (a := 100) _ HW4.out lv_c (by unfold I64N; omega) (by omega)).mono ?_); rintro e w5 ⟨rfl, hw5, ht5⟩; have HW5 := Lib.hid hw5; have HT5 := Lib.hid (HT4.out.trans ht5); clear hw5 ht5))
  go_upto_region 7 with (first
    | (go_at_call 44; (with_reducible refine (whl_ins2 (id := 1) (a := 5) _ HW5.out lv_d (by unfold I64N; omega) (by omega)).mono ?_); rintro e w6 ⟨rfl, hw6, ht6⟩; have HW6 := Lib.hid hw6; have HT6 := Lib.hid (HT5.out.trans ht6); clear hw6 ht6)
    | (go_at_call 44; (with_reducible refine (whl_ins2 (id := 9) (a := 1099511627776) _ HW6.out lv_e (by unfold I64N; omega) (by omega)).mono ?_); rintro e w7 ⟨rfl, hw7, ht7⟩; have HW7 := Lib.hid hw7; have HT7 := Lib.hid (HT6.out.trans ht7); clear hw7 ht7))
  have HG : Hid (0 ∉ f.l) := Lib.hid (fun hm => by have h1 := HF.out _ hm; have h2 := Hlt.out; omega)
  have HT7' : Hid (Tab w7) := Lib.hid (((HT.out.below HB1.out Hlt.out)).tn HT7.out HG.out)
  go_upto_region 8 with (go_at_call 27; (with_reducible refine (nx_lives f _ _ HW7.out HT7'.out).mono ?_); rintro e w8 ⟨rfl, hb8⟩; have HW8 := Lib.hid (HW7.out.below hb8); have HT8 := Lib.hid (HT7.out.below hb8); clear hb8)
  go_upto_region 9 with (go_at_call 44; (with_reducible refine (whl_ins2 (id := 10) (a := 5) _ HW8.out lv_f (by unfold I64N; omega) (by omega)).mono ?_); rintro e w9 ⟨rfl, hw9, ht9⟩; have HW9 := Lib.hid hw9; have HT9 := Lib.hid (HT8.out.trans ht9); clear hw9 ht9)
  have HT9' : Hid (Tab w9) := Lib.hid (((HT.out.below HB1.out Hlt.out)).tn HT9.out HG.out)
  go_upto_region 10 with (go_at_call 48; (with_reducible refine (mv_lives f _ _ HW9.out HT9'.out HG.out).mono ?_); rintro e w10 ⟨A, c, rfl, hr10, ha10, hw10, ht10⟩; have HR10 := Lib.hid hr10; have HA10 := Lib.hid ha10; have HW10 := Lib.hid hw10; have HT10 := Lib.hid (HT9.out.trans ht10); clear hr10 ha10 hw10 ht10)
  go_upto_region 11 with (go_at_call 50; (with_reducible refine (at_lives f _ _ HW10.out).mono ?_); rintro e w' ⟨rfl, rfl⟩)
  go_upto_region 12 with (first
    | (go_at_call 46; (with_reducible refine (ca_lives f _ _ HW10.out).mono ?_); rintro e w11 ⟨rfl, hw11, ht11⟩; have HW11 := Lib.hid hw11; have HT11 := Lib.hid (HT10.out.trans ht11); have HU11 := Lib.hid ht11; clear hw11 ht11; clear HW10)
    | (go_at_call 46; (with_reducible refine (cb_lives f _ _ HW11.out).mono ?_); rintro e w12 ⟨rfl, hw12, ht12⟩; have HW12 := Lib.hid hw12; have HT12 := Lib.hid (HT11.out.trans ht12); have HU12 := Lib.hid (HU11.out.trans ht12); clear hw12 ht12))
  have HT12' : Hid (Tab w12) := Lib.hid (((HT.out.below HB1.out Hlt.out)).tn HT12.out HG.out)
  go_upto_region 13 with (go_at_call 48; (with_reducible refine (mb_lives f _ _ HW12.out HT12'.out HG.out).mono ?_); rintro e w13 ⟨rfl, hw13, ht13⟩; have HW13 := Lib.hid hw13; have HT13 := Lib.hid (HT12.out.trans ht13); have HU13 := Lib.hid (HU12.out.trans ht13); clear hw13 ht13)
  have HA : Hid (∀ a, A = some a → a.block ∉ f.l) := Lib.hid (fun a ha hm => by
    have h1 := HA10.out a ha
    have h2 := HF.out
    have h3 := HW9.out.lt _ hm
    omega)
  obtain ⟨O, hO⟩ : ∃ O, O = Obj.cells #[.int .i64 2, .int .i64 70, .int .i64 1, .int .i64 100, .int .i64 3, .int .i64 100] 98 (0, 0) := ⟨_, rfl⟩
  have HRA : Hid (Rd (w13.alloc O) A (lvT.flatMap duc)) := Lib.hid ((HR10.out.tn HU13.out HA.out).alloc O)
  have HRB : Hid (Rd (w13.alloc O) (some ⟨w13.heap.size, 0, none⟩) (lvT.flatMap duc)) := Lib.hid (fun i u hu => ⟨_, rfl, by rw [add_zero_lit, Nat.zero_add, hO]; exact new_cell hu⟩)
  have fS : Hid (Calls Tryd.prog 49 #[.slice A 3 c, .slice (some ⟨w13.heap.size, 0, none⟩) 3 3] (w13.alloc O) fun e w' => e = .returned (.bool true) ∧ ∃ n, (w13.alloc O).drewN n = w') := Lib.hid (rsame_one lvT (by decide) A c (some ⟨w13.heap.size, 0, none⟩) 3 (w13.alloc O) HRA.out HRB.out)
  have HWX : Hid (∀ n, Whl ((w13.alloc O).drewN n) f 4 100 [] (0 + 1 + 1 + 1 + 1 + 1 + 1)) := Lib.hid (fun n => HW13.out.tn' (F := []) (((Tn.refl [] w13).alloc O).drewN n) (fun _ _ => by simp))
  have fL : Hid (∀ n, Calls Tryd.prog 29 #[.pointer (some ⟨f.pw, 0, none⟩)] ((w13.alloc O).drewN n) fun e w' => e = .returned (.int .i64 0) ∧ (w13.alloc O).drewN n = w') := Lib.hid (fun n => whl_len f 4 100 [] _ _ (HWX.out n))
  have fN : Hid (∀ n, Calls Tryd.prog 30 #[.pointer (some ⟨f.pw, 0, none⟩)] ((w13.alloc O).drewN n) fun e w' => e = .returned (.int .i64 100) ∧ (w13.alloc O).drewN n = w') := Lib.hid (fun n => whl_now f 4 100 [] _ _ (HWX.out n))
  have HEnd : Hid (∀ n, Below w.heap.size w ((w13.alloc O).drewN n)) := Lib.hid (fun n => HT13.out.alloc O |>.drewN n |>.base HB1.out HF.out HB1.out.size)
  subst hO
  go_wp2_with (first
    | (go_at_call 49; (with_reducible refine fS.out.mono ?_); rintro e w' ⟨rfl, n, rfl⟩)
    | (go_at_call 29; (with_reducible refine (fL.out _).mono ?_); rintro e w' ⟨rfl, rfl⟩)
    | (go_at_call 30; (with_reducible refine (fN.out _).mono ?_); rintro e w' ⟨rfl, rfl⟩))
  go_ret
  exact ⟨rfl, HEnd.out _⟩
end Go.Proofs.YtiblpnadninmbaaDoor

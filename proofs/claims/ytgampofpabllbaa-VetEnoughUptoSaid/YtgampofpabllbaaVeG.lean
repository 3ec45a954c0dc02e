/- vergelaw27: the small configuration, what the package answers at it; the walk of lives. No premise of its own. -/
import Derived.Test.YtgampofpabllbaaVeF
import Derived.Test.YtgampofpabllbaaVetH
namespace Go.Proofs.Ytgampofpabllbaa
open Go.RowKit Go.Shelf
attribute [local go_sem] Oper.semAt_some

set_option maxHeartbeats 2000000 in
theorem same27_one (A : Option Addr) (c : Nat) (B : Option Addr) (c' : Nat) (l : List Fl) (w : World) (hl : l.length ≤ 549755813888) (h1 : Rd w A (l.flatMap flc)) (h2 : Rd w B (l.flatMap flc)) :
    Calls Try.prog 13 #[.slice A l.length c, .slice B l.length c'] w fun e w' => e = .returned (.bool true) ∧ ∃ k, w.drewN k = w' := by
  have H1 := Lib.hid h1; have H2 := Lib.hid h2
  clear h1 h2
  go_enter Try.func13, Try.ntmps13
  go_wp2
  go_loopw [13] (fun i wr => ∃ k q : Nat, k ≤ l.length ∧ i = .int .i64 k ∧ wr = w.drewN q) (fun i _ => l.length - (intOf i).toNat)
  case atStart => exact ⟨0, 0, by omega, rfl, rfl⟩
  case round =>
    obtain ⟨k, q, hk, rfl, rfl⟩ := hrel
    by_cases hlt : k < l.length
    · obtain ⟨a, x, rfl, hx, z0, z1, z2⟩ := H1.out.flAt hlt
      obtain ⟨a', x', rfl, hx', y0, y1, y2⟩ := H2.out.flAt hlt
      obtain rfl : x = x' := hx.symm.trans hx'
      obtain ⟨x0, x1, x2⟩ := x
      dsimp only at *
      have i1 : (k : Int) < (l.length : Int) := by omega
      clear hx hx'
      go_upto_region 6 with fail
      go_quiet (fail)
      go_wp2
      refine ⟨⟨k + 1, _, hlt, by go_num, rfl⟩, ?_⟩
      simp [intOf]; omega
    · obtain rfl : k = l.length := by omega
      go_wp2
      go_ret
      exact ⟨rfl, _, rfl⟩
def vT0 : Tk := ⟨1, 5, 100, 0, 50, 9, 1, -1, 0, 0⟩
def vT1 : Tk := ⟨1, 5, 100, 0, 101, 9, 1, -1, 0, 0⟩
def vL0 : Ln := ⟨3, 4, 2, 50⟩
def vH0 : Th := ⟨7, 5, 40, 4⟩
def vH1 : Th := ⟨5, 5, 40, 4⟩
/-- What lives' memory holds. -/
structure LvI (w : World) (bc : Nat) (T : Tk) (H : Th) (wx : World) : Prop where
  t : wx.heap[w.heap.size + 1]? = some (.cells (tkc T).toArray 44 (0, 0))
  l : wx.heap[w.heap.size + 2]? = some (.cells (lnc vL0).toArray 76 (0, 0))
  h : wx.heap[w.heap.size + 3]? = some (.cells (thc H).toArray 46 (0, 0))
  c : wx.heap[bc]? = some (.cells #[.int .i64 4, .int .i64 100, .int .i64 2, .slice (some ⟨w.heap.size + 1, 0, none⟩) 1 1, .slice (some ⟨w.heap.size + 2, 0, none⟩) 1 1, .slice (some ⟨w.heap.size + 3, 0, none⟩) 1 1] 28 (0, 0))
  low : Below w.heap.size w wx
  b : w.heap.size + 3 < bc
theorem LvI.below {w : World} {bc : Nat} {T : Tk} {H : Th} {wx w3 : World} (h : LvI w bc T H wx) (hb : Below wx.heap.size wx w3) : LvI w bc T H w3 :=
  ⟨box_keep h.t hb, box_keep h.l hb, box_keep h.h hb, box_keep h.c hb, h.low.trans (hb.mono h.low.size), h.b⟩
theorem LvI.setT {w : World} {bc : Nat} {H : Th} {wx : World} (h : LvI w bc vT0 H wx) : LvI w bc vT1 H (wx.setCell ⟨w.heap.size + 1, 4, none⟩ (.int .i64 101)) := by
  have hb := h.b
  exact ⟨box_set (i := 4) h.t _, box_far h.l (p := ⟨w.heap.size + 1, 4, none⟩) (by show _ ≠ w.heap.size + 1; omega) _, box_far h.h (p := ⟨w.heap.size + 1, 4, none⟩) (by show _ ≠ w.heap.size + 1; omega) _,
    box_far h.c (p := ⟨w.heap.size + 1, 4, none⟩) (by show _ ≠ w.heap.size + 1; omega) _, h.low.setCell (p := ⟨w.heap.size + 1, 4, none⟩) (by show _ ≤ w.heap.size + 1; omega) _, hb⟩
theorem LvI.setH {w : World} {bc : Nat} {T : Tk} {wx : World} (h : LvI w bc T vH0 wx) : LvI w bc T vH1 (wx.setCell ⟨w.heap.size + 3, 0, none⟩ (.int .i64 5)) := by
  have hb := h.b
  exact ⟨box_far h.t (p := ⟨w.heap.size + 3, 0, none⟩) (by show _ ≠ w.heap.size + 3; omega) _, box_far h.l (p := ⟨w.heap.size + 3, 0, none⟩) (by show _ ≠ w.heap.size + 3; omega) _, box_set (i := 0) h.h _,
    box_far h.c (p := ⟨w.heap.size + 3, 0, none⟩) (by show _ ≠ w.heap.size + 3; omega) _, h.low.setCell (p := ⟨w.heap.size + 3, 0, none⟩) (by show _ ≤ w.heap.size + 3; omega) _, hb⟩
theorem small27 (w : World) : Calls Try.prog 10 #[] w fun e w' => e = .returned (cfv 4 100 2 (some ⟨w.heap.size + 1, 0, none⟩) 1 1 (some ⟨w.heap.size + 2, 0, none⟩) 1 1 (some ⟨w.heap.size + 3, 0, none⟩) 1 1) ∧
    (w'.heap[w.heap.size + 1]? = some (.cells (tkc vT0).toArray 44 (0, 0)) ∧ w'.heap[w.heap.size + 2]? = some (.cells (lnc vL0).toArray 76 (0, 0)) ∧ w'.heap[w.heap.size + 3]? = some (.cells (thc vH0).toArray 46 (0, 0))) ∧ Below w.heap.size w w' := by
  go_enter Try.func10, Try.ntmps10
  go_wp2
  refine bodyPost_ret (v := cfv 4 100 2 (some ⟨w.heap.size + 1, 0, none⟩) 1 1 (some ⟨w.heap.size + 2, 0, none⟩) 1 1 (some ⟨w.heap.size + 3, 0, none⟩) 1 1) (by simp [results, cfv, Try.f10, go_sem]) rfl ⟨rfl, ⟨?_, ?_, ?_⟩, ?_⟩
  · show _ = some (Obj.cells #[.int .u8 1, .int .i64 5, .int .i64 100, .int .i64 0, .int .i64 50, .int .i64 9, .int .i64 1, .int .i64 (-1), .int .i64 0, .int .i64 0] 44 (0, 0))
    repeat (first | ((with_reducible refine heap_new_at _ ?_); focus (first | (with_reducible rfl) | (simp; done))) | (with_reducible refine box_alloc ?_ _) | ((with_reducible refine box_far ?_ ?_ _); rotate_left 1; focus (first | (simp; done) | (simp; omega) | omega)))
  · show _ = some (Obj.cells #[.int .i64 3, .int .i64 4, .int .i64 2, .int .i64 50] 76 (0, 0))
    repeat (first | ((with_reducible refine heap_new_at _ ?_); focus (first | (with_reducible rfl) | (simp; done))) | (with_reducible refine box_alloc ?_ _) | ((with_reducible refine box_far ?_ ?_ _); rotate_left 1; focus (first | (simp; done) | (simp; omega) | omega)))
  · show _ = some (Obj.cells #[.int .i64 7, .int .i64 5, .int .i64 40, .int .i64 4] 46 (0, 0))
    repeat (first | ((with_reducible refine heap_new_at _ ?_); focus (first | (with_reducible rfl) | (simp; done))) | (with_reducible refine box_alloc ?_ _) | ((with_reducible refine box_far ?_ ?_ _); rotate_left 1; focus (first | (simp; done) | (simp; omega) | omega)))
  · repeat (first | (with_reducible exact Below.refl _ _) | ((with_reducible refine Below.setCell ?_ ?_ _); rotate_left 1; focus (first | (with_reducible exact Nat.le_refl _) | (simp; done))) | ((with_reducible refine Below.alloc ?_ ?_ _); rotate_left 1; focus (first | (simp; done) | (simp; omega) | omega)))
theorem v_64 {T : Tk} {H : Th} (hT : T.prio = 5) (hH : H.prio = 7 ∨ H.prio = 5) : ∀ p ∈ [T].map (·.prio) ++ [H].map (·.prio), I64 p := by
  intro p hp
  simp at hp
  unfold I64
  rcases hp with rfl | rfl
  · omega
  · omega
theorem i64_100' : I64 100 := ⟨by decide, by decide⟩
section
variable {w : World} {bc : Nat} {T : Tk} {H : Th} {wx : World}
theorem LvI.rt (h : LvI w bc T H wx) : Rd wx (some ⟨w.heap.size + 1, 0, none⟩) ([T].flatMap tkc) := by have := rd_box h.t; simpa using this
theorem LvI.rl (h : LvI w bc T H wx) : Rd wx (some ⟨w.heap.size + 2, 0, none⟩) ([vL0].flatMap lnc) := by have := rd_box h.l; simpa using this
theorem LvI.rh (h : LvI w bc T H wx) : Rd wx (some ⟨w.heap.size + 3, 0, none⟩) ([H].flatMap thc) := by have := rd_box h.h; simpa using this
theorem first_v0 (h : LvI w bc vT0 vH0 wx) : Calls Try.prog 11 #[cfv 4 100 2 (some ⟨w.heap.size + 1, 0, none⟩) 1 1 (some ⟨w.heap.size + 2, 0, none⟩) 1 1 (some ⟨w.heap.size + 3, 0, none⟩) 1 1] wx fun e w' =>
    e = .returned (.tuple #[.agg #[.int .u8 0, .int .i64 0, .int .i64 0], .bool false]) ∧ Below wx.heap.size wx w' := by
  have k := first_any 4 100 2 [vT0] [vL0] [vH0] _ 1 _ 1 _ 1 wx (by decide) (by decide) (by decide) h.rt h.rl h.rh i64_100' (v_64 rfl (.inl rfl))
  rw [show firstOf (Cf.looks ⟨4, 100, 2, [vT0], [vL0], [vH0]⟩) = (⟨0, 0, 0⟩, false) by kernel_rfl] at k
  exact k
theorem first_v1 (h : LvI w bc vT1 vH0 wx) : Calls Try.prog 11 #[cfv 4 100 2 (some ⟨w.heap.size + 1, 0, none⟩) 1 1 (some ⟨w.heap.size + 2, 0, none⟩) 1 1 (some ⟨w.heap.size + 3, 0, none⟩) 1 1] wx fun e w' =>
    e = .returned (.tuple #[.agg #[.int .u8 4, .int .i64 0, .int .i64 11], .bool true]) ∧ Below wx.heap.size wx w' := by
  have k := first_any 4 100 2 [vT1] [vL0] [vH0] _ 1 _ 1 _ 1 wx (by decide) (by decide) (by decide) h.rt h.rl h.rh i64_100' (v_64 rfl (.inl rfl))
  rw [show firstOf (Cf.looks ⟨4, 100, 2, [vT1], [vL0], [vH0]⟩) = (⟨4, 0, 11⟩, true) by kernel_rfl] at k
  exact k
theorem check_v0 (h : LvI w bc vT0 vH0 wx) : Calls Try.prog 5 #[cfv 4 100 2 (some ⟨w.heap.size + 1, 0, none⟩) 1 1 (some ⟨w.heap.size + 2, 0, none⟩) 1 1 (some ⟨w.heap.size + 3, 0, none⟩) 1 1] wx fun e w' =>
    e = .returned (.int .i64 0) ∧ Below wx.heap.size wx w' := by
  have k := check_cfg 4 100 2 [vT0] [vL0] [vH0] _ 1 _ 1 _ 1 wx (by decide) (by decide) (by decide) h.rt h.rl h.rh i64_100' (v_64 rfl (.inl rfl))
  rw [show Cf.why ⟨4, 100, 2, [vT0], [vL0], [vH0]⟩ = 0 by kernel_rfl] at k
  exact k
theorem check_v1 (h : LvI w bc vT1 vH1 wx) : Calls Try.prog 5 #[cfv 4 100 2 (some ⟨w.heap.size + 1, 0, none⟩) 1 1 (some ⟨w.heap.size + 2, 0, none⟩) 1 1 (some ⟨w.heap.size + 3, 0, none⟩) 1 1] wx fun e w' =>
    e = .returned (.int .i64 11) ∧ Below wx.heap.size wx w' := by
  have k := check_cfg 4 100 2 [vT1] [vL0] [vH1] _ 1 _ 1 _ 1 wx (by decide) (by decide) (by decide) h.rt h.rl h.rh i64_100' (v_64 rfl (.inr rfl))
  rw [show Cf.why ⟨4, 100, 2, [vT1], [vL0], [vH1]⟩ = 11 by kernel_rfl] at k
  exact k
theorem all_v1 (h : LvI w bc vT1 vH1 wx) : Calls Try.prog 12 #[cfv 4 100 2 (some ⟨w.heap.size + 1, 0, none⟩) 1 1 (some ⟨w.heap.size + 2, 0, none⟩) 1 1 (some ⟨w.heap.size + 3, 0, none⟩) 1 1] wx fun e w' =>
    ∃ P cp, e = .returned (.slice P 2 cp) ∧ Rd w' P ([(⟨4, 0, 11⟩ : Fl), ⟨7, 1, 12⟩].flatMap flc) ∧ Below wx.heap.size wx w' := by
  have k := vall_any 4 100 2 [vT1] [vL0] [vH1] _ 1 _ 1 _ 1 wx (by decide) (by decide) (by decide) h.rt h.rl h.rh i64_100' (v_64 rfl (.inr rfl))
  rw [show fltA (Cf.looks ⟨4, 100, 2, [vT1], [vL0], [vH1]⟩) = [⟨4, 0, 11⟩, ⟨7, 1, 12⟩] by kernel_rfl] at k
  exact k
theorem all_v0 (w : World) : Calls Try.prog 12 #[cfv 0 0 0 none 0 0 none 0 0 none 0 0] w fun e w' => ∃ P cp, e = .returned (.slice P 2 cp) ∧ Below w.heap.size w w' := by
  have k := vall_any 0 0 0 [] [] [] none 0 none 0 none 0 w (by decide) (by decide) (by decide) (Rd.nil _ _) (Rd.nil _ _) (Rd.nil _ _) ⟨by decide, by decide⟩ (by simp)
  refine k.mono ?_
  rintro e w' ⟨P, cp, rfl, -, hb⟩
  exact ⟨P, cp, by rw [show (fltA (Cf.looks ⟨0, 0, 0, [], [], []⟩)).length = 2 by kernel_rfl], hb⟩
end
theorem S_drewN' {W w : World} (h : Hid (Below W.heap.size W w)) (n : Nat) : Hid (Below W.heap.size W (w.drewN n)) := bdrewN h.out n
set_option maxHeartbeats 4000000 in
set_option maxRecDepth 100000 in
theorem lives27 (w : World) : Calls Try.prog 4 #[] w fun e w' => e = .returned (.bool true) ∧ Below w.heap.size w w' := by
  have f0 := Lib.hid (fun w => small27 w)
  have c1 := Lib.hid (fun bc wx (h : LvI w bc vT0 vH0 wx) => first_v0 h)
  have c2 := Lib.hid (fun bc wx (h : LvI w bc vT0 vH0 wx) => check_v0 h)
  have c3 := Lib.hid (fun bc wx (h : LvI w bc vT1 vH0 wx) => first_v1 h)
  have c4 := Lib.hid (fun bc wx (h : LvI w bc vT1 vH1 wx) => all_v1 h)
  have c5 := Lib.hid (fun bc wx (h : LvI w bc vT1 vH1 wx) => check_v1 h)
  have c6 := Lib.hid (fun w => all_v0 w)
  have c7 : Hid (∀ A c B c' w, Rd w A ([(⟨4, 0, 11⟩ : Fl), ⟨7, 1, 12⟩].flatMap flc) → Rd w B ([(⟨4, 0, 11⟩ : Fl), ⟨7, 1, 12⟩].flatMap flc) → Calls Try.prog 13 #[.slice A 2 c, .slice B 2 c'] w fun e w' => e = .returned (.bool true) ∧ ∃ k, w.drewN k = w') :=
    Lib.hid (fun A c B c' w h1 h2 => same27_one A c B c' [⟨4, 0, 11⟩, ⟨7, 1, 12⟩] w (by decide) h1 h2)
  unfold cfv at *
  go_enter Try.func4, Try.ntmps4
  go_wp2_with fail
  refine (f0.out _).mono ?_
  rintro e w0 ⟨rfl, ⟨g1, g2, g3⟩, hb0⟩
  go_upto_region 2 with fail
  refine name_world fun V0 hV => ?_
  have HI0 : Hid (LvI w w0.heap.size vT0 vH0 V0) := Lib.hid (by
    rw [hV]
    exact ⟨box_alloc g1 _, box_alloc g2 _, box_alloc g3 _, heap_alloc_new _ _, hb0.alloc hb0.size _, box_lt g3⟩)
  clear hV g1 g2 g3 hb0 f0
  generalize w0.heap.size = bc at *
  obtain ⟨cx, cy⟩ := box_rules HI0.out.c
  go_wp2_with fail
  refine (c1.out bc _ HI0.out).mono ?_
  rintro e w1 ⟨rfl, hb⟩
  go_upto_region 3 with fail
  refine name_world fun V1 hV => ?_
  have HI1 : Hid (LvI w bc vT0 vH0 V1) := Lib.hid (HI0.out.below (by rw [hV]; exact hb.alloc hb.size _))
  clear hV hb cx cy HI0 c1
  obtain ⟨cx, cy⟩ := box_rules HI1.out.c
  go_wp2_with fail
  refine (c2.out bc _ HI1.out).mono ?_
  rintro e w2 ⟨rfl, hb⟩
  have HI2 := Lib.hid (HI1.out.below hb)
  clear hb cx cy HI1 c2
  obtain ⟨cx, cy⟩ := box_rules HI2.out.c
  obtain ⟨tx, ty⟩ := box_rules HI2.out.t
  have t4 : w2.cell? ⟨w.heap.size + 1, 4, none⟩ = some (.int .i64 50) := by rw [tx]; rfl
  clear tx
  go_upto_region 5 with fail
  refine name_world fun V3 hV => ?_
  have HI3 : Hid (LvI w bc vT1 vH0 V3) := Lib.hid (by rw [hV]; exact HI2.out.setT)
  clear hV cx cy HI2 t4 ty
  obtain ⟨cx, cy⟩ := box_rules HI3.out.c
  go_wp2_with fail
  refine (c3.out bc _ HI3.out).mono ?_
  rintro e w3 ⟨rfl, hb⟩
  go_upto_region 6 with fail
  refine name_world fun V4 hV => ?_
  have hbv : Below V3.heap.size V3 V4 := by rw [hV]; exact hb.alloc hb.size _
  have HI4 : Hid (LvI w bc vT1 vH0 V4) := Lib.hid (HI3.out.below hbv)
  have HF4 : Hid (V4.heap[w3.heap.size]? = some (.cells #[.int .u8 4, .int .i64 0, .int .i64 11] 51 (0, 0))) := Lib.hid (by rw [hV]; exact heap_alloc_new _ _)
  clear hV hb hbv cx cy HI3 c3
  generalize w3.heap.size = bf at *
  obtain ⟨cx, cy⟩ := box_rules HI4.out.c
  obtain ⟨tx, ty⟩ := box_rules HI4.out.h
  have t4 : V4.cell? ⟨w.heap.size + 3, 0, none⟩ = some (.int .i64 7) := by rw [tx]; rfl
  clear tx
  have hbf : bf ≠ w.heap.size + 3 := fun e => by have h1 := HF4.out; rw [e, HI4.out.h] at h1; cases h1
  have HBf := Lib.hid hbf
  clear hbf
  go_upto_region 7 with fail
  refine name_world fun V5 hV => ?_
  have HI5 : Hid (LvI w bc vT1 vH1 V5) := Lib.hid (by rw [hV]; exact HI4.out.setH)
  have HF5 : Hid (V5.heap[bf]? = some (.cells #[.int .u8 4, .int .i64 0, .int .i64 11] 51 (0, 0))) := Lib.hid (by rw [hV]; exact box_far HF4.out (p := ⟨w.heap.size + 3, 0, none⟩) HBf.out _)
  clear hV cx cy HI4 HF4 t4 ty HBf
  obtain ⟨cx, cy⟩ := box_rules HI5.out.c
  go_wp2_with fail
  refine (c4.out bc _ HI5.out).mono ?_
  rintro e w6 ⟨P, cp, rfl, hrd, hb⟩
  have HI6 := Lib.hid (HI5.out.below hb)
  have HF6 := Lib.hid (box_keep HF5.out hb)
  have HRd := Lib.hid hrd
  clear hb hrd cx cy HI5 HF5 c4
  go_upto_region 9 with fail
  refine name_world fun V hV => ?_
  have hbv : Below w6.heap.size w6 V := by rw [hV]; exact (Below.refl _ _).alloc (Nat.le_refl _) _
  have HW : Hid (V.heap[w6.heap.size]? = some (.cells #[.int .u8 4, .int .i64 0, .int .i64 11, .int .u8 7, .int .i64 1, .int .i64 12] 51 (0, 0))) := Lib.hid (by rw [hV]; exact heap_alloc_new _ _)
  have HI := Lib.hid (HI6.out.below hbv)
  have HF := Lib.hid (box_keep HF6.out hbv)
  have HR := Lib.hid (HRd.out.below hbv)
  have hRW : Rd V (some ⟨w6.heap.size, 0, none⟩) ([(⟨4, 0, 11⟩ : Fl), ⟨7, 1, 12⟩].flatMap flc) := rd_box HW.out
  have HRW := Lib.hid hRW
  have hR1 := fun w' (h : Hid (Below V.heap.size V w')) => (box_rules (box_keep HW.out h.out)).1
  have hR2 := fun w' (h : Hid (Below V.heap.size V w')) => (box_rules (box_keep HF.out h.out)).1
  have hR3 := fun w' (h : Hid (Below V.heap.size V w')) => (box_rules (box_keep HI.out.c h.out)).1
  have mI := Lib.hid (fun w' (h : Hid (Below V.heap.size V w')) => HI.out.below h.out)
  have mP := Lib.hid (fun w' (h : Hid (Below V.heap.size V w')) => HR.out.below h.out)
  have mW := Lib.hid (fun w' (h : Hid (Below V.heap.size V w')) => HRW.out.below h.out)
  have HLow := Lib.hid HI.out.low
  have hS0 := S_refl' V
  clear hV hbv HI6 HF6 HRd hRW HF HR HRW
  generalize w6.heap.size = bw at *
  go_region_held3 (fun w' => Hid (Below V.heap.size V w')) ((first | assumption | exact S_alloc' (by assumption) _ | exact S_drew' (by assumption) | exact S_drew' (S_alloc' (by assumption) _) | exact S_drewN' (by assumption) _ | exact S_drewN' (S_alloc' (by assumption) _) _)) ((first
    | (go_at_call 13; refine (c7.out _ _ _ _ _ (mP.out _ (by assumption)) (mW.out _ (by assumption))).mono ?_; rintro e w' ⟨rfl, k, rfl⟩)
    | (go_at_call 5; refine (c5.out bc _ (mI.out _ (by assumption))).mono ?_; rintro e w' ⟨rfl, hb⟩; have hk := S_call' (W := V) (by assumption) hb; clear hb)
    | (go_at_call 12; refine (c6.out _).mono ?_; rintro e w' ⟨P9, cp9, rfl, hb⟩; have hk := S_call' (W := V) (by assumption) hb; clear hb)))
  go_wp2
  go_ret
  refine ⟨rfl, HLow.out.trans (Below.mono ?_ HLow.out.size)⟩
  exact Hid.out (by assumption)
end Go.Proofs.Ytgampofpabllbaa

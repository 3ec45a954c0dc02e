/- vergelaw33: the walk of lives: the answers that the document gives are given. No premise of its own. -/
import Derived.Test.YtpdanmdpaanafaaConG
import Derived.Test.YtpdanmdpaanafaaConS
import Derived.Test.YtpdanmdpaanafaaConV
namespace Go.Proofs.Ytpdanmdpaanafaa
open Go.RowKit Go.Shelf

def tkS : Tk := ⟨2, 3, 60, 0, 60, 20, 1, -1, 0, 0⟩
def lnS : Ln := ⟨3, 4, 1, 30⟩
def thS : Th := ⟨4, 3, 40, 1⟩
def cS : Cf := ⟨4, 100, 0, [tkS], [lnS], [thS]⟩
def cSv (b : Nat) : Value := .agg #[.int .i64 4, .int .i64 100, .int .i64 0, .slice (some ⟨b + 1, 0, none⟩) 1 1, .slice (some ⟨b + 1 + 1, 0, none⟩) 1 1, .slice (some ⟨b + 1 + 1 + 1, 0, none⟩) 1 1]
/-- The configuration's memory. -/
structure CS (b : Nat) (w : World) : Prop where
  t : w.heap[b + 1]? = some (.cells (tkc tkS).toArray 44 (0, 0))
  l : w.heap[b + 1 + 1]? = some (.cells (lnc lnS).toArray 68 (0, 0))
  h : w.heap[b + 1 + 1 + 1]? = some (.cells (thc thS).toArray 46 (0, 0))
theorem CS.below {b : Nat} {w w' : World} (h : CS b w) (hb : Below w.heap.size w w') : CS b w' := ⟨box_keep h.t hb, box_keep h.l hb, box_keep h.h hb⟩
theorem CS.alloc {b : Nat} {w : World} (h : CS b w) (o : Obj) : CS b (w.alloc o) := h.below ((Below.refl _ _).alloc (Nat.le_refl _) _)
theorem CS.rt {b : Nat} {w : World} (h : CS b w) : Rd w (some ⟨b + 1, 0, none⟩) ([tkS].flatMap tkc) := rd_box h.t
theorem CS.rl {b : Nat} {w : World} (h : CS b w) : Rd w (some ⟨b + 1 + 1, 0, none⟩) ([lnS].flatMap lnc) := rd_box h.l
theorem CS.rh {b : Nat} {w : World} (h : CS b w) : Rd w (some ⟨b + 1 + 1 + 1, 0, none⟩) ([thS].flatMap thc) := rd_box h.h
theorem small33 (w : World) : Calls Try.prog 43 #[] w fun e w' => e = .returned (cSv w.heap.size) ∧ CS w.heap.size w' ∧ Below w.heap.size w w' := by
  go_enter Try.func43, Try.ntmps43
  go_wp2
  refine bodyPost_ret (v := cSv w.heap.size) (by simp [results, cSv, Try.f43, go_sem]) rfl ⟨rfl, ⟨?_, ?_, ?_⟩, ?_⟩
  · show _ = some (Obj.cells #[.int .u8 2, .int .i64 3, .int .i64 60, .int .i64 0, .int .i64 60, .int .i64 20, .int .i64 1, .int .i64 (-1), .int .i64 0, .int .i64 0] 44 (0, 0))
    repeat (first | ((with_reducible refine heap_new_at _ ?_); focus (first | (with_reducible rfl) | (simp; done))) | (with_reducible refine box_alloc ?_ _) | ((with_reducible refine box_far ?_ ?_ _); rotate_left 1; focus (first | (simp; done) | (simp; omega) | omega)))
  · show _ = some (Obj.cells #[.int .i64 3, .int .i64 4, .int .i64 1, .int .i64 30] 68 (0, 0))
    repeat (first | ((with_reducible refine heap_new_at _ ?_); focus (first | (with_reducible rfl) | (simp; done))) | (with_reducible refine box_alloc ?_ _) | ((with_reducible refine box_far ?_ ?_ _); rotate_left 1; focus (first | (simp; done) | (simp; omega) | omega)))
  · show _ = some (Obj.cells #[.int .i64 4, .int .i64 3, .int .i64 40, .int .i64 1] 46 (0, 0))
    repeat (first | ((with_reducible refine heap_new_at _ ?_); focus (first | (with_reducible rfl) | (simp; done))) | (with_reducible refine box_alloc ?_ _) | ((with_reducible refine box_far ?_ ?_ _); rotate_left 1; focus (first | (simp; done) | (simp; omega) | omega)))
  · repeat (first | (with_reducible exact Below.refl _ _) | ((with_reducible refine Below.setCell ?_ ?_ _); rotate_left 1; focus (first | (with_reducible exact Nat.le_refl _) | (simp; done))) | ((with_reducible refine Below.alloc ?_ ?_ _); rotate_left 1; focus (first | (simp; done) | (simp; omega) | omega)))
theorem vS64 : ∀ p ∈ cS.ts.map (·.prio) ++ cS.hs.map (·.prio), I64 p := by
  intro p hp
  simp [cS, tkS, thS] at hp
  unfold I64
  omega
theorem vSw : cS.why = 0 := by kernel_rfl
theorem vS1 : countOk (actOk cS.ts cS.ls) [⟨3, 0, 20, 0⟩, ⟨2, 0, 5, 0⟩] = 1 := by kernel_rfl
theorem vS2 : marksN cS.ts [⟨0, 1, 0, 0⟩, ⟨59, 1, 0, 0⟩] = 1 := by kernel_rfl
theorem vS3 : marksN cS.ts [⟨0, 1, 0, 0⟩, ⟨60, 1, 0, 0⟩] = 2 := by kernel_rfl
theorem vS4 : denseY 0 cS.ts 0 1 = 0 ∧ densAll 0 cS.ts 0 1 = [⟨3, 0, 20, 0⟩, ⟨1, 0, 60, 0⟩] := ⟨by kernel_rfl, by kernel_rfl⟩
theorem vS5 : lineN 0 lnS.many lnS.window [⟨0, 4, 0, 0⟩, ⟨29, 4, 0, 0⟩] = 1 := by kernel_rfl
theorem vS6 : lineY 0 0 1 = 0 ∧ lineY 0 1 1 = 1 := ⟨by kernel_rfl, by kernel_rfl⟩
theorem vS7 : Cf.why ⟨0, 0, 0, [], [], []⟩ = 2 := by kernel_rfl
def Ret2 (n y : Int) (w : World) (e : Ending) (w' : World) : Prop := e = .returned (.tuple #[.int .i64 n, .int .i64 y]) ∧ Below w.heap.size w w'
theorem two64 {a b : Mk} (h : (I64 a.time ∧ I64 a.who) ∧ I64 b.time ∧ I64 b.who) : ∀ k, k < [a, b].length → I64 ([a, b].getD k mk0).time ∧ I64 ([a, b].getD k mk0).who := by
  intro k hk
  match k, hk with
  | 0, _ => exact h.1
  | 1, _ => exact h.2
theorem acts_S {b q : Nat} {w : World} (h : CS b w) (hq : w.heap[q]? = some (.cells #[.int .u8 3, .int .i64 0, .int .i64 20, .int .i64 0, .int .u8 2, .int .i64 0, .int .i64 5, .int .i64 0] 118 (0, 0))) :
    Calls Try.prog 16 #[cSv b, .slice (some ⟨q, 0, none⟩) 2 2] w (Ret2 1 0 w) := by
  have k := acts_cfg 4 100 0 cS.ts cS.ls cS.hs (some ⟨b + 1, 0, none⟩) 1 (some ⟨b + 1 + 1, 0, none⟩) 1 (some ⟨b + 1 + 1 + 1, 0, none⟩) 1 [⟨3, 0, 20, 0⟩, ⟨2, 0, 5, 0⟩] (some ⟨q, 0, none⟩) 2 w (by decide) (by decide) (by decide) (by decide) h.rt h.rl h.rh (by unfold I64; omega) vS64 (rd_box hq)
  rw [show (⟨4, 100, 0, cS.ts, cS.ls, cS.hs⟩ : Cf) = cS from rfl, vSw, vS1] at k
  exact k
theorem acts_0 {w : World} : Calls Try.prog 16 #[.agg #[.int .i64 0, .int .i64 0, .int .i64 0, .slice none 0 0, .slice none 0 0, .slice none 0 0], .slice none 0 0] w (Ret2 0 2 w) := by
  have k := acts_cfg 0 0 0 [] [] [] none 0 none 0 none 0 [] none 0 w (by decide) (by decide) (by decide) (by decide) (Rd.nil _ _) (Rd.nil _ _) (Rd.nil _ _) (by unfold I64; omega) (by intro p hp; cases hp) (Rd.nil _ _)
  rw [vS7] at k
  exact k
theorem marks_S {b q : Nat} {w : World} (t : Int) (n : Nat) (ht : I64 t) (hn : marksN cS.ts [⟨0, 1, 0, 0⟩, ⟨t, 1, 0, 0⟩] = n) (h : CS b w) (hq : w.heap[q]? = some (.cells #[.int .i64 0, .int .u8 1, .int .i64 0, .int .i64 0, .int .i64 t, .int .u8 1, .int .i64 0, .int .i64 0] 121 (0, 0))) :
    Calls Try.prog 18 #[cSv b, .slice (some ⟨q, 0, none⟩) 2 2] w (Ret2 n 0 w) := by
  have k := marks_cfg 4 100 0 cS.ts cS.ls cS.hs (some ⟨b + 1, 0, none⟩) 1 (some ⟨b + 1 + 1, 0, none⟩) 1 (some ⟨b + 1 + 1 + 1, 0, none⟩) 1 [⟨0, 1, 0, 0⟩, ⟨t, 1, 0, 0⟩] (some ⟨q, 0, none⟩) 2 w (by decide) (by decide) (by decide) (by simp) h.rt h.rl h.rh (by unfold I64; omega) vS64 (rd_box hq) (two64 ⟨by unfold I64; simp, ht, by unfold I64; simp⟩)
  rw [show (⟨4, 100, 0, cS.ts, cS.ls, cS.hs⟩ : Cf) = cS from rfl, vSw, hn] at k
  exact k
theorem line_S {b q : Nat} {w : World} (h : CS b w) (hq : w.heap[q]? = some (.cells #[.int .i64 0, .int .u8 4, .int .i64 0, .int .i64 0, .int .i64 29, .int .u8 4, .int .i64 0, .int .i64 0] 121 (0, 0))) :
    Calls Try.prog 20 #[cSv b, .int .i64 0, .slice (some ⟨q, 0, none⟩) 2 2] w (Ret2 1 0 w) := by
  have k := line_cfg 4 100 0 cS.ts cS.ls cS.hs (some ⟨b + 1, 0, none⟩) 1 (some ⟨b + 1 + 1, 0, none⟩) 1 (some ⟨b + 1 + 1 + 1, 0, none⟩) 1 0 [⟨0, 4, 0, 0⟩, ⟨29, 4, 0, 0⟩] (some ⟨q, 0, none⟩) 2 w (by decide) (by decide) (by decide) (by decide) h.rt h.rl h.rh (by unfold I64; omega) vS64 (rd_box hq) (fun k hk => (two64 (a := ⟨0, 4, 0, 0⟩) (b := ⟨29, 4, 0, 0⟩) ⟨by unfold I64; simp, by unfold I64; simp⟩ k hk).1)
  rw [show (⟨4, 100, 0, cS.ts, cS.ls, cS.hs⟩ : Cf) = cS from rfl, vSw, show lineY 0 0 cS.ls.length = 0 from vS6.1, show (cS.ls.getD (0 : Int).toNat ln0) = lnS from rfl, vS5] at k
  exact k
theorem line_S1 {b : Nat} {w : World} (h : CS b w) :
    Calls Try.prog 20 #[cSv b, .int .i64 1, .slice none 0 0] w (Ret2 0 1 w) := by
  have k := line_cfg 4 100 0 cS.ts cS.ls cS.hs (some ⟨b + 1, 0, none⟩) 1 (some ⟨b + 1 + 1, 0, none⟩) 1 (some ⟨b + 1 + 1 + 1, 0, none⟩) 1 1 [] none 0 w (by decide) (by decide) (by decide) (by decide) h.rt h.rl h.rh (by unfold I64; omega) vS64 (Rd.nil _ _) (fun k hk => by cases hk)
  rw [show (⟨4, 100, 0, cS.ts, cS.ls, cS.hs⟩ : Cf) = cS from rfl, vSw, show lineY 0 1 cS.ls.length = 1 from vS6.2] at k
  exact k
def RetDn (l : List Ac) (w : World) (e : Ending) (w' : World) : Prop := ∃ A c, e = .returned (.tuple #[.slice A 2 c, .int .i64 0]) ∧ Rd w' A (l.flatMap acc) ∧ Below w.heap.size w w'
set_option maxRecDepth 100000 in
theorem dense_S {b : Nat} {w : World} (h : CS b w) :
    Calls Try.prog 22 #[cSv b, .int .i64 0, .int .i64 1] w (RetDn [⟨3, 0, 20, 0⟩, ⟨1, 0, 60, 0⟩] w) := by
  have k := dense_cfg 4 100 0 cS.ts cS.ls cS.hs (some ⟨b + 1, 0, none⟩) 1 (some ⟨b + 1 + 1, 0, none⟩) 1 (some ⟨b + 1 + 1 + 1, 0, none⟩) 1 0 1 w (by decide) (by decide) (by decide) h.rt h.rl h.rh (by unfold I64; omega) vS64
  rw [show (⟨4, 100, 0, cS.ts, cS.ls, cS.hs⟩ : Cf) = cS from rfl, vSw, vS4.1, vS4.2] at k
  exact k
theorem same_S (A B : Option Addr) (c d : Nat) (w : World) (ha : Rd w A ([⟨3, 0, 20, 0⟩, ⟨1, 0, 60, 0⟩].flatMap acc)) (hb : Rd w B ([⟨3, 0, 20, 0⟩, ⟨1, 0, 60, 0⟩].flatMap acc)) :
    Calls Try.prog 24 #[.slice A 2 c, .slice B 2 d] w fun e w' => e = .returned (.bool true) ∧ Below w.heap.size w w' := same31_one [⟨3, 0, 20, 0⟩, ⟨1, 0, 60, 0⟩] (by decide) A c B d w ha hb
set_option maxHeartbeats 4000000 in
set_option maxRecDepth 100000 in
theorem lives33 (w : World) : Calls Try.prog 15 #[] w fun e w' => e = .returned (.bool true) ∧ Below w.heap.size w w' := by
  have f0 := Lib.hid (fun w => small33 w)
  have c1 := Lib.hid (fun b q w h hq => acts_S (b := b) (q := q) (w := w) h hq)
  have c2 := Lib.hid (fun b q w h hq => marks_S (b := b) (q := q) (w := w) 59 1 (by unfold I64; omega) vS2 h hq)
  have c3 := Lib.hid (fun b q w h hq => marks_S (b := b) (q := q) (w := w) 60 2 (by unfold I64; omega) vS3 h hq)
  have c4 := Lib.hid (fun b w h => dense_S (b := b) (w := w) h)
  have c5 := Lib.hid (fun b q w h hq => line_S (b := b) (q := q) (w := w) h hq)
  have c6 := Lib.hid (fun b w h => line_S1 (b := b) (w := w) h)
  have c7 := Lib.hid (fun w => acts_0 (w := w))
  have c8 := Lib.hid same_S
  unfold cSv Ret2 RetDn at *
  go_enter Try.func15, Try.ntmps15
  go_wp2_with fail
  refine (f0.out _).mono ?_
  rintro e w0 ⟨rfl, hCS, hb0⟩
  have H0 := Lib.hid hCS; have B0 := Lib.hid hb0
  clear hCS hb0
  go_upto_region 2 with fail
  refine name_world fun W hW => ?_
  have HC : Hid (W.heap[w0.heap.size]? = some (.cells #[.int .i64 4, .int .i64 100, .int .i64 0, .slice (some ⟨w.heap.size + 1, 0, none⟩) 1 1, .slice (some ⟨w.heap.size + 1 + 1, 0, none⟩) 1 1, .slice (some ⟨w.heap.size + 1 + 1 + 1, 0, none⟩) 1 1] 28 (0, 0))) := Lib.hid (by rw [hW]; exact heap_alloc_new w0 _)
  have HS : Hid (CS w.heap.size W) := Lib.hid (by rw [hW]; exact H0.out.alloc _)
  have HB : Hid (Below w.heap.size w W) := Lib.hid (by rw [hW]; exact B0.out.alloc B0.out.size _)
  have hR := fun w' (h : Hid (Below W.heap.size W w')) => (box_rules (box_keep HC.out h.out)).1
  have mS := Lib.hid (fun w' (h : Hid (Below W.heap.size W w')) => HS.out.below h.out)
  have hS0 := S_refl' W
  clear hW
  have q0 := hR _ hS0
  go_wp2_with fail
  have hS0a := S_alloc' hS0 (.cells #[.int .u8 3, .int .i64 0, .int .i64 20, .int .i64 0, .int .u8 2, .int .i64 0, .int .i64 5, .int .i64 0] 118)
  refine (c1.out _ _ _ (mS.out _ hS0a) (heap_alloc_new _ _)).mono ?_
  rintro e w1 ⟨rfl, hb⟩
  have hS1 := S_call' hS0a hb
  clear hb hS0a q0
  have q1 := hR _ hS1
  go_upto_region 4 with fail
  refine name_world fun W1 hW1 => ?_
  have H4 : Hid (W1.heap[w1.heap.size]? = some (.cells #[.int .i64 0, .int .u8 1, .int .i64 0, .int .i64 0] 121 (0, 0))) := Lib.hid (by rw [hW1]; repeat (first | ((with_reducible refine heap_new_at _ ?_); focus (first | (with_reducible rfl) | (simp; done))) | (with_reducible refine box_alloc ?_ _) | ((with_reducible refine box_far ?_ ?_ _); rotate_left 1; focus (first | (simp; done) | (simp; omega) | omega))))
  have H5 : Hid (W1.heap[w1.heap.size + 1]? = some (.cells #[.int .i64 59, .int .u8 1, .int .i64 0, .int .i64 0] 121 (0, 0))) := Lib.hid (by rw [hW1]; repeat (first | ((with_reducible refine heap_new_at _ ?_); focus (first | (with_reducible rfl) | (simp; done))) | (with_reducible refine box_alloc ?_ _) | ((with_reducible refine box_far ?_ ?_ _); rotate_left 1; focus (first | (simp; done) | (simp; omega) | omega))))
  have H6 : Hid (W1.heap[w1.heap.size + 1 + 1]? = some (.cells #[.int .i64 60, .int .u8 1, .int .i64 0, .int .i64 0] 121 (0, 0))) := Lib.hid (by rw [hW1]; repeat (first | ((with_reducible refine heap_new_at _ ?_); focus (first | (with_reducible rfl) | (simp; done))) | (with_reducible refine box_alloc ?_ _) | ((with_reducible refine box_far ?_ ?_ _); rotate_left 1; focus (first | (simp; done) | (simp; omega) | omega))))
  have HB1 : Hid (Below w1.heap.size w1 W1) := Lib.hid (by rw [hW1]; repeat (first | (with_reducible exact Below.refl _ _) | ((with_reducible refine Below.setCell ?_ ?_ _); rotate_left 1; focus (first | (with_reducible exact Nat.le_refl _) | (simp; done))) | ((with_reducible refine Below.alloc ?_ ?_ _); rotate_left 1; focus (first | (simp; done) | (simp; omega) | omega))))
  clear hW1 q1
  have hS2 := S_call' hS1 HB1.out
  have hM := fun w' (h : Hid (Below W1.heap.size W1 w')) => (box_rules (box_keep H4.out h.out)).1
  have hM2 := fun w' (h : Hid (Below W1.heap.size W1 w')) => (box_rules (box_keep H5.out h.out)).1
  have hM3 := fun w' (h : Hid (Below W1.heap.size W1 w')) => (box_rules (box_keep H6.out h.out)).1
  have k0 := S_refl' W1
  have q2 := hR _ hS2
  have r0 := hM _ k0; have r1 := hM2 _ k0; have r2 := hM3 _ k0
  go_wp2_with fail
  have hS2a := S_alloc' hS2 (.cells #[.int .i64 0, .int .u8 1, .int .i64 0, .int .i64 0, .int .i64 59, .int .u8 1, .int .i64 0, .int .i64 0] 121)
  have k0a := S_alloc' k0 (.cells #[.int .i64 0, .int .u8 1, .int .i64 0, .int .i64 0, .int .i64 59, .int .u8 1, .int .i64 0, .int .i64 0] 121)
  refine (c2.out _ _ _ (mS.out _ hS2a) (heap_alloc_new _ _)).mono ?_
  rintro e w3 ⟨rfl, hb⟩
  have hS3 := S_call' hS2a hb
  have k3 := S_call' k0a hb
  clear hb hS2a k0a q2 r0 r1 r2
  have q3 := hR _ hS3
  have r0 := hM _ k3; have r1 := hM2 _ k3; have r2 := hM3 _ k3
  go_wp2_with fail
  have hS3a := S_alloc' hS3 (.cells #[.int .i64 0, .int .u8 1, .int .i64 0, .int .i64 0, .int .i64 60, .int .u8 1, .int .i64 0, .int .i64 0] 121)
  refine (c3.out _ _ _ (mS.out _ hS3a) (heap_alloc_new _ _)).mono ?_
  rintro e w4 ⟨rfl, hb⟩
  have hS4 := S_call' hS3a hb
  clear hb hS3a q3 r0 r1 r2 k3 hM hM2 hM3
  have q4 := hR _ hS4
  go_wp2_with fail
  refine (c4.out _ _ (mS.out _ hS4)).mono ?_
  rintro e w5 ⟨AD, cD, rfl, hrd, hb⟩
  have hS5 := S_call' hS4 hb
  have HRD := Lib.hid hrd
  clear hb hS4 q4 hrd
  have q5 := hR _ hS5
  go_wp2_with fail
  have hS5a := S_alloc' hS5 (.cells #[.int .i64 0, .int .u8 4, .int .i64 0, .int .i64 0, .int .i64 29, .int .u8 4, .int .i64 0, .int .i64 0] 121)
  refine (c5.out _ _ _ (mS.out _ hS5a) (heap_alloc_new _ _)).mono ?_
  rintro e w6 ⟨rfl, hb⟩
  have hS6 := S_call' hS5a hb
  have HRD6 := Lib.hid ((HRD.out.alloc _).below hb)
  clear hb hS5a q5
  have q6 := hR _ hS6
  go_wp2_with fail
  refine (c6.out _ _ (mS.out _ hS6)).mono ?_
  rintro e w7 ⟨rfl, hb⟩
  have hS7 := S_call' hS6 hb
  have HRD7 := Lib.hid (HRD6.out.below hb)
  clear hb q6
  go_wp2_with fail
  refine (c7.out _).mono ?_
  rintro e w8 ⟨rfl, hb⟩
  have hS8 := S_call' hS7 hb
  have HRD8 := Lib.hid (HRD7.out.below hb)
  clear hb hS7
  go_wp2_with fail
  have hS9 := S_alloc' hS8 (.cells #[.int .u8 3, .int .i64 0, .int .i64 20, .int .i64 0, .int .u8 1, .int .i64 0, .int .i64 60, .int .i64 0] 118)
  refine (c8.out _ _ _ _ _ (HRD8.out.alloc _) (rd_box (heap_alloc_new _ _))).mono ?_
  rintro e w9 ⟨rfl, hb⟩
  have hS10 := S_call' hS9 hb
  clear hb
  go_wp2
  go_ret
  exact ⟨rfl, HB.out.trans (hS10.out.mono HB.out.size)⟩
end Go.Proofs.Ytpdanmdpaanafaa

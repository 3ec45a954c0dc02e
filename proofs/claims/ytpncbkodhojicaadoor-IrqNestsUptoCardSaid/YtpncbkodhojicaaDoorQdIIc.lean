/- vergelaw19: the walk of lives. Conditions: the de Bruijn table. -/
import Derived.Test.YtpncbkodhojicaaDoorQdHIc
namespace Go.Proofs.YtpncbkodhojicaaDoor
open Go.RowKit Go.Shelf
attribute [local go_sem] Oper.semAt_some
section
variable (p0 g0 p1 g1 : Nat)
theorem vq0 : QI 0 (vs0 p0 g0 p1 g1) := QI.fresh (ls := [⟨3, 9, 1, 10⟩, ⟨5, 9, 2, 10⟩]) (by decide) rfl (by
  intro x hx
  rcases List.mem_cons.1 hx with rfl | hx
  · rfl
  · obtain rfl := List.mem_singleton.1 hx; rfl)
theorem vq1 : QI 1 (vs1 p0 g0 p1 g1) := (ve1 p0 g0 p1 g1).2 ▸ (vq0 p0 g0 p1 g1).raise 0 4 0
theorem vq2 : QI 2 (vs2 p0 g0 p1 g1) := by
  have h := (vq1 p0 g0 p1 g1).takeA 1
  rw [ve2] at h; exact h
theorem vq3 : QI 3 (vs3 p0 g0 p1 g1) := (ve3 p0 g0 p1 g1).2 ▸ (vq2 p0 g0 p1 g1).raise 1 2 7
theorem vq4 : QI 4 (vs4 p0 g0 p1 g1) := (ve4 p0 g0 p1 g1).2 ▸ (vq3 p0 g0 p1 g1).raise 1 2 7
theorem vq5 : QI 5 (vs5 p0 g0 p1 g1) := by
  have h := (vq4 p0 g0 p1 g1).takeA 2
  rw [ve6] at h; exact h
theorem vq6 : QI 5 (vs6 p0 g0 p1 g1) := (ve9 p0 g0 p1 g1).2.2.2 ▸ (vq5 p0 g0 p1 g1).run 2
theorem vq7 : QI 5 (vs7 p0 g0 p1 g1) := (ve11 p0 g0 p1 g1).2.2.2 ▸ (vq6 p0 g0 p1 g1).run 4
theorem vq8 : QI 6 (vs8 p0 g0 p1 g1) := (ve12 p0 g0 p1 g1).2 ▸ (vq7 p0 g0 p1 g1).raise 0 4 0
theorem vq9 : QI 7 (vs9 p0 g0 p1 g1) := by
  have h := (vq8 p0 g0 p1 g1).takeA 8
  rw [ve13] at h; exact h
theorem vq10 : QI 7 (vs10 p0 g0 p1 g1) := by
  have h := (vq9 p0 g0 p1 g1).unmA 11
  rw [ve15] at h; exact h
variable {w W : World} {p : Nat} {M : List Nat}
theorem lv1 (h : IqO w p M (vs0 p0 g0 p1 g1) W) : Calls Tryd.prog 19 #[.pointer (some ⟨p, 0, none⟩), .int .i64 0, .int .i64 4, .int .i64 0] W fun e W' => e = .returned (.int .i64 0) ∧ IqO w p M (vs1 p0 g0 p1 g1) W' ∧ KpM w M W W' := by
  have h9 := o_raise h (vq0 p0 g0 p1 g1) (by omega) 0 4 0
  rwa [(ve1 p0 g0 p1 g1).1, (ve1 p0 g0 p1 g1).2] at h9
theorem lv2 (h : IqO w p M (vs1 p0 g0 p1 g1) W) (hT : Tab W) (hg : 0 < w.heap.size) : Calls Tryd.prog 21 #[.pointer (some ⟨p, 0, none⟩), .int .i64 1] W fun e W' => e = .returned (.tuple #[.int .i64 0, .bool true, .int .i64 0]) ∧ IqO w p M (vs2 p0 g0 p1 g1) W' ∧ KpM w M W W' := by
  have h9 := o_take h (vq1 p0 g0 p1 g1) (by omega) hT hg 1
  rw [ve2] at h9
  exact h9
theorem lv3 (h : IqO w p M (vs2 p0 g0 p1 g1) W) : Calls Tryd.prog 19 #[.pointer (some ⟨p, 0, none⟩), .int .i64 1, .int .i64 2, .int .i64 7] W fun e W' => e = .returned (.int .i64 0) ∧ IqO w p M (vs3 p0 g0 p1 g1) W' ∧ KpM w M W W' := by
  have h9 := o_raise h (vq2 p0 g0 p1 g1) (by omega) 1 2 7
  rwa [(ve3 p0 g0 p1 g1).1, (ve3 p0 g0 p1 g1).2] at h9
theorem lv4 (h : IqO w p M (vs3 p0 g0 p1 g1) W) : Calls Tryd.prog 19 #[.pointer (some ⟨p, 0, none⟩), .int .i64 1, .int .i64 2, .int .i64 7] W fun e W' => e = .returned (.int .i64 4) ∧ IqO w p M (vs4 p0 g0 p1 g1) W' ∧ KpM w M W W' := by
  have h9 := o_raise h (vq3 p0 g0 p1 g1) (by omega) 1 2 7
  rwa [(ve4 p0 g0 p1 g1).1, (ve4 p0 g0 p1 g1).2] at h9
theorem lv5 (h : IqO w p M (vs4 p0 g0 p1 g1) W) : Calls Tryd.prog 19 #[.pointer (some ⟨p, 0, none⟩), .int .i64 2, .int .i64 2, .int .i64 7] W fun e W' => e = .returned (.int .i64 1) ∧ IqO w p M (vs4 p0 g0 p1 g1) W' ∧ KpM w M W W' := by
  have h9 := o_raise h (vq4 p0 g0 p1 g1) (by omega) 2 2 7
  rwa [(ve5 p0 g0 p1 g1).1, (ve5 p0 g0 p1 g1).2] at h9
theorem lv6 (h : IqO w p M (vs4 p0 g0 p1 g1) W) (hT : Tab W) (hg : 0 < w.heap.size) : Calls Tryd.prog 21 #[.pointer (some ⟨p, 0, none⟩), .int .i64 2] W fun e W' => e = .returned (.tuple #[.int .i64 1, .bool true, .int .i64 0]) ∧ IqO w p M (vs5 p0 g0 p1 g1) W' ∧ KpM w M W W' := by
  have h9 := o_take h (vq4 p0 g0 p1 g1) (by omega) hT hg 2
  rw [ve6] at h9
  exact h9
theorem lv7 (h : IqO w p M (vs5 p0 g0 p1 g1) W) (hT : Tab W) (hg : 0 < w.heap.size) : Calls Tryd.prog 21 #[.pointer (some ⟨p, 0, none⟩), .int .i64 2] W fun e W' => e = .returned (.tuple #[.int .i64 0, .bool false, .int .i64 0]) ∧ IqO w p M (vs5 p0 g0 p1 g1) W' ∧ KpM w M W W' := by
  have h9 := o_take h (vq5 p0 g0 p1 g1) (by omega) hT hg 2
  rw [ve7] at h9
  exact h9
theorem lv8 (h : IqO w p M (vs5 p0 g0 p1 g1) W) : Calls Tryd.prog 13 #[.pointer (some ⟨p, 0, none⟩)] W fun e W' => e = .returned (.int .i64 2) ∧ W = W' := by
  have h9 := o_left h (vq5 p0 g0 p1 g1)
  rwa [ve8] at h9
theorem lv9 (h : IqO w p M (vs5 p0 g0 p1 g1) W) : Calls Tryd.prog 23 #[.pointer (some ⟨p, 0, none⟩), .int .i64 2] W fun e W' => e = .returned (.tuple #[.agg #[.int .i64 1, .int .i64 7], .bool true, .int .i64 0]) ∧ IqO w p M (vs6 p0 g0 p1 g1) W' ∧ KpM w M W W' := by
  have h9 := o_run h (vq5 p0 g0 p1 g1) 2
  rw [(ve9 p0 g0 p1 g1).1, (ve9 p0 g0 p1 g1).2.1, (ve9 p0 g0 p1 g1).2.2.1, (ve9 p0 g0 p1 g1).2.2.2] at h9
  exact h9
theorem lv10 (h : IqO w p M (vs6 p0 g0 p1 g1) W) : Calls Tryd.prog 9 #[.pointer (some ⟨p, 0, none⟩)] W fun e W' => e = .returned (.tuple #[.int .i64 0, .bool true]) ∧ W = W' := by
  have h9 := o_active h (vq6 p0 g0 p1 g1)
  rw [ve10] at h9
  exact h9
theorem lv11 (h : IqO w p M (vs6 p0 g0 p1 g1) W) : Calls Tryd.prog 23 #[.pointer (some ⟨p, 0, none⟩), .int .i64 4] W fun e W' => e = .returned (.tuple #[.agg #[.int .i64 0, .int .i64 0], .bool true, .int .i64 0]) ∧ IqO w p M (vs7 p0 g0 p1 g1) W' ∧ KpM w M W W' := by
  have h9 := o_run h (vq6 p0 g0 p1 g1) 4
  rw [(ve11 p0 g0 p1 g1).1, (ve11 p0 g0 p1 g1).2.1, (ve11 p0 g0 p1 g1).2.2.1, (ve11 p0 g0 p1 g1).2.2.2] at h9
  exact h9
theorem lv12 (h : IqO w p M (vs7 p0 g0 p1 g1) W) : Calls Tryd.prog 19 #[.pointer (some ⟨p, 0, none⟩), .int .i64 0, .int .i64 4, .int .i64 0] W fun e W' => e = .returned (.int .i64 0) ∧ IqO w p M (vs8 p0 g0 p1 g1) W' ∧ KpM w M W W' := by
  have h9 := o_raise h (vq7 p0 g0 p1 g1) (by omega) 0 4 0
  rwa [(ve12 p0 g0 p1 g1).1, (ve12 p0 g0 p1 g1).2] at h9
theorem lv13 (h : IqO w p M (vs8 p0 g0 p1 g1) W) (hT : Tab W) (hg : 0 < w.heap.size) : Calls Tryd.prog 21 #[.pointer (some ⟨p, 0, none⟩), .int .i64 8] W fun e W' => e = .returned (.tuple #[.int .i64 0, .bool false, .int .i64 0]) ∧ IqO w p M (vs9 p0 g0 p1 g1) W' ∧ KpM w M W W' := by
  have h9 := o_take h (vq8 p0 g0 p1 g1) (by omega) hT hg 8
  rw [ve13] at h9
  exact h9
theorem lv14 (h : IqO w p M (vs9 p0 g0 p1 g1) W) (hT : Tab W) : Calls Tryd.prog 11 #[.pointer (some ⟨p, 0, none⟩)] W fun e W' => e = .returned (.tuple #[.int .i64 11, .bool true]) ∧ Below W.heap.size W W' := by
  have h9 := o_next h (vq9 p0 g0 p1 g1) hT
  rw [ve14] at h9
  exact h9
theorem lv15 (h : IqO w p M (vs9 p0 g0 p1 g1) W) : Calls Tryd.prog 16 #[.pointer (some ⟨p, 0, none⟩), .int .i64 0] W fun e W' => e = .returned (.bool true) ∧ W = W' := o_masked h (vq9 p0 g0 p1 g1) (i := 0) (by show 0 < 2; omega)
theorem lv16 (h : IqO w p M (vs9 p0 g0 p1 g1) W) (hT : Tab W) (hg : 0 < w.heap.size) : Calls Tryd.prog 22 #[.pointer (some ⟨p, 0, none⟩), .int .i64 11] W fun e W' => ∃ OA oc, e = .returned (.tuple #[.slice OA 1 oc, .int .i64 0]) ∧ Rd W' OA [.int .i64 0] ∧ (∀ a, OA = some a → W.heap.size ≤ a.block ∧ a.block < W'.heap.size) ∧ IqO w p (OA.toList.map (·.block) ++ M) (vs10 p0 g0 p1 g1) W' ∧ KpM w M W W' := by
  have h9 := o_unmask h (vq9 p0 g0 p1 g1) hT hg 11
  rw [ve15] at h9
  exact h9
theorem lv17 (h : IqO w p M (vs10 p0 g0 p1 g1) W) (hT : Tab W) (hg : 0 < w.heap.size) : Calls Tryd.prog 22 #[.pointer (some ⟨p, 0, none⟩), .int .i64 10] W fun e W' => ∃ OA oc, e = .returned (.tuple #[.slice OA 0 oc, .int .i64 1]) ∧ IqO w p M (vs10 p0 g0 p1 g1) W' ∧ KpM w M W W' := by
  have h9 := o_unmask h (vq10 p0 g0 p1 g1) hT hg 10
  rw [ve16] at h9
  exact h9.mono fun e W' ⟨OA, oc, h1, _, _, h4, h5⟩ => ⟨OA, oc, h1, h4.weak (fun b hb => List.mem_append_right _ hb), h5⟩
theorem lv18 (h : IqO w p M (vs10 p0 g0 p1 g1) W) : Calls Tryd.prog 17 #[.pointer (some ⟨p, 0, none⟩), .int .i64 1] W fun e W' => e = .returned (.int .i64 1) ∧ W = W' := o_lost h (i := 1) (by show 1 < 2; omega)
theorem lv19 (h : IqO w p M (vs10 p0 g0 p1 g1) W) : Calls Tryd.prog 18 #[.pointer (some ⟨p, 0, none⟩), .int .i64 1] W fun e W' => e = .returned (.int .i64 1) ∧ W = W' := o_served h (i := 1) (by show 1 < 2; omega)
end
theorem lv_new (w W : World) (hw : w.heap.size ≤ W.heap.size) : Calls Tryd.prog 6 #[.slice (some ⟨W.heap.size, 0, none⟩) 2 2] (W.alloc (.cells #[.int .i64 3, .int .i64 9, .int .i64 1, .int .i64 10, .int .i64 5, .int .i64 9, .int .i64 2, .int .i64 10] 46)) fun e W' => ∃ p p0 g0 p1 g1, e = .returned (.tuple #[.pointer (some ⟨p, 0, none⟩), .int .i64 0]) ∧ IqO w p [] (vs0 p0 g0 p1 g1) W' ∧ Below W.heap.size W W' := by
  refine (o_new [⟨3, 9, 1, 10⟩, ⟨5, 9, 2, 10⟩] (by decide) (some ⟨W.heap.size, 0, none⟩) 2 w _ (by simp; omega) (fun i u hu => ⟨_, rfl, by rw [add_zero_lit, Nat.zero_add]; exact new_cell hu⟩)).mono fun e W' h => ?_
  unfold RetNw at h
  rw [if_pos (by decide)] at h
  obtain ⟨p, xs, rfl, h1, h2, h3, h4⟩ := h
  have hb : Below W.heap.size W W' := ((Below.refl _ _).alloc (Nat.le_refl _) _).trans (h4.mono (by simp))
  have hlen : xs.length = 2 := by have := congrArg List.length h2; rwa [List.length_map] at this
  rcases xs with _ | ⟨x0, _ | ⟨x1, _ | ⟨x2, r⟩⟩⟩
  · cases hlen
  · cases hlen
  · have e0 := h3 x0 (by simp)
    have e1 := h3 x1 (by simp)
    have q0 : x0.how = ⟨3, 9, 1, 10⟩ := by injection h2
    have q1 : x1.how = ⟨5, 9, 2, 10⟩ := by injection h2 with _ h2; injection h2
    rw [q0] at e0
    rw [q1] at e1
    refine ⟨p, x0.mb, x0.mg, x1.mb, x1.mg, rfl, ?_, hb⟩
    rw [e0, e1] at h1
    exact h1
  · simp at hlen
theorem lv_bad (W : World) : Calls Tryd.prog 6 #[.slice (some ⟨W.heap.size, 0, none⟩) 1 1] (W.alloc (.cells #[.int .i64 16, .int .i64 9, .int .i64 1, .int .i64 10] 46)) fun e W' => e = .returned (.tuple #[.pointer none, .int .i64 1]) ∧ Below W.heap.size W W' := by
  refine (o_new [⟨16, 9, 1, 10⟩] (by decide) (some ⟨W.heap.size, 0, none⟩) 1 W _ (by simp) (fun i u hu => ⟨_, rfl, by rw [add_zero_lit, Nat.zero_add]; exact new_cell hu⟩)).mono fun e W' h => ?_
  unfold RetNw at h
  rw [if_neg (by decide)] at h
  exact ⟨h.1, ((Below.refl _ _).alloc (Nat.le_refl _) _).trans (h.2.mono (by simp))⟩
end Go.Proofs.YtpncbkodhojicaaDoor

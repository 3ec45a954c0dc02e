/- Package vergelaw08: the walk of by; what WheelPlays keeps from act to act. Conditions: a wheel's memory, a list that reads. -/
import Derived.Test.YtiblpnadninmbaaDoorWlD
import Derived.Test.YtiblpnadninmbaaDoorWlC
import Derived.Deep.CutBlock
namespace Go.Proofs.YtiblpnadninmbaaDoor
open Go.RowKit Go.Shelf
attribute [local go_sem] Oper.semAt_some
set_option maxHeartbeats 4000000 in
theorem by08_any (t n : Int) (w : World) : Calls Tryd.prog 42 #[.int .i64 t, .int .i64 n] w fun e w' => (∃ z, e = .returned (.int .i64 z)) ∧ w = w' := by
  go_enter Tryd.func42, Tryd.ntmps42
  go_wp2
  all_goals (go_ret; exact ⟨⟨_, rfl⟩, rfl⟩)
theorem _root_.Go.RowKit.Below.drewsN {B : Nat} {a w : World} (h : Below B a w) (n : Nat) : Below B a (w.drewN n) := ⟨h.os, h.tape, h.output, h.size, h.block⟩
/-- An act. -/
structure Ac where
  kind : Int
  id : Int
  at' : Int
def acc (x : Ac) : List Value := [.int .i64 x.kind, .int .i64 x.id, .int .i64 x.at']
def ac0 : Ac := ⟨0, 0, 0⟩
theorem add_plusN (a : Addr) (n j : Nat) (hj : 0 < j) : a.add (n + j) = ⟨(a.add n).block, (a.add n).off + j, none⟩ := add_plus2 a n j hj
theorem Rd.acAt {w : World} {A : Option Addr} {ts : List Ac} (h : Rd w A (ts.flatMap acc)) {k : Nat} (hk : k < ts.length) : ∃ a x, A = some a ∧ ts.getD k ac0 = x ∧
    w.cell? (a.add (k * 3)) = some (.int .i64 x.kind) ∧ w.cell? ⟨(a.add (k * 3)).block, (a.add (k * 3)).off + 1, none⟩ = some (.int .i64 x.id) ∧ w.cell? ⟨(a.add (k * 3)).block, (a.add (k * 3)).off + 2, none⟩ = some (.int .i64 x.at') := by
  have g := flat_get (f := acc) (k := 3) (fun _ => rfl) ac0 ts k hk
  generalize ts.getD k ac0 = x at *
  obtain ⟨a, rfl, h0⟩ := h _ _ (g 0 (by omega))
  obtain ⟨_, ha1, h1⟩ := h _ _ (g 1 (by omega)); cases ha1
  obtain ⟨_, ha2, h2⟩ := h _ _ (g 2 (by omega)); cases ha2
  refine ⟨a, x, rfl, rfl, h0, ?_, ?_⟩
  · rw [← add_plus2 a (k * 3) 1 (by omega)]; exact h1
  · rw [← add_plus2 a (k * 3) 2 (by omega)]; exact h2
/-- A wheel and the document's, beside one another. -/
structure WpI (w wx : World) (f : WhF) (r b9 B0 tn : Nat) (now : Int) (L : List Du) (A : Option Addr) (c : Nat) : Prop where
  box : wx.heap[b9]? = some (.cells #[.int .i64 now, .int .i64 r, .slice A L.length c] 30 (0, 0))
  whl : Whl wx f r now L tn
  rd : Rd wx A (L.flatMap duc)
  off : ∀ a, A = some a → B0 ≤ a.block
  bel : Below w.heap.size w wx
  sz : B0 ≤ wx.heap.size
theorem WpI.below {w wx wy : World} {f : WhF} {r b9 B0 tn : Nat} {now : Int} {L : List Du} {A : Option Addr} {c : Nat} (h : WpI w wx f r b9 B0 tn now L A c) (hb : Below wx.heap.size wx wy) : WpI w wy f r b9 B0 tn now L A c :=
  ⟨(hb.block b9 (box_lt h.box)).trans h.box, h.whl.below hb, h.rd.below hb, h.off, h.bel.trans (hb.mono h.bel.size), Nat.le_trans h.sz hb.size⟩
/-- Where blocks lie. -/
structure WpB (w : World) (f : WhF) (b9 B0 : Nat) : Prop where
  fl : ∀ b ∈ f.l, w.heap.size ≤ b ∧ b < b9
  b9 : w.heap.size ≤ b9 ∧ b9 < B0
  tab : 0 < w.heap.size
/-- The wheel turned; the document's list is a new one. -/
theorem WpI.turn {w wx wy wz : World} {f : WhF} {r b9 B0 tn tn' : Nat} {now now' : Int} {L L' : List Du} {A A' : Option Addr} {c c' : Nat} (hB : WpB w f b9 B0) (h : WpI w wx f r b9 B0 tn now L A c) (hb : Below wx.heap.size wx wy) (ht : Tn f.l wy wz) (hw : Whl wz f r now' L' tn')
    (hr : Rd wy A' (L'.flatMap duc)) (ho : ∀ a, A' = some a → A = some a ∨ wx.heap.size ≤ a.block) :
    WpI w (((wz.setCell ⟨b9, 0, none⟩ (.int .i64 now')).setCell ⟨b9, 1, none⟩ (.int .i64 r)).setCell ⟨b9, 2, none⟩ (.slice A' L'.length c')) f r b9 B0 tn' now' L' A' c' := by
  have hoff : ∀ a, A' = some a → B0 ≤ a.block := fun a ha => (ho a ha).elim (h.off a) (fun h9 => Nat.le_trans h.sz h9)
  have hnf : b9 ∉ f.l := fun hm => by have := (hB.fl _ hm).2; omega
  have hb9 : wz.heap[b9]? = some (.cells #[.int .i64 now, .int .i64 r, .slice A L.length c] 30 (0, 0)) := ht.box (h.below hb).box hnf
  have hs : ∀ {X : World} (i : Nat) (v : Value), Tn [b9] X (X.setCell ⟨b9, i, none⟩ v) := fun i v => (Tn.refl _ _).setCell (by simp) v
  have hT := ((hs (X := wz) 0 (.int .i64 now')).trans (hs 1 (.int .i64 r))).trans (hs 2 (.slice A' L'.length c'))
  have hrz : Rd wz A' (L'.flatMap duc) := hr.tn ht fun a ha hm => by have := hoff a ha; have := (hB.fl _ hm).2; have := hB.b9.2; omega
  have hbz : Below w.heap.size w wz := ht.base (h.below hb).bel (fun b hm => (hB.fl b hm).1) (h.below hb).bel.size
  refine ⟨box_set (i := 2) (box_set (i := 1) (box_set (i := 0) hb9 _) _) _, hw.tn' hT (fun b hm h9 => ?_), hrz.tn hT (fun a ha h9 => ?_), hoff, hT.base hbz (fun k hk => ?_) hbz.size, ?_⟩
  · obtain rfl := List.mem_singleton.1 h9
    exact hnf hm
  · have h8 := List.mem_singleton.1 h9
    have := hoff a ha
    have := hB.b9.2
    omega
  · obtain rfl := List.mem_singleton.1 hk
    exact hB.b9.1
  · exact Nat.le_trans (h.below hb).sz (Nat.le_trans ht.size hT.size)
/-- The wheel and the document's tell the same next one. -/
theorem next_both {w : World} {f : WhF} {r tn : Nat} {now : Int} {L : List Du} (A : Option Addr) (c : Nat) (h : Whl w f r now L tn) :
    ∃ nv bv, (∀ X, Whl X f r now L tn → Tab X → Calls Tryd.prog 27 #[.pointer (some ⟨f.pw, 0, none⟩)] X fun e w' => e = .returned (.tuple #[.int .i64 nv, .bool bv]) ∧ Below X.heap.size X w') ∧
      (∀ X, Rd X A (L.flatMap duc) → Calls Tryd.prog 28 #[.agg #[.int .i64 now, .int .i64 r, .slice A L.length c]] X fun e w' => e = .returned (.tuple #[.int .i64 nv, .bool bv]) ∧ Below X.heap.size X w') := by
  have hl : L.length ≤ 1048576 := by have := h.n0; omega
  by_cases hne : L = []
  · refine ⟨0, false, fun X hX hT => ?_, fun X hX => ?_⟩
    · have h9 := whl_next f r now L tn X hX hT
      rw [if_pos hne] at h9
      simp only [hne, decide_true, Bool.not_true] at h9
      exact h9
    · have h9 := rnext_any now r L A c X hl hX
      rw [if_pos hne] at h9
      exact h9
  · refine ⟨minD 4503599627370496 L, true, fun X hX hT => ?_, fun X hX => ?_⟩
    · have h9 := whl_next f r now L tn X hX hT
      rw [if_neg hne] at h9
      simp only [hne, decide_false, Bool.not_false] at h9
      exact h9
    · have h9 := rnext_any now r L A c X hl hX
      rw [if_neg hne, nx_min h.at0 hne] at h9
      exact h9
end Go.Proofs.YtiblpnadninmbaaDoor

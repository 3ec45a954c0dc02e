/- Package vergelaw09: the walk of heavy; what TimersPlay keeps from act to act. Conditions: lists that read. -/
import Derived.Test.YtiblpnadninmbaaDoorTlA
import Derived.Deep.CutBlock
namespace Go.Proofs.YtiblpnadninmbaaDoor
open Go.RowKit Go.Shelf
attribute [local go_sem] Oper.semAt_some
set_option maxHeartbeats 4000000 in
set_option maxRecDepth 100000 in
theorem heavy_any (now : Int) (room : Nat) (T : Int) (L : List Du) (A : Option Addr) (c : Nat) (P : List Pe) (Q : Option Addr) (d : Nat) (w : World) (hL : L.length ≤ 1048576) (hP : P.length ≤ 1048576) (hlo : ∀ x ∈ P, 1 ≤ x.long ∧ x.long ≤ 4503599627370496) (hr : Rd w A (L.flatMap duc)) (hq : Rd w Q (P.flatMap pec)) :
    Calls Tryd.prog 21 #[rtv now room A L.length c Q P.length d, .int .i64 T] w fun e w' => (∃ b, e = .returned (.bool b)) ∧ Below w.heap.size w w' := by
  have HR := Lib.hid hr; have HQ := Lib.hid hq; have Hlo := Lib.hid hlo
  have f1 := Lib.hid (fun X id (hX : Rd X A (L.flatMap duc)) => rat_any now room id L A c X hL hX)
  unfold rwv at f1
  unfold rtv
  clear hr hq hlo
  go_enter Tryd.func21, Tryd.ntmps21
  go_upto_region 1 with fail
  refine name_world fun V hV => ?_
  have HX : Hid (V.heap[w.heap.size]? = some (.cells #[.int .i64 now, .int .i64 room, .slice A L.length c, .slice Q P.length d] 33 (0, 0))) := Lib.hid (by rw [hV]; exact heap_alloc_new _ _)
  have HBV : Hid (Below w.heap.size w V) := Lib.hid (by rw [hV]; exact (Below.refl _ _).alloc (Nat.le_refl _) _)
  clear hV
  obtain ⟨xx, xy⟩ := box_rules HX.out
  have lx := box_lt HX.out
  go_upto_region 3 with fail
  go_loopw [5, 13] (fun s i wr => ∃ (k : Nat) (z : Int), k ≤ P.length ∧ i = .int .i64 k ∧ s = .int .i64 z ∧ Hid (wr.heap[w.heap.size]? = some (.cells #[.int .i64 now, .int .i64 room, .slice A L.length c, .slice Q P.length d] 33 (0, 0))) ∧ Hid (Below w.heap.size w wr)) (fun _ i _ => P.length - (intOf i).toNat)
  case atStart => exact ⟨0, 0, by omega, rfl, rfl, HX, HBV⟩
  case round =>
    obtain ⟨k, z, hk, rfl, rfl, HXr, HBr⟩ := hrel
    clear xx xy lx
    by_cases hlt : k < P.length
    · obtain ⟨a, x, rfl, hx, g0, g1⟩ := (HQ.out.below HBr.out).peAt hlt
      have hl1 := Hlo.out x (by rw [← hx, getD_lt hlt]; exact List.getElem_mem _)
      clear hx
      obtain ⟨e0, e1⟩ := x
      dsimp only at *
      go_upto_region 5 with fail
      refine name_world fun U hU => ?_
      have hbu : Below wr.heap.size wr U := by rw [hU]; exact (Below.refl _ _).alloc (Nat.le_refl _) _
      have HXp : Hid (U.heap[wr.heap.size]? = some (.cells #[.int .i64 e0, .int .i64 e1] 103 (0, 0))) := Lib.hid (by rw [hU]; exact heap_alloc_new _ _)
      have HXu := Lib.hid (box_keep HXr.out hbu)
      have HBu := Lib.hid (HBr.out.trans (hbu.mono HBr.out.size))
      clear hU hbu g0 g1
      generalize wr.heap.size = b7 at *
      obtain ⟨xx, xy⟩ := box_rules HXu.out
      have lx := box_lt HXu.out
      obtain ⟨px, py⟩ := box_rules HXp.out
      have lp := box_lt HXp.out
      have fa := Lib.hid (f1.out U e0 (HR.out.below HBu.out))
      obtain ⟨at1, hat⟩ : ∃ z, atD L e0 = z := ⟨_, rfl⟩
      rw [hat] at fa
      clear hat
      generalize canC L e0 = cc at *
      go_upto_region 6 with (go_at_call 51; (with_reducible refine fa.out.mono ?_); rintro e w5 ⟨rfl, hb5⟩; have HXv := Lib.hid (box_keep HXu.out hb5); have HXq := Lib.hid (box_keep HXp.out hb5); have HBv := Lib.hid (HBu.out.trans (hb5.mono HBu.out.size)); clear hb5)
      clear xx xy lx px py lp
      obtain ⟨xx, xy⟩ := box_rules HXv.out
      have lx := box_lt HXv.out
      obtain ⟨px, py⟩ := box_rules HXq.out
      have lp := box_lt HXq.out
      have hne : (e1 == 0) = false := beq_eq_false_iff_ne.2 (by omega)
      have hne' : e1 ≠ 0 := by omega
      by_cases hle : at1 ≤ T
      · go_wp2
        refine ⟨⟨k + 1, _, by omega, by go_num, rfl, HXv, HBv⟩, ?_⟩
        simp [intOf]; omega
      · go_wp2
        refine ⟨⟨k + 1, z, by omega, by go_num, rfl, HXv, HBv⟩, ?_⟩
        simp [intOf]; omega
    · obtain rfl : k = P.length := by omega
      go_wp2
      go_ret
      exact ⟨⟨_, rfl⟩, HBr.out⟩
/-- An act on timers. -/
structure At where
  kind : Int
  id : Int
  at' : Int
  per : Int
def atc (x : At) : List Value := [.int .i64 x.kind, .int .i64 x.id, .int .i64 x.at', .int .i64 x.per]
def at0 : At := ⟨0, 0, 0, 0⟩
theorem Rd.atAt {w : World} {A : Option Addr} {ts : List At} (h : Rd w A (ts.flatMap atc)) {k : Nat} (hk : k < ts.length) : ∃ a x, A = some a ∧ ts.getD k at0 = x ∧
    w.cell? (a.add (k * 4)) = some (.int .i64 x.kind) ∧ w.cell? ⟨(a.add (k * 4)).block, (a.add (k * 4)).off + 1, none⟩ = some (.int .i64 x.id) ∧ w.cell? ⟨(a.add (k * 4)).block, (a.add (k * 4)).off + 2, none⟩ = some (.int .i64 x.at') ∧ w.cell? ⟨(a.add (k * 4)).block, (a.add (k * 4)).off + 3, none⟩ = some (.int .i64 x.per) := by
  have g := flat_get (f := atc) (k := 4) (fun _ => rfl) at0 ts k hk
  generalize ts.getD k at0 = x at *
  obtain ⟨a, rfl, h0⟩ := h _ _ (g 0 (by omega))
  obtain ⟨_, ha1, h1⟩ := h _ _ (g 1 (by omega)); cases ha1
  obtain ⟨_, ha2, h2⟩ := h _ _ (g 2 (by omega)); cases ha2
  obtain ⟨_, ha3, h3⟩ := h _ _ (g 3 (by omega)); cases ha3
  refine ⟨a, x, rfl, rfl, h0, ?_, ?_, ?_⟩
  · rw [← add_plus2 a (k * 4) 1 (by omega)]; exact h1
  · rw [← add_plus2 a (k * 4) 2 (by omega)]; exact h2
  · rw [← add_plus2 a (k * 4) 3 (by omega)]; exact h3
/-- Timers and the document's, beside one another. -/
structure TpI (w wx : World) (g : TmF) (r b9 B0 k : Nat) (now : Int) (L : List Du) (P : List Pe) (A : Option Addr) (c : Nat) (Q : Option Addr) (d : Nat) : Prop where
  box : wx.heap[b9]? = some (.cells #[.int .i64 now, .int .i64 r, .slice A L.length c, .slice Q P.length d] 33 (0, 0))
  tms : Tms wx g r now L P (1024 * k)
  ra : Rd wx A (L.flatMap duc)
  rq : Rd wx Q (P.flatMap pec)
  oa : ∀ a, A = some a → B0 ≤ a.block ∧ a.block < wx.heap.size
  oq : ∀ a, Q = some a → B0 ≤ a.block ∧ a.block < wx.heap.size
  pi : PI L P
  pl : P.length ≤ k
  bel : Below w.heap.size w wx
  sz : B0 ≤ wx.heap.size
theorem TpI.below {w wx wy : World} {g : TmF} {r b9 B0 k : Nat} {now : Int} {L : List Du} {P : List Pe} {A : Option Addr} {c : Nat} {Q : Option Addr} {d : Nat} (h : TpI w wx g r b9 B0 k now L P A c Q d) (hb : Below wx.heap.size wx wy) : TpI w wy g r b9 B0 k now L P A c Q d :=
  ⟨(hb.block b9 (box_lt h.box)).trans h.box, h.tms.below hb, h.ra.below hb, h.rq.below hb, fun a ha => ⟨(h.oa a ha).1, Nat.lt_of_lt_of_le (h.oa a ha).2 hb.size⟩, fun a ha => ⟨(h.oq a ha).1, Nat.lt_of_lt_of_le (h.oq a ha).2 hb.size⟩, h.pi, h.pl, h.bel.trans (hb.mono h.bel.size), Nat.le_trans h.sz hb.size⟩
theorem TpI.drewN {w wx : World} {g : TmF} {r b9 B0 k : Nat} {now : Int} {L : List Du} {P : List Pe} {A : Option Addr} {c : Nat} {Q : Option Addr} {d : Nat} (h : TpI w wx g r b9 B0 k now L P A c Q d) (n : Nat) : TpI w (wx.drewN n) g r b9 B0 k now L P A c Q d :=
  ⟨h.box, h.tms.drewN n, h.ra.drewN n, h.rq.drewN n, h.oa, h.oq, h.pi, h.pl, ⟨h.bel.os, h.bel.tape, h.bel.output, h.bel.size, h.bel.block⟩, h.sz⟩
theorem TpI.up {w wx : World} {g : TmF} {r b9 B0 k : Nat} {now : Int} {L : List Du} {P : List Pe} {A : Option Addr} {c : Nat} {Q : Option Addr} {d : Nat} (h : TpI w wx g r b9 B0 k now L P A c Q d) : TpI w wx g r b9 B0 (k + 1) now L P A c Q d :=
  ⟨h.box, h.tms.mono (by omega), h.ra, h.rq, h.oa, h.oq, h.pi, Nat.le_succ_of_le h.pl, h.bel, h.sz⟩
theorem run_pi {room : Nat} {now : Int} : ∀ (n : Nat) {L : List Du} {P : List Pe}, PI L P → PI (runT room now n L P).2.1 (runT room now n L P).2.2 ∧ (runT room now n L P).2.2.length ≤ P.length ∧ (runT room now n L P).1.length ≤ n
  | 0, L, P, h => ⟨h, Nat.le_refl _, Nat.le_refl _⟩
  | n + 1, L, P, h => by
    by_cases hd : (popR now L).at' ≤ now
    · rw [run_some n hd]
      obtain ⟨h1, h2, h3⟩ := run_pi (room := room) (now := now) n (h.fire room now)
      have h4 := (fireP_le room L P now).1
      refine ⟨h1, ?_, ?_⟩
      · show (runT room now n _ _).2.2.length ≤ _; omega
      · show (fired now L :: _).length ≤ _; simp only [List.length_cons]; omega
    · rw [run_none _ hd]
      exact ⟨h, Nat.le_refl _, by simp⟩
theorem everyP_le (room : Nat) (L : List Du) (P : List Pe) (id a p : Int) : (everyP room L P id a p).length ≤ P.length + 1 := by
  unfold everyP
  split
  · simp
  · omega
theorem wo_le (P : List Pe) (id : Int) : (woD P id).length ≤ P.length := List.length_filter_le _ _
/-- Where blocks lie. -/
structure TpB (w : World) (g : TmF) (b9 B0 : Nat) : Prop where
  fl : ∀ b ∈ g.l, w.heap.size ≤ b ∧ b < b9
  b9 : w.heap.size ≤ b9 ∧ b9 < B0
  tab : 0 < w.heap.size
/-- The timers turned; the document's are new ones. -/
theorem TpI.turn {w wx wy wz : World} {g : TmF} {r b9 B0 k : Nat} {now now' : Int} {L L' : List Du} {P P' : List Pe} {A A' : Option Addr} {c c' : Nat} {Q Q' : Option Addr} {d d' : Nat} (hB : TpB w g b9 B0) (h : TpI w wx g r b9 B0 k now L P A c Q d) (hb : Below wx.heap.size wx wy) (ht : Tn g.l wy wz)
    (hw : Tms wz g r now' L' P' (1024 * (k + 1))) (hr : Rd wy A' (L'.flatMap duc)) (hq : Rd wy Q' (P'.flatMap pec)) (ho : ∀ a, A' = some a → A = some a ∨ (wx.heap.size ≤ a.block ∧ a.block < wy.heap.size)) (hp : ∀ a, Q' = some a → Q = some a ∨ (wx.heap.size ≤ a.block ∧ a.block < wy.heap.size)) (hi : PI L' P') (hl : P'.length ≤ k + 1) :
    TpI w ((((wz.setCell ⟨b9, 0, none⟩ (.int .i64 now')).setCell ⟨b9, 1, none⟩ (.int .i64 r)).setCell ⟨b9, 2, none⟩ (.slice A' L'.length c')).setCell ⟨b9, 3, none⟩ (.slice Q' P'.length d')) g r b9 B0 (k + 1) now' L' P' A' c' Q' d' := by
  have hoff : ∀ a, A' = some a → B0 ≤ a.block ∧ a.block < wy.heap.size := fun a ha => (ho a ha).elim (fun h9 => ⟨(h.oa a h9).1, Nat.lt_of_lt_of_le (h.oa a h9).2 hb.size⟩) (fun h9 => ⟨Nat.le_trans h.sz h9.1, h9.2⟩)
  have hoff2 : ∀ a, Q' = some a → B0 ≤ a.block ∧ a.block < wy.heap.size := fun a ha => (hp a ha).elim (fun h9 => ⟨(h.oq a h9).1, Nat.lt_of_lt_of_le (h.oq a h9).2 hb.size⟩) (fun h9 => ⟨Nat.le_trans h.sz h9.1, h9.2⟩)
  have hnf : b9 ∉ g.l := fun hm => by have := (hB.fl _ hm).2; omega
  have hy := h.below hb
  have hb9 : wz.heap[b9]? = some (.cells #[.int .i64 now, .int .i64 r, .slice A L.length c, .slice Q P.length d] 33 (0, 0)) := ht.box hy.box hnf
  obtain ⟨h1, hT⟩ := set4 hb9 rfl (.int .i64 now') (.int .i64 r) (.slice A' L'.length c') (.slice Q' P'.length d')
  have hfar : ∀ b, B0 ≤ b → b ∉ g.l := fun b hb hm => by have := (hB.fl _ hm).2; have := hB.b9.2; omega
  have hfar9 : ∀ b, B0 ≤ b → b ∉ [b9] := fun b hb hm => by have := List.mem_singleton.1 hm; have := hB.b9.2; omega
  have hbz : Below w.heap.size w wz := ht.base hy.bel (fun b hm => (hB.fl b hm).1) hy.bel.size
  have hs : wy.heap.size ≤ wz.heap.size := ht.size
  have hs2 := hT.size
  refine ⟨h1, hw.turn hT (fun b hm h9 => ?_), (hr.tn ht (fun a ha => hfar _ (hoff a ha).1)).tn hT (fun a ha => hfar9 _ (hoff a ha).1), (hq.tn ht (fun a ha => hfar _ (hoff2 a ha).1)).tn hT (fun a ha => hfar9 _ (hoff2 a ha).1),
    fun a ha => ⟨(hoff a ha).1, by have := (hoff a ha).2; omega⟩, fun a ha => ⟨(hoff2 a ha).1, by have := (hoff2 a ha).2; omega⟩, hi, hl, hT.base hbz (fun k hk => ?_) hbz.size, ?_⟩
  · obtain rfl := List.mem_singleton.1 h9
    exact hnf hm
  · obtain rfl := List.mem_singleton.1 hk
    exact hB.b9.1
  · have := hy.sz; omega
/-- Timers and the document's tell the same next one. -/
theorem next_both9 {w : World} {g : TmF} {r tn : Nat} {now : Int} {L : List Du} {P : List Pe} (A : Option Addr) (c : Nat) (h : Tms w g r now L P tn) :
    ∃ nv bv, (∀ X, Tms X g r now L P tn → Tab X → Calls Tryd.prog 27 #[.pointer (some ⟨g.f.pw, 0, none⟩)] X fun e w' => e = .returned (.tuple #[.int .i64 nv, .bool bv]) ∧ Below X.heap.size X w') ∧
      (∀ X, Rd X A (L.flatMap duc) → Calls Tryd.prog 28 #[.agg #[.int .i64 now, .int .i64 r, .slice A L.length c]] X fun e w' => e = .returned (.tuple #[.int .i64 nv, .bool bv]) ∧ Below X.heap.size X w') := by
  have hl : L.length ≤ 1048576 := by have := h.whl.n0; omega
  by_cases hne : L = []
  · refine ⟨0, false, fun X hX hT => ?_, fun X hX => ?_⟩
    · have h9 := whl_next g.f r now L tn X hX.whl hT
      rw [if_pos hne] at h9
      simp only [hne, decide_true, Bool.not_true] at h9
      exact h9
    · have h9 := rnext_any now r L A c X hl hX
      rw [if_pos hne] at h9
      exact h9
  · refine ⟨minD 4503599627370496 L, true, fun X hX hT => ?_, fun X hX => ?_⟩
    · have h9 := whl_next g.f r now L tn X hX.whl hT
      rw [if_neg hne] at h9
      simp only [hne, decide_false, Bool.not_false] at h9
      exact h9
    · have h9 := rnext_any now r L A c X hl hX
      rw [if_neg hne, nx_min h.whl.at0 hne] at h9
      exact h9
end Go.Proofs.YtiblpnadninmbaaDoor

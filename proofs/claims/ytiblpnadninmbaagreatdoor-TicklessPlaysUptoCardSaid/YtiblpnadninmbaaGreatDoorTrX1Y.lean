/- Package vergeref09: the walks of period, Period, without. Conditions: lists that read. -/
import Derived.Test.YtiblpnadninmbaaGreatDoorTmXY
import Derived.Test.YtiblpnadninmbaaGreatDoorRhCY
namespace Go.Proofs.YtiblpnadninmbaaGreatDoor
open Go.RowKit Go.Shelf
attribute [local go_sem] Oper.semAt_some

def rtv (now room : Int) (A : Option Addr) (n c : Nat) (Q : Option Addr) (m d : Nat) : Value := .agg #[.int .i64 now, .int .i64 room, .slice A n c, .slice Q m d]
theorem skc_pe : SlK Tryz.prog 33 136 2 16 := SlK.mk' (z := .agg #[.int .i64 0, .int .i64 0]) Tryz.underlying33 (by kernel_rfl) rfl (by decide)
theorem pec_len (l : List Pe) : (l.flatMap pec).length = l.length * 2 := by
  induction l with
  | nil => rfl
  | cons x l ih => rw [List.flatMap_cons, List.length_append, ih, List.length_cons]; show 2 + _ = _; omega
theorem pec_one (l : List Pe) : ∀ u ∈ l.flatMap pec, u.oneCell' = true := fun u hu => by
  obtain ⟨x, _, hx⟩ := List.mem_flatMap.1 hu
  simp [pec] at hx
  rcases hx with rfl | rfl <;> rfl
theorem Rd.peAt {w : World} {A : Option Addr} {ts : List Pe} (h : Rd w A (ts.flatMap pec)) {k : Nat} (hk : k < ts.length) : ∃ a x, A = some a ∧ ts.getD k pe0 = x ∧
    w.cell? (a.add (k * 2)) = some (.int .i64 x.id) ∧ w.cell? ⟨(a.add (k * 2)).block, (a.add (k * 2)).off + 1, none⟩ = some (.int .i64 x.long) := by
  have g := flat_get (f := pec) (k := 2) (fun _ => rfl) pe0 ts k hk
  generalize ts.getD k pe0 = x at *
  obtain ⟨a, rfl, h0⟩ := h _ _ (g 0 (by omega))
  obtain ⟨_, ha1, h1⟩ := h _ _ (g 1 (by omega)); cases ha1
  refine ⟨a, x, rfl, rfl, h0, ?_⟩
  rw [← add_plus2 a (k * 2) 1 (by omega)]; exact h1
/-- A struct of four cells stored whole. -/
theorem set4 {U : World} {b : Nat} {t : TypeId} {cs : Array Value} (h : U.heap[b]? = some (.cells cs t (0, 0))) (hs : cs.size = 4) (v0 v1 v2 v3 : Value) :
    ((((U.setCell ⟨b, 0, none⟩ v0).setCell ⟨b, 1, none⟩ v1).setCell ⟨b, 2, none⟩ v2).setCell ⟨b, 3, none⟩ v3).heap[b]? = some (.cells #[v0, v1, v2, v3] t (0, 0)) ∧
    Tn [b] U ((((U.setCell ⟨b, 0, none⟩ v0).setCell ⟨b, 1, none⟩ v1).setCell ⟨b, 2, none⟩ v2).setCell ⟨b, 3, none⟩ v3) := by
  have hm : b ∈ [b] := by simp
  refine ⟨?_, ((((Tn.refl _ _).setCell (p := ⟨b, 0, none⟩) hm _).setCell (p := ⟨b, 1, none⟩) hm _).setCell (p := ⟨b, 2, none⟩) hm _).setCell (p := ⟨b, 3, none⟩) hm _⟩
  rw [box_set (i := 3) (box_set (i := 2) (box_set (i := 1) (box_set (i := 0) h v0) v1) v2) v3]
  obtain ⟨l⟩ := cs
  match l, hs with
  | [_, _, _, _], _ => rfl
theorem set3 {U : World} {b : Nat} {t : TypeId} {a0 a1 a2 a3 : Value} (h : U.heap[b]? = some (.cells #[a0, a1, a2, a3] t (0, 0))) (v0 v1 v2 : Value) :
    (((U.setCell ⟨b, 0, none⟩ v0).setCell ⟨b, 1, none⟩ v1).setCell ⟨b, 2, none⟩ v2).heap[b]? = some (.cells #[v0, v1, v2, a3] t (0, 0)) ∧
    Tn [b] U (((U.setCell ⟨b, 0, none⟩ v0).setCell ⟨b, 1, none⟩ v1).setCell ⟨b, 2, none⟩ v2) := by
  have hm : b ∈ [b] := by simp
  exact ⟨box_set (i := 2) (box_set (i := 1) (box_set (i := 0) h v0) v1) v2, (((Tn.refl _ _).setCell (p := ⟨b, 0, none⟩) hm _).setCell (p := ⟨b, 1, none⟩) hm _).setCell (p := ⟨b, 2, none⟩) hm _⟩
/-- Rows that read, off blocks that turned: an empty row, or one whose block is another. -/
theorem Rd.off {w w' : World} {A : Option Addr} {vs : List Value} {F : List Nat} (h : Rd w A vs) (ht : Tn F w w') (hF : ∀ a, A = some a → a.block < w.heap.size → a.block ∉ F) : Rd w' A vs := fun i u hu => by
  obtain ⟨a, ha, hc⟩ := h i u hu
  have hlt : (a.add i).block < w.heap.size := World.block_lt_of_cell? w _ hc
  have hb : (a.add i).block = a.block := by unfold Addr.add; split <;> rfl
  exact ⟨a, ha, ht.cell hc (by rw [hb] at hlt ⊢; exact hF a ha hlt)⟩
set_option maxHeartbeats 4000000 in
set_option maxRecDepth 100000 in
theorem rper_any (now room id : Int) (A : Option Addr) (n c : Nat) (P : List Pe) (Q : Option Addr) (d : Nat) (w : World) (hl : P.length ≤ 1048576) (hr : Rd w Q (P.flatMap pec)) :
    Calls Tryz.prog 63 #[rtv now room A n c Q P.length d, .int .i64 id] w fun e w' => e = .returned (.int .i64 (perD P id)) ∧ Below w.heap.size w w' := by
  have HR := Lib.hid hr
  have HG0 : Hid (perD (P.drop 0) id = perD P id) := Lib.hid rfl
  obtain ⟨ra, hra⟩ : ∃ ra, perD P id = ra := ⟨_, rfl⟩
  rw [hra] at HG0 ⊢
  clear hr hra
  unfold rtv
  go_enter Tryz.func63, Tryz.ntmps63
  go_upto_region 2 with fail
  go_loopw [10] (fun i wr => ∃ k : Nat, k ≤ P.length ∧ i = .int .i64 k ∧ Hid (perD (P.drop k) id = ra) ∧ Hid (Below w.heap.size w wr)) (fun i _ => P.length - (intOf i).toNat)
  case atStart => exact ⟨0, by omega, rfl, HG0, Lib.hid ((Below.refl _ _).alloc (Nat.le_refl _) _)⟩
  case round =>
    obtain ⟨k, hk, rfl, HG, HB⟩ := hrel
    have hsz := HB.out.size
    by_cases hlt : k < P.length
    · obtain ⟨a, x, rfl, hx, g0, g1⟩ := (HR.out.below HB.out).peAt hlt
      have hdr := drop_atN (d := pe0) hlt
      rw [hx] at hdr
      by_cases hid : x.id = id
      · have HN : Hid (x.long = ra) := Lib.hid (by
          have h9 := HG.out
          rw [hdr] at h9
          rw [← h9]; show _ = (if x.id = id then x.long else _); rw [if_pos hid])
        have t0 : (x.id == id) = true := by simpa using hid
        clear hx hdr hid
        go_wp2
        go_ret
        exact ⟨by rw [← HN.out]; rfl, HB.out.alloc hsz _⟩
      · have HN : Hid (perD (P.drop (k + 1)) id = ra) := Lib.hid (by
          have h9 := HG.out
          rw [hdr] at h9
          rw [← h9]; show _ = (if x.id = id then x.long else _); rw [if_neg hid])
        have t0 : (x.id == id) = false := by simpa using hid
        clear hx hdr hid
        go_wp2
        refine ⟨⟨k + 1, by omega, by go_num, HN, Lib.hid (HB.out.alloc hsz _)⟩, ?_⟩
        simp [intOf]; omega
    · obtain rfl : k = P.length := by omega
      have HN : Hid (0 = ra) := Lib.hid (by
        have h9 := HG.out
        rw [List.drop_length] at h9
        exact h9)
      go_wp2
      go_ret
      exact ⟨by rw [← HN.out]; rfl, HB.out⟩
end Go.Proofs.YtiblpnadninmbaaGreatDoor
/- Package vergeref09: the walks of New, without, Start, Stop. Conditions: lists that read. -/
namespace Go.Proofs.YtiblpnadninmbaaGreatDoor
open Go.RowKit Go.Shelf
attribute [local go_sem] Oper.semAt_some

theorem wo_take {P : List Pe} {id : Int} {k : Nat} (h : k < P.length) : woD (P.take (k + 1)) id = woD (P.take k) id ++ (if (P.getD k pe0).id = id then [] else [P.getD k pe0]) := by
  rw [take_atN (d := pe0) h]
  unfold woD
  rw [List.filter_append]
  congr 1
  by_cases hx : (P.getD k pe0).id = id
  · rw [if_pos hx, List.filter_cons_of_neg (by simpa using hx)]; rfl
  · rw [if_neg hx, List.filter_cons_of_pos (by simpa using hx)]; rfl
set_option maxHeartbeats 4000000 in
set_option maxRecDepth 100000 in
theorem rwo_any (now room id : Int) (A : Option Addr) (n c : Nat) (P : List Pe) (Q : Option Addr) (d : Nat) (w : World) (hl : P.length ≤ 1048576) (hr : Rd w Q (P.flatMap pec)) :
    Calls Tryz.prog 62 #[rtv now room A n c Q P.length d, .int .i64 id] w fun e w' => ∃ Q' d', e = .returned (rtv now room A n c Q' (woD P id).length d') ∧ Rd w' Q' ((woD P id).flatMap pec) ∧ (∀ a, Q' = some a → w.heap.size ≤ a.block ∧ a.block < w'.heap.size) ∧ Below w.heap.size w w' := by
  have HR := Lib.hid hr
  clear hr
  obtain ⟨il, hil⟩ : ∃ il, woD P id = il := ⟨_, rfl⟩
  have HCL : Hid (woD (P.take P.length) id = il) := Lib.hid (by rw [List.take_length]; exact hil)
  rw [hil]
  clear hil
  unfold rtv
  go_enter Tryz.func62, Tryz.ntmps62
  go_upto_region 1 with fail
  refine name_world fun V hV => ?_
  have HB0 : Hid (V.heap[w.heap.size]? = some (.cells #[.int .i64 now, .int .i64 room, .slice A n c, .slice Q P.length d] 35 (0, 0))) := Lib.hid (by rw [hV]; exact box_alloc (heap_alloc_new _ _) _)
  have HB1 : Hid (V.heap[w.heap.size + 1]? = some (.cells #[.int .i64 0, .int .i64 0, .slice none 0 0, .slice none 0 0] 35 (0, 0))) := Lib.hid (by rw [hV]; exact heap_new_at _ (by simp))
  have HBV : Hid (Below w.heap.size w V) := Lib.hid (by rw [hV]; exact ((Below.refl _ _).alloc (Nat.le_refl _) _).alloc (by simp) _)
  clear hV
  obtain ⟨x0, y0⟩ := box_rules HB0.out
  have l1 := box_lt HB1.out
  go_upto_region 3 with fail
  go_loopw [5, 11] (fun o i wr => ∃ (k : Nat) (l : List Pe) (B : Option Addr) (cp : Nat), k ≤ P.length ∧ l.length ≤ k ∧ i = .int .i64 k ∧ o = .slice B l.length cp ∧ Hid (l = woD (P.take k) id) ∧
    Hid (wr.ownsRow (w.heap.size + 2) 136 2 (.slice B l.length cp) l.length (l.flatMap pec)) ∧
    Hid (wr.heap[w.heap.size]? = some (.cells #[.int .i64 now, .int .i64 room, .slice A n c, .slice Q P.length d] 35 (0, 0))) ∧ Hid (wr.heap[w.heap.size + 1]? = some (.cells #[.int .i64 0, .int .i64 0, .slice none 0 0, .slice none 0 0] 35 (0, 0))) ∧ Hid (Below w.heap.size w wr)) (fun _ i _ => P.length - (intOf i).toNat)
  case atStart => exact ⟨0, [], none, 0, by omega, by simp, rfl, rfl, Lib.hid rfl, Lib.hid (own_nilK _ _ _ _), HB0, HB1, HBV⟩
  case round =>
    obtain ⟨k, l, B, cp, hk, hlk, rfl, rfl, HE, HOr, HC0, HC1, HBr⟩ := hrel
    clear x0 y0 HB0 HB1 HBV
    have HL1 := Lib.hid (box_lt HC1.out)
    by_cases hlt : k < P.length
    · obtain ⟨a, x, rfl, hx, g0, g1⟩ := (HR.out.below HBr.out).peAt hlt
      have HS := Lib.hid (wo_take (id := id) hlt)
      rw [hx] at HS
      clear hx
      obtain ⟨d0, d1⟩ := x
      dsimp only at *
      go_upto_region 5 with fail
      refine name_world fun U hU => ?_
      have hbu : Below wr.heap.size wr U := by rw [hU]; exact (Below.refl _ _).alloc (Nat.le_refl _) _
      have HX : Hid (U.heap[wr.heap.size]? = some (.cells #[.int .i64 d0, .int .i64 d1] 136 (0, 0))) := Lib.hid (by rw [hU]; exact heap_alloc_new _ _)
      have HOu := Lib.hid (own_belowK HOr.out hbu)
      have HCu0 := Lib.hid (box_keep HC0.out hbu)
      have HCu1 := Lib.hid (box_keep HC1.out hbu)
      have HBu := Lib.hid (HBr.out.trans (hbu.mono HBr.out.size))
      have lc := box_lt HCu1.out
      clear hU hbu g0 g1 HOr HC0 HC1 HBr HL1
      generalize wr.heap.size = bx at *
      obtain ⟨xx, xy⟩ := box_rules HX.out
      by_cases he : d0 = id
      · rw [if_pos he] at HS
        have he2 : (d0 != id) = false := by simpa using he
        have HE3 : Hid (l = woD (P.take (k + 1)) id) := Lib.hid (by rw [HS.out, HE.out, List.append_nil])
        clear HS HE he
        go_wp2
        refine ⟨⟨k + 1, l, B, cp, hlt, by omega, by go_num, rfl, HE3, HOu, HCu0, HCu1, HBu⟩, ?_⟩
        simp [intOf]; omega
      · rw [if_neg he] at HS
        have he2 : (d0 != id) = true := by simpa using he
        have HE3 : Hid (l ++ [⟨d0, d1⟩] = woD (P.take (k + 1)) id) := Lib.hid (by rw [HS.out, HE.out])
        clear HS HE he
        go_wp2_with (at_builtin; go_loud (refine wp_appK rfl _ _ skc_pe (by decide) rfl (own_allocK HOu.out _) rfl (by omega) (by simp; omega) U.heap.size [.int .i64 d0, .int .i64 d1] rfl rfl (fun j u hu => new_cell hu) rfl ?_); intro P4 c4 w4 ho4 hg4 hat4; have S4 := Lib.hid (grown_step HOu.out hg4))
        refine ⟨⟨k + 1, l ++ [⟨d0, d1⟩], P4, c4, hlt, by rw [List.length_append]; show l.length + 1 ≤ _; omega, by go_num, by rw [List.length_append]; rfl, HE3, Lib.hid ?_, Lib.hid (S4.out.low HCu0.out (by omega)), Lib.hid (S4.out.low HCu1.out (by omega)), Lib.hid (S4.out.below HBu.out (by omega) HBu.out.size)⟩, ?_⟩
        · rw [List.length_append, List.flatMap_append]; exact ho4
        · simp [intOf]; omega
    · obtain rfl : k = P.length := by omega
      have HNL : Hid (il = l) := Lib.hid (by rw [HE.out, HCL.out])
      obtain ⟨x0, y0⟩ := box_rules HC0.out
      clear hlt HCL HE
      have l0 := box_lt HC0.out
      go_upto_region 9 with fail
      refine name_world fun U hU => ?_
      have HU0 : Hid (U.heap[w.heap.size]? = some (.cells #[.int .i64 now, .int .i64 room, .slice A n c, .slice B l.length cp] 35 (0, 0))) := Lib.hid (by rw [hU]; exact box_set (i := 3) HC0.out _)
      have HU1 : Hid (U.heap[w.heap.size + 1]? = some (.cells #[.int .i64 0, .int .i64 0, .slice none 0 0, .slice none 0 0] 35 (0, 0))) := Lib.hid (by rw [hU]; exact box_far HC1.out (Nat.succ_ne_self _) _)
      have HUR : Hid (U.ownsRow (w.heap.size + 2) 136 2 (.slice B l.length cp) l.length (l.flatMap pec)) := Lib.hid (by
        rw [hU]
        exact own_setK HOr.out (own_low HOr.out (show w.heap.size < w.heap.size + 2 by omega)) _)
      have HUB : Hid (Below w.heap.size w U) := Lib.hid (by rw [hU]; exact HBr.out.setCell (Nat.le_refl _) _)
      have HN3 : Hid (∀ b, B = some b → w.heap.size + 2 ≤ b.block ∧ b.block < U.heap.size) := Lib.hid (fun b hb => by
        subst hb
        exact ⟨(own_blockK HUR.out rfl).1, (own_blockK HUR.out rfl).2.1⟩)
      clear hU x0 y0 HOr HC0 HC1 HBr HL1
      obtain ⟨x0, y0⟩ := box_rules HU0.out
      obtain ⟨x1, y1⟩ := box_rules HU1.out
      go_wp2
      refine name_post fun V4 hV4 => ?_
      obtain ⟨hE4, hT4⟩ := set4 HU1.out rfl (.int .i64 now) (.int .i64 room) (.slice A n c) (.slice B l.length cp)
      rw [← hV4] at hE4 hT4
      have HT4 := Lib.hid hT4
      obtain ⟨vx, vy⟩ := box_rules hE4
      clear hV4 hT4
      refine bodyPost_ret (v := .agg #[.int .i64 now, .int .i64 room, .slice A n c, .slice B l.length cp]) (by simp [results, Tryz.f62, go_sem, vx]) rfl ?_
      refine ⟨B, cp, by rw [HNL.out], ?_, fun b hb => ⟨Nat.le_trans (Nat.le_add_right _ 2) (HN3.out b hb).1, Nat.lt_of_lt_of_le (HN3.out b hb).2 HT4.out.size⟩, HT4.out.base HUB.out (fun k hk => ?_) HUB.out.size⟩
      · rw [HNL.out]
        exact (own_rdK HUR.out).tn HT4.out (fun b hb hm => by have h9 := HN3.out b hb; have h8 := List.mem_singleton.1 hm; omega)
      · have h8 := List.mem_singleton.1 hk
        omega
end Go.Proofs.YtiblpnadninmbaaGreatDoor
/- Package vergeref09: the walks of Start, Stop. Conditions: lists that read. -/
namespace Go.Proofs.YtiblpnadninmbaaGreatDoor
open Go.RowKit Go.Shelf
attribute [local go_sem] Oper.semAt_some
/-- What hands back timers of the document's, and a word. -/
def RetRt (now room : Int) (L : List Du) (P : List Pe) (code : Int) (A Q : Option Addr) (w : World) (e : Ending) (w' : World) : Prop :=
  ∃ A' c' Q' d', e = .returned (.tuple #[rtv now room A' L.length c' Q' P.length d', .int .i64 code]) ∧ Rd w' A' (L.flatMap duc) ∧ Rd w' Q' (P.flatMap pec) ∧
    (∀ a, A' = some a → A = some a ∨ (w.heap.size ≤ a.block ∧ a.block < w'.heap.size)) ∧ (∀ a, Q' = some a → Q = some a ∨ (w.heap.size ≤ a.block ∧ a.block < w'.heap.size)) ∧ Below w.heap.size w w'
/-- A row that is old or new, off two boxes between. -/
theorem off_two {w : World} {n : Nat} {A A' : Option Addr} (hA : ∀ a, A = some a → a.block < w.heap.size) (h : ∀ a, A' = some a → A = some a ∨ (w.heap.size + n ≤ a.block)) : ∀ a, A' = some a → a.block < w.heap.size ∨ w.heap.size + n ≤ a.block :=
  fun a ha => (h a ha).imp (hA a) (fun h9 => h9)
/-- The call's start: its boxes. -/
structure TrS (w V : World) (now room : Int) (A : Option Addr) (n c : Nat) (Q : Option Addr) (m d : Nat) : Prop where
  b0 : V.heap[w.heap.size]? = some (.cells #[.int .i64 now, .int .i64 room, .slice A n c, .slice Q m d] 35 (0, 0))
  b1 : V.heap[w.heap.size + 1]? = some (.cells #[.int .i64 0, .int .i64 0, .slice none 0 0, .slice none 0 0] 35 (0, 0))
  bel : Below w.heap.size w V
  sz : w.heap.size + 2 ≤ V.heap.size
theorem TrS.below {w V X : World} {now room : Int} {A : Option Addr} {n c : Nat} {Q : Option Addr} {m d : Nat} (h : TrS w V now room A n c Q m d) (hb : Below V.heap.size V X) : TrS w X now room A n c Q m d :=
  ⟨box_keep h.b0 hb, box_keep h.b1 hb, h.bel.trans (hb.mono h.bel.size), Nat.le_trans h.sz hb.size⟩
theorem TrS.mk0 (w : World) (now room : Int) (A : Option Addr) (n c : Nat) (Q : Option Addr) (m d : Nat) :
    TrS w ((w.alloc (.cells #[.int .i64 now, .int .i64 room, .slice A n c, .slice Q m d] 35 (0, 0))).alloc (.cells #[.int .i64 0, .int .i64 0, .slice none 0 0, .slice none 0 0] 35 (0, 0))) now room A n c Q m d :=
  ⟨box_alloc (heap_alloc_new _ _) _, heap_new_at _ (by simp), ((Below.refl _ _).alloc (Nat.le_refl _) _).alloc (by simp) _, by simp⟩
/-- The wheel inside is a new one. -/
theorem TrS.wheel {w V : World} {now room : Int} {A : Option Addr} {n c : Nat} {Q : Option Addr} {m d : Nat} (h : TrS w V now room A n c Q m d) (now' room' : Int) (A' : Option Addr) (n' c' : Nat) :
    TrS w (((V.setCell ⟨w.heap.size, 0, none⟩ (.int .i64 now')).setCell ⟨w.heap.size, 1, none⟩ (.int .i64 room')).setCell ⟨w.heap.size, 2, none⟩ (.slice A' n' c')) now' room' A' n' c' Q m d ∧
    Tn [w.heap.size] V (((V.setCell ⟨w.heap.size, 0, none⟩ (.int .i64 now')).setCell ⟨w.heap.size, 1, none⟩ (.int .i64 room')).setCell ⟨w.heap.size, 2, none⟩ (.slice A' n' c')) := by
  obtain ⟨h1, h2⟩ := set3 h.b0 (.int .i64 now') (.int .i64 room') (.slice A' n' c')
  exact ⟨⟨h1, h2.box h.b1 (by simp), h2.base h.bel (fun k hk => by obtain rfl := List.mem_singleton.1 hk; exact Nat.le_refl _) h.bel.size, Nat.le_trans h.sz h2.size⟩, h2⟩
/-- The result stored. -/
theorem TrS.done {w V : World} {now room : Int} {A : Option Addr} {n c : Nat} {Q : Option Addr} {m d : Nat} (h : TrS w V now room A n c Q m d) (now' room' : Int) (A' : Option Addr) (n' c' : Nat) (Q' : Option Addr) (m' d' : Nat) :
    ((((V.setCell ⟨w.heap.size + 1, 0, none⟩ (.int .i64 now')).setCell ⟨w.heap.size + 1, 1, none⟩ (.int .i64 room')).setCell ⟨w.heap.size + 1, 2, none⟩ (.slice A' n' c')).setCell ⟨w.heap.size + 1, 3, none⟩ (.slice Q' m' d')).heap[w.heap.size + 1]? = some (.cells #[.int .i64 now', .int .i64 room', .slice A' n' c', .slice Q' m' d'] 35 (0, 0)) ∧
    Below w.heap.size w ((((V.setCell ⟨w.heap.size + 1, 0, none⟩ (.int .i64 now')).setCell ⟨w.heap.size + 1, 1, none⟩ (.int .i64 room')).setCell ⟨w.heap.size + 1, 2, none⟩ (.slice A' n' c')).setCell ⟨w.heap.size + 1, 3, none⟩ (.slice Q' m' d')) ∧
    Tn [w.heap.size + 1] V ((((V.setCell ⟨w.heap.size + 1, 0, none⟩ (.int .i64 now')).setCell ⟨w.heap.size + 1, 1, none⟩ (.int .i64 room')).setCell ⟨w.heap.size + 1, 2, none⟩ (.slice A' n' c')).setCell ⟨w.heap.size + 1, 3, none⟩ (.slice Q' m' d')) := by
  obtain ⟨h1, h2⟩ := set4 h.b1 rfl (.int .i64 now') (.int .i64 room') (.slice A' n' c') (.slice Q' m' d')
  exact ⟨h1, h2.base h.bel (fun k hk => by obtain rfl := List.mem_singleton.1 hk; omega) h.bel.size, h2⟩
theorem TrS.far {w V X : World} {now room : Int} {A : Option Addr} {n c : Nat} {Q : Option Addr} {m d b : Nat} (h : TrS w V now room A n c Q m d) (ht : Tn [b] V X) (hb : w.heap.size + 2 ≤ b) : TrS w X now room A n c Q m d :=
  ⟨ht.box h.b0 (by simp; omega), ht.box h.b1 (by simp; omega), ht.base h.bel (fun k hk => by obtain rfl := List.mem_singleton.1 hk; omega) h.bel.size, Nat.le_trans h.sz ht.size⟩
/-- A row, off both boxes. -/
theorem Rd.two {w V X : World} {A : Option Addr} {vs : List Value} {F : List Nat} (h : Rd V A vs) (ht : Tn F V X) (ho : ∀ a, A = some a → a.block < w.heap.size ∨ w.heap.size + 2 ≤ a.block) (hF : ∀ b ∈ F, b = w.heap.size ∨ b = w.heap.size + 1) : Rd X A vs :=
  h.tn ht fun a ha hm => by have h1 := ho a ha; have h2 := hF _ hm; omega
end Go.Proofs.YtiblpnadninmbaaGreatDoor
/- Package vergeref09: the walks of Start, Stop. Conditions: lists that read. -/
namespace Go.Proofs.YtiblpnadninmbaaGreatDoor
open Go.RowKit Go.Shelf
attribute [local go_sem] Oper.semAt_some

set_option maxHeartbeats 4000000 in
set_option maxRecDepth 100000 in
theorem rstart_any (now : Int) (room : Nat) (id a : Int) (L : List Du) (A : Option Addr) (c : Nat) (P : List Pe) (Q : Option Addr) (d : Nat) (w : World) (hL : L.length ≤ 1048576) (hr : Rd w A (L.flatMap duc)) (hq : Rd w Q (P.flatMap pec)) (hA : ∀ a, A = some a → a.block < w.heap.size) (hQ : ∀ a, Q = some a → a.block < w.heap.size) :
    Calls Tryz.prog 38 #[rtv now room A L.length c Q P.length d, .int .i64 id, .int .i64 a] w (RetRt now room (insL room L id a) P (insC room L id a) A Q w) := by
  have HR := Lib.hid hr; have HQ := Lib.hid hq; have HA := Lib.hid hA; have HQl := Lib.hid hQ
  have f1 := Lib.hid (fun X (hX : Rd X A (L.flatMap duc)) => rins_any now room id a L A c X hL hX)
  unfold RetRw rwv at f1
  unfold rtv
  generalize insL room L id a = L2 at *
  generalize insC room L id a = cc at *
  clear hr hq hA hQ
  go_enter Tryz.func38, Tryz.ntmps38
  go_upto_region 1 with fail
  refine name_world fun V hV => ?_
  have HS0 : Hid (TrS w V now room A L.length c Q P.length d) := Lib.hid (by rw [hV]; exact TrS.mk0 ..)
  clear hV
  obtain ⟨x0, y0⟩ := box_rules HS0.out.b0
  have l0 := box_lt HS0.out.b0
  obtain ⟨x1, y1⟩ := box_rules HS0.out.b1
  have l1 := box_lt HS0.out.b1
  go_upto_region 2 with (go_at_call 58; (with_reducible refine (f1.out _ (HR.out.below HS0.out.bel)).mono ?_); rintro e w5 ⟨A5, c5, rfl, hr5, ho5, hb5⟩; have HR5 := Lib.hid hr5; have HO5 := Lib.hid ho5; have HS5 := Lib.hid (HS0.out.below hb5); have HV5 := Lib.hid hb5.size; clear hr5 ho5 hb5)
  refine name_world fun U hU => ?_
  have hbU : Below w5.heap.size w5 U := by rw [hU]; exact (Below.refl _ _).alloc (Nat.le_refl _) _
  have HX : Hid (U.heap[w5.heap.size]? = some (.cells #[.int .i64 now, .int .i64 room, .slice A5 L2.length c5] 32 (0, 0))) := Lib.hid (by rw [hU]; exact heap_alloc_new _ _)
  have HSU := Lib.hid (HS5.out.below hbU)
  have HRU := Lib.hid (HR5.out.below hbU)
  have HOf : Hid (∀ a, A5 = some a → a.block < w.heap.size ∨ w.heap.size + 2 ≤ a.block) := Lib.hid (off_two HA.out (fun a ha => (HO5.out a ha).imp (fun h => h) (fun h => Nat.le_trans HS0.out.sz h.1)))
  have HOg : Hid (∀ a, A5 = some a → A = some a ∨ (w.heap.size ≤ a.block ∧ a.block < U.heap.size)) := Lib.hid (fun a ha => (HO5.out a ha).imp (fun h => h) (fun h => ⟨Nat.le_trans HS0.out.bel.size h.1, Nat.lt_of_lt_of_le h.2 hbU.size⟩))
  clear hU hbU x0 y0 x1 y1 l0 l1
  generalize w5.heap.size = b8 at *
  obtain ⟨x8, y8⟩ := box_rules HX.out
  have l8 := box_lt HX.out
  obtain ⟨x0, y0⟩ := box_rules (HSU.out).b0
  have l0 := box_lt (HSU.out).b0
  obtain ⟨x1, y1⟩ := box_rules (HSU.out).b1
  have l1 := box_lt (HSU.out).b1
  go_upto_region 3 with fail
  refine name_world fun X hX => ?_
  obtain ⟨hSX, hTX⟩ := HSU.out.wheel now room A5 L2.length c5
  rw [← hX] at hSX hTX
  have HSX := Lib.hid hSX; have HTX := Lib.hid hTX
  clear hX hSX hTX x0 y0 x1 y1 l0 l1 x8 y8 l8
  obtain ⟨x0, y0⟩ := box_rules (HSX.out).b0
  have l0 := box_lt (HSX.out).b0
  obtain ⟨x1, y1⟩ := box_rules (HSX.out).b1
  have l1 := box_lt (HSX.out).b1
  go_wp2
  refine name_post fun V4 hV4 => ?_
  obtain ⟨hE4, hB4, hT4⟩ := TrS.done (HSX.out) (now) room (A5) (L2.length) (c5) (Q) (P.length) (d)
  rw [← hV4] at hE4 hB4 hT4
  obtain ⟨vx, vy⟩ := box_rules hE4
  clear hV4
  refine bodyPost_ret (v := .tuple #[.agg #[.int .i64 (now), .int .i64 room, .slice (A5) (L2.length) (c5), .slice (Q) (P.length) (d)], .int .i64 (cc)]) (by simp [results, Tryz.f38, go_sem, vx]) rfl ?_
  have hQo : ∀ a, Q = some a → a.block < w.heap.size ∨ w.heap.size + 2 ≤ a.block := fun a ha => .inl (HQl.out a ha)
  refine ⟨A5, c5, Q, d, rfl, (HRU.out.two HTX.out HOf.out (fun b hb => .inl (List.mem_singleton.1 hb))).two hT4 HOf.out (fun b hb => .inr (List.mem_singleton.1 hb)), HQ.out.below hB4, fun a ha => (HOg.out a ha).imp (fun h => h) (fun h => ⟨h.1, ?_⟩), fun a ha => .inl ha, hB4⟩
  have := HTX.out.size; have := hT4.size; omega
end Go.Proofs.YtiblpnadninmbaaGreatDoor

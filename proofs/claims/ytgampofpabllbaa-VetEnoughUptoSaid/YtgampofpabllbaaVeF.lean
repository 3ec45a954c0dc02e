/- Package kern: the walk of New. Conditions: right tasks. -/
import Derived.Test.YtgampofpabllbaaVeE
namespace Go.Proofs.Ytgampofpabllbaa
open Go.RowKit Go.Shelf
attribute [local go_sem] Oper.semAt_some

theorem own_put' {w : World} {base : Nat} {e : TypeId} {k n c : Nat} {a : Addr} {vs : List Value} (h : w.ownsRow base e k (.slice (some a) n c) n vs) (m j : Nat) (u : Value) :
    (w.setCell ⟨(a.add m).block, (a.add m).off + j, none⟩ u).ownsRow base e k (.slice (some a) n c) n (vs.set (m + j) u) := by
  refine ⟨by rw [List.length_set]; exact h.1, ?_⟩
  rcases h.2 with ⟨h1, _⟩ | ⟨g, cap, cur, h1, h2, h3, h4, h5, h6, h7⟩
  · cases h1
  · injection h1 with h1 h8 h9
    injection h1 with h1
    subst h1 h9
    have e0 : ((⟨g, 0, none⟩ : Addr).add m) = ⟨g, m, none⟩ := by rw [add_zero_lit, Nat.zero_add]
    rw [e0]
    refine .inr ⟨g, _, cur.setIfInBounds (m + j) u, rfl, h2, ?_, h4, h5, by simpa using h6, ?_⟩
    · have := box_set (i := m + j) h3 u
      exact this
    · rw [Array.toList_setIfInBounds, List.take_set, h7]
theorem own_froz' {w : World} {base : Nat} {e : TypeId} {k n c : Nat} {a : Addr} {vs : List Value} (h : w.ownsRow base e k (.slice (some a) n c) n vs) (m j : Nat) : w.frozen? ⟨(a.add m).block, (a.add m).off + j, none⟩ = false := by
  rcases h.2 with ⟨h1, _⟩ | ⟨g, cap, cur, h1, h2, h3, _⟩
  · cases h1
  · injection h1 with h1
    injection h1 with h1
    subst h1
    rw [add_zero_lit]
    exact (box_rules h3).2 _
theorem own_blk' {w : World} {base : Nat} {e : TypeId} {k n c : Nat} {a : Addr} {vs : List Value} (h : w.ownsRow base e k (.slice (some a) n c) n vs) (m : Nat) : base ≤ (a.add m).block ∧ (Value.slice (some a) n c).ownBlock = some (a.add m).block := by
  rcases h.2 with ⟨h1, _⟩ | ⟨g, cap, cur, h1, h2, h3, _⟩
  · cases h1
  · injection h1 with h1
    injection h1 with h1
    subst h1
    rw [add_zero_lit]
    exact ⟨h2, rfl⟩

theorem own_at' {w : World} {base : Nat} {e : TypeId} {k n c : Nat} {a : Addr} {vs : List Value} (h : w.ownsRow base e k (.slice (some a) n c) n vs) (m : Nat) : (⟨(a.add m).block, (a.add m).off + 0, none⟩ : Addr) = a.add m := by
  rcases h.2 with ⟨h1, _⟩ | ⟨g, cap, cur, h1, h2, h3, _⟩
  · cases h1
  · injection h1 with h1
    injection h1 with h1
    subst h1
    rw [add_zero_lit]
    rfl
theorem own_put1 {w : World} {base : Nat} {e : TypeId} {n c : Nat} {a : Addr} {vs : List Value} (h : w.ownsRow base e 1 (.slice (some a) n c) n vs) (j : Nat) (u : Value) : (w.setCell (a.add j) u).ownsRow base e 1 (.slice (some a) n c) n (vs.set j u) := by
  have hp := own_put' h j 0 u
  rw [own_at' h, Nat.add_zero] at hp
  exact hp
theorem own_froz1 {w : World} {base : Nat} {e : TypeId} {n c : Nat} {a : Addr} {vs : List Value} (h : w.ownsRow base e 1 (.slice (some a) n c) n vs) (j : Nat) : w.frozen? (a.add j) = false := by
  have hp := own_froz' h j 0
  rw [own_at' h] at hp
  exact hp
theorem sl_ktask : SlK Try.prog 58 65 13 120 := SlK.mk' (z := .agg #[.int .u8 0, .int .i64 0, .int .i64 0, .int .i64 0, .int .i64 0, .int .i64 0, .int .i64 0, .int .i64 0, .int .i64 0, .int .i64 0, .slice none 0 0, .int .i64 0, .bool false]) Try.underlying58 (by kernel_rfl) rfl (by decide)
theorem mk16 (w : World) : (Instr.makeSlice 62 (.int .i64 16) (.int .i64 16)).run Try.prog w = .ok (.slice (some ⟨w.heap.size, 0, none⟩) 16 16) (w.alloc (.cells #[.int .i64 0, .int .i64 0, .int .i64 0, .int .i64 0, .int .i64 0, .int .i64 0, .int .i64 0, .int .i64 0, .int .i64 0, .int .i64 0, .int .i64 0, .int .i64 0, .int .i64 0, .int .i64 0, .int .i64 0, .int .i64 0] 3)) := by kernel_rfl
def z16 : List Int := [0, 0, 0, 0, 0, 0, 0, 0, 0, 0, 0, 0, 0, 0, 0, 0]
theorem own_z16 (w : World) : (w.alloc (.cells #[.int .i64 0, .int .i64 0, .int .i64 0, .int .i64 0, .int .i64 0, .int .i64 0, .int .i64 0, .int .i64 0, .int .i64 0, .int .i64 0, .int .i64 0, .int .i64 0, .int .i64 0, .int .i64 0, .int .i64 0, .int .i64 0] 3)).ownsRow w.heap.size 3 1 (.slice (some ⟨w.heap.size, 0, none⟩) 16 16) 16 (z16.map (.int .i64)) :=
  ⟨rfl, .inr ⟨w.heap.size, 16, _, rfl, Nat.le_refl _, heap_alloc_new w _, Nat.le_refl _, by unfold maxLen; omega, rfl, rfl⟩⟩
/-- What New's memory holds. -/
structure KnI (w w1 : World) (aC : Addr) (k : Nat) (cs : List Int) (A1 : Option Addr) (c1 : Nat) (rows : List Value) (wx : World) : Prop where
  box : wx.heap[w1.heap.size]? = some (.cells #[.slice A1 k c1, .pointer none] 61 (0, 0))
  row : wx.ownsRow (w1.heap.size + 1) 65 13 (.slice A1 k c1) k rows
  ce : wx.ownsRow (w1.heap.size + 1) 3 1 (.slice (some aC) 16 16) 16 (cs.map (.int .i64))
  cl : cs.length = 16
  cp : ∀ x ∈ cs, 0 ≤ x ∧ x ≤ 63
  low : Below w.heap.size w wx
  bl : w.heap.size ≤ w1.heap.size
section
variable {w w1 : World} {aC : Addr} {k : Nat} {cs : List Int} {A1 : Option Addr} {c1 : Nat} {rows : List Value} {wx w3 : World}
theorem KnI.below (h : KnI w w1 aC k cs A1 c1 rows wx) (hb : Below wx.heap.size wx w3) : KnI w w1 aC k cs A1 c1 rows w3 :=
  ⟨box_keep h.box hb, own_belowK h.row hb, own_belowK h.ce hb, h.cl, h.cp, h.low.trans (hb.mono h.low.size), h.bl⟩
theorem KnI.app (h : KnI w w1 aC k cs A1 c1 rows wx) {o : Obj} {A3 : Option Addr} {c3 : Nat} {us : List Value} (ho : w3.ownsRow (w1.heap.size + 1) 65 13 (.slice A3 (k + 1) c3) (k + 1) (rows ++ us)) (hg : (wx.alloc o).grownBy w3 (Value.slice A1 k c1).ownBlock) :
    KnI w w1 aC (k + 1) cs A3 c3 (rows ++ us) (w3.setCell ⟨w1.heap.size, 0, none⟩ (.slice A3 (k + 1) c3)) := by
  have S := grown_step h.row hg
  have bl := h.bl
  refine ⟨box_set (i := 0) (S.low h.box (Nat.lt_succ_self _)) _, own_setK ho (own_low ho (Nat.lt_succ_self _)) _, own_setK (S.row h.ce (by decide)) (own_low h.ce (Nat.lt_succ_self _)) _, h.cl, h.cp, (S.below h.low (by omega) h.low.size).setCell (p := ⟨w1.heap.size, 0, none⟩) bl _, bl⟩
theorem KnI.put (h : KnI w w1 aC k cs A1 c1 rows wx) (j : Nat) {v : Int} (hv : 0 ≤ v ∧ v ≤ 63) : KnI w w1 aC k (cs.set j v) A1 c1 rows (wx.setCell (aC.add j) (.int .i64 v)) := by
  obtain ⟨b1, b2⟩ := own_blk' h.ce j
  have bl := h.bl
  refine ⟨box_far h.box (p := aC.add j) (by omega) _, own_setK (p := aC.add j) h.row (own_apart h.ce h.row (by decide) b2) _, ?_, by rw [List.length_set]; exact h.cl, fun x hx => ?_, h.low.setCell (p := aC.add j) (by omega) _, bl⟩
  · rw [List.map_set]
    exact own_put1 h.ce j _
  · rcases List.mem_or_eq_of_mem_set hx with h1 | h1
    · exact h.cp x h1
    · rw [h1]; exact hv
end
set_option maxHeartbeats 4000000 in
set_option maxRecDepth 100000 in
theorem knew_any (ts : List Tk) (sw : Int) (h1 : 1 ≤ ts.length ∧ ts.length ≤ 32) (hts : ∀ x ∈ ts, TkIn x sw) (hnd : (ts.map (·.prio)).Nodup) (A : Option Addr) (c : Nat) (w : World) (hr : Rd w A (ts.flatMap tkc)) :
    Calls Try.prog 6 #[.slice A ts.length c] w (RetP 0 w) := by
  have c1 := Lib.hid (fun w hr => kcheck_any ts sw h1 hts hnd A c w hr)
  have c2 := Lib.hid (fun l hl hp A c w hr => ceil_new l hl hp A c w hr)
  have Hr := Lib.hid hr
  have HT : Hid (∀ k, k < ts.length → TkIn (ts.getD k tk0) sw) := Lib.hid (fun k hk => hts _ (by simp [List.getD, hk]))
  have hmk := mk16
  obtain ⟨n1, n2⟩ := h1
  clear hr hts hnd
  unfold RetP at *
  go_enter Try.func6, Try.ntmps6
  go_wp2_with fail
  refine (c1.out _ Hr.out).mono ?_
  rintro e w1 ⟨rfl, hb⟩
  have HB := Lib.hid hb
  clear hb c1
  go_upto_region 6 with fail
  refine name_world fun V hV => ?_
  have HI : Hid (KnI w w1 ⟨w1.heap.size + 1, 0, none⟩ 0 z16 none 0 [] V) := Lib.hid (by
    rw [hV]
    have hz := own_z16 (w1.alloc (.cells #[.slice none 0 0, .pointer none] 61))
    rw [show (w1.alloc (.cells #[.slice none 0 0, .pointer none] 61)).heap.size = w1.heap.size + 1 by simp] at hz
    exact ⟨box_alloc (heap_alloc_new _ _) _, own_nilK _ _ _ _, hz, rfl, by decide, (HB.out.alloc HB.out.size _).alloc (by have := HB.out.size; simp; omega) _, HB.out.size⟩)
  have lV : w1.heap.size + 1 < V.heap.size := by rw [hV]; simp
  clear hV hmk
  generalize hha : (⟨w1.heap.size + 1, 0, none⟩ : Addr) = aC at *
  clear hha lV
  go_wp2
  go_loopw [20] (fun i wr => ∃ (k : Nat) (cs : List Int) (A1 : Option Addr) (d1 : Nat) (rows : List Value), k ≤ ts.length ∧ i = .int .i64 k ∧ Hid (KnI w w1 aC k cs A1 d1 rows wr)) (fun i _ => ts.length - (intOf i).toNat)
  case atStart => exact ⟨0, _, none, 0, [], by omega, rfl, HI⟩
  case round =>
    obtain ⟨k, cs, A1, d1, rows, hk, rfl, HIr⟩ := hrel
    clear HI
    by_cases hlt : k < ts.length
    · obtain ⟨a, x, rfl, hx, ⟨z0, z1, z2, z3⟩, z4, z5, z6, z7, z8, z9⟩ := (Hr.out.below HIr.out.low).tkAt hlt
      have hT := HT.out k hlt
      rw [hx] at hT
      have hp := hT.prio
      have hlk := hT.lock
      clear hx hT
      obtain ⟨x0, x1, x2, x3, x4, x5, x6, x7, x8, x9⟩ := x
      dsimp only at *
      go_upto_region 9 with fail
      refine name_world fun U hU => ?_
      have HX : Hid (U.heap[wr.heap.size]? = some (.cells #[.int .u8 x0, .int .i64 x1, .int .i64 x2, .int .i64 x3, .int .i64 x4, .int .i64 x5, .int .i64 x6, .int .i64 x7, .int .i64 x8, .int .i64 x9] 44 (0, 0))) := Lib.hid (by rw [hU]; exact heap_alloc_new _ _)
      have HIu := Lib.hid (HIr.out.below (show Below wr.heap.size wr U by rw [hU]; exact (Below.refl _ _).alloc (Nat.le_refl _) _))
      clear hU z0 z1 z2 z3 z4 z5 z6 z7 z8 z9 HIr
      generalize wr.heap.size = bx at *
      obtain ⟨xx, xy⟩ := box_rules HX.out
      obtain ⟨kx, ky⟩ := box_rules HIu.out.box
      have lx := box_lt HX.out
      have lk := box_lt HIu.out.box
      have hbn : bx ≠ w1.heap.size := fun e => by have h1 := HX.out; rw [e, HIu.out.box] at h1; cases h1
      have HBn := Lib.hid hbn
      clear hbn
      go_region_law ((refine step_appK rfl _ _ sl_ktask (by decide) rfl (own_drewK (own_allocK HIu.out.row _)) rfl (by omega) (by simp; omega) U.heap.size [.int .u8 x0, .int .i64 x1, .int .i64 x2, .int .i64 x3, .int .i64 x4, .int .i64 x5, .int .i64 x6, .int .i64 x7, .int .i64 x8, .int .i64 x9, .slice none 0 0, .int .i64 0, .bool false] rfl rfl (fun j u hu => new_cell hu) rfl ?_; intro A3 c3 w3 ho3 hg3 _; have G3 := Lib.hid (grown_step HIu.out.row (grown_undrew hg3)); have HX3 := Lib.hid (G3.out.other HX.out (by decide)); have HQ3 := Lib.hid (G3.out.low HIu.out.box (Nat.lt_succ_self _)); have HJ := Lib.hid (HIu.out.app ho3 (grown_undrew hg3)); clear ho3 hg3; obtain ⟨hx3, hy3⟩ := box_rules HX3.out; obtain ⟨hqx3, hqy3⟩ := box_rules HQ3.out))
      all_goals
        go_upto_region 10 with fail
        refine name_world fun U2 hU2 => ?_
        have HJ2 : Hid (KnI w w1 aC (k + 1) cs A3 c3 _ U2) := Lib.hid (by rw [hU2]; exact HJ.out)
        have HX4 : Hid (U2.heap[bx]? = some (.cells #[.int .u8 x0, .int .i64 x1, .int .i64 x2, .int .i64 x3, .int .i64 x4, .int .i64 x5, .int .i64 x6, .int .i64 x7, .int .i64 x8, .int .i64 x9] 44 (0, 0))) := Lib.hid (by rw [hU2]; exact box_far HX3.out (p := ⟨w1.heap.size, 0, none⟩) HBn.out _)
        clear hU2 HJ HX3 HQ3 G3 hx3 hy3 hqx3 hqy3 xx xy kx ky HIu HX lx lk
        obtain ⟨xx, xy⟩ := box_rules HX4.out
        have lx := box_lt HX4.out
        by_cases h0 : 0 ≤ x7
        · obtain ⟨j, rfl⟩ : ∃ j : Nat, x7 = (j : Int) := ⟨x7.toNat, by omega⟩
          have hj : j < cs.length := by rw [HJ2.out.cl]; omega
          have hj16 : (j : Int) < 16 := hlk
          obtain ⟨a', ha, hc⟩ := (own_rdK HJ2.out.ce).int hj
          cases ha
          have fz := own_froz1 HJ2.out.ce j
          have hy := HJ2.out.cp (cs.getD j 0) (by simp [List.getD, hj])
          generalize cs.getD j 0 = y at *
          have HPt := Lib.hid (HJ2.out.put j (v := if y < x1 then x1 else y) (by split <;> omega))
          go_upto_region 11 with fail
          refine still_tail 12 (by kernel_rfl) (by kernel_rfl) ?_
          simp only [List.take_succ_cons, List.take_zero, List.drop_succ_cons, List.drop_zero]
          repeat still_step
          refine wpStill_nil ?_
          go_wp2_with fail
          refine ⟨⟨k + 1, _, A3, c3, _, hlt, by go_num, Lib.hid (HPt.out.below (bdrewN (Below.refl _ _) 1))⟩, ?_⟩
          simp [intOf]; omega
        · go_wp2
          refine ⟨⟨k + 1, _, A3, c3, _, hlt, by go_num, HJ2⟩, ?_⟩
          simp [intOf]; omega
    · obtain rfl : k = ts.length := by omega
      have f2 := c2.out cs (by rw [HIr.out.cl]; omega) HIr.out.cp (some aC) 16 wr (own_rdK HIr.out.ce)
      rw [HIr.out.cl] at f2
      have F2 := Lib.hid f2
      clear f2 c2
      go_wp2_with fail
      refine F2.out.mono ?_
      rintro e w3 ⟨p, rfl, hp, hb⟩
      have HBx := Lib.hid (box_keep HIr.out.box hb)
      have HB3 := Lib.hid (HIr.out.low.trans (hb.mono HIr.out.low.size))
      have hbl := HIr.out.bl
      have lk := box_lt HBx.out
      obtain ⟨kx, ky⟩ := box_rules HBx.out
      clear hb F2 hp HIr
      go_wp2
      go_ret2
      exact ⟨_, rfl, by simp, HB3.out.setCell (p := ⟨w1.heap.size, 1, none⟩) hbl _⟩
end Go.Proofs.Ytgampofpabllbaa

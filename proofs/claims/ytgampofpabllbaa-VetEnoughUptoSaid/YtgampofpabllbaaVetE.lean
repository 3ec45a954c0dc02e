/- Package vet: the walks of line and thread. Conditions: none. -/
import Derived.Test.YtgampofpabllbaaVetD
namespace Go.Proofs.Ytgampofpabllbaa
open Go.RowKit Go.Shelf

theorem new_cell2 {w : World} {o : Obj} {cs : Array Value} {t : TypeId} {j : Nat} {u : Value} (h : cs.toList[j]? = some u) : ((w.alloc o).alloc (.cells cs t)).cell? ⟨w.heap.size + 1, j, none⟩ = some u := by
  have := new_cell (w := w.alloc o) (t := t) h
  simpa using this
theorem irqWhy_one (x : Ln) : irqWhy [x] = if lnOk x then 0 else 1 := by
  unfold irqWhy lnOk lnMade stOk prOk
  simp
theorem botWhy_one (x : Th) : botWhy [x] = thWhy x := by
  unfold botWhy thWhy thOk thMade svOk dpOk
  simp
theorem mul_in {a b : Int} (h1 : 1 ≤ a) (h2 : a ≤ 64) (h3 : 1 ≤ b) (h4 : b ≤ 1099511627776) : wrap64 (a * b) = a * b := by
  have k1 : 0 ≤ a * b := Int.mul_nonneg (by omega) (by omega)
  have k2 : a * b ≤ 64 * 1099511627776 := Int.mul_le_mul h2 h4 (by omega) (by omega)
  exact Go.IntWalk.wrap64_in _ (by omega)
set_option maxHeartbeats 1000000 in
theorem line_any (x : Ln) (w : World) : Calls Try.prog 35 #[lnv x] w fun e w' => e = .returned (.int .i64 (lnWhy x)) ∧ Below w.heap.size w w' := by
  have f1 : Hid (∀ A c w, Rd w A (lnc x) → Calls Try.prog 7 #[.slice A 1 c] w (RetQ [x] w)) := Lib.hid (fun A c w hr => irq_new [x] (by simp) A c w (by simpa using hr))
  have HY := Lib.hid (irqWhy_one x)
  unfold RetQ at f1
  rw [HY.out] at f1
  have HW : Hid (lnWhy x = if lnOk x then (if 1099511627776 < x.many * x.top then 10 else 0) else 1) := Lib.hid rfl
  have HK : Hid (lnOk x = true → (1 ≤ x.many ∧ x.many ≤ 64) ∧ (1 ≤ x.top ∧ x.top ≤ 1099511627776)) := Lib.hid (fun h => by
    unfold lnOk at h
    simp only [Bool.and_eq_true, decide_eq_true_eq] at h
    exact ⟨h.1.1.1, h.1.2⟩)
  generalize lnWhy x = y at *
  generalize lnOk x = k at *
  obtain ⟨prio, top, many, window⟩ := x
  unfold lnc at f1
  unfold lnv
  dsimp only at f1 HW HK ⊢
  cases k with
  | true =>
    obtain ⟨⟨m1, m2⟩, m3, m4⟩ := HK.out rfl
    have hm := Lib.hid (mul_in m1 m2 m3 m4)
    have hz : Hid (y = if 1099511627776 < many * top then 10 else 0) := Lib.hid (by rw [HW.out]; rfl)
    clear HK HW HY m1 m2 m3 m4
    go_enter Try.func35, Try.ntmps35
    go_wp2_with fail
    refine (f1.out _ _ _ ?_).mono ?_
    · intro j u hu
      exact ⟨_, rfl, by rw [add_zero_lit, Nat.zero_add]; exact new_cell2 hu⟩
    rintro e w2 ⟨p, rfl, _, hb⟩
    have hb' := hb.mono (B' := w.heap.size + 1) (by simp)
    have HX := Lib.hid (box_keep (box_alloc (heap_alloc_new w (.cells #[.int .i64 prio, .int .i64 top, .int .i64 many, .int .i64 window] 76)) _) hb)
    obtain ⟨hx, hy⟩ := box_rules HX.out
    have HB := Lib.hid ((((Below.refl w.heap.size w).alloc (Nat.le_refl _) _).alloc (by simp) _).trans (hb.mono (by simp; omega)))
    clear hb hb'
    by_cases ht : 1099511627776 < many * top
    · go_wp2_with (rw [hm.out])
      go_ret
      exact ⟨ret_int (by rw [hz.out, if_pos ht]), HB.out⟩
    · go_wp2_with (rw [hm.out])
      go_ret
      exact ⟨ret_int (by rw [hz.out, if_neg (by omega)]), HB.out⟩
  | false =>
    have hz : Hid (y = 1) := Lib.hid (by rw [HW.out]; rfl)
    clear HK HW HY
    go_enter Try.func35, Try.ntmps35
    go_wp2_with fail
    refine (f1.out _ _ _ ?_).mono ?_
    · intro j u hu
      exact ⟨_, rfl, by rw [add_zero_lit, Nat.zero_add]; exact new_cell2 hu⟩
    rintro e w2 ⟨p, rfl, _, hb⟩
    have HB := Lib.hid ((((Below.refl w.heap.size w).alloc (Nat.le_refl _) _).alloc (by simp) _).trans (hb.mono (by simp; omega)))
    clear hb
    go_wp2
    go_ret
    exact ⟨ret_int hz.out.symm, HB.out⟩
theorem thread_any (x : Th) (w : World) : Calls Try.prog 36 #[thv x] w fun e w' => e = .returned (.int .i64 (thWhy x)) ∧ Below w.heap.size w w' := by
  have f1 : Hid (∀ A c w, Rd w A (thc x) → Calls Try.prog 8 #[.slice A 1 c] w (RetP (botWhy [x]) w)) := Lib.hid (fun A c w hr => bottom_new [x] (by simp) A c w (by simpa using hr))
  have HY := Lib.hid (botWhy_one x)
  rw [HY.out] at f1
  generalize thWhy x = y at *
  obtain ⟨prio, budget, period, depth⟩ := x
  unfold thc at f1
  unfold thv
  dsimp only at f1 ⊢
  go_enter Try.func36, Try.ntmps36
  go_wp2_with fail
  refine (f1.out _ _ _ ?_).mono ?_
  · intro j u hu
    exact ⟨_, rfl, by rw [add_zero_lit, Nat.zero_add]; exact new_cell2 hu⟩
  rintro e w2 ⟨p, rfl, _, hb⟩
  have HB := Lib.hid ((((Below.refl w.heap.size w).alloc (Nat.le_refl _) _).alloc (by simp) _).trans (hb.mono (by simp; omega)))
  clear hb
  go_wp2
  go_ret
  exact ⟨rfl, HB.out⟩
end Go.Proofs.Ytgampofpabllbaa

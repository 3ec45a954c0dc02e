/- Packages vergeref04, 15, 16, 17: the walks of Check and of New. Conditions: lists that read. -/
import Derived.Test.YtgampofpabllbaaGreatVetE
namespace Go.Proofs.YtgampofpabllbaaGreat
open Go.RowKit Go.Shelf

theorem shot04_any (mn mx : Int) (hmx : I64 mx) (w : World) : Calls Tryz.prog 51 #[.agg #[.int .i64 mn, .int .i64 mx]] w fun e w' => e = .returned (.int .i64 (tmWhy mn mx)) ∧ Below w.heap.size w w' := by
  have e := Lib.hid (half_wrap hmx).1
  clear hmx
  go_enter Tryz.func51, Tryz.ntmps51
  go_wp2_with (rw [e.out])
  all_goals
    go_ret
    refine ⟨?_, (Below.refl _ _).alloc (Nat.le_refl _) _⟩
    refine ret_int (Eq.symm ?_)
    have i := half_iff (mx := mx) (mn := mn)
    unfold tmWhy
    first
    | (rw [if_pos (by omega)]; done)
    | (rw [if_neg (by omega)]; done)
theorem new16_any (many window : Int) (w : World) :
    Calls Tryz.prog 121 #[.int .i64 many, .int .i64 window] w fun e w' => e = .returned (.tuple #[.agg #[.int .i64 many, .int .i64 window, .slice none 0 0, .int .i64 0, .int .i64 0], .bool (stOk many window)]) ∧ Below w.heap.size w w' := by
  go_enter Tryz.func121, Tryz.ntmps121
  go_wp2
  all_goals
    refine bodyPost_ret (v := .tuple #[.agg #[.int .i64 many, .int .i64 window, .slice none 0 0, .int .i64 0, .int .i64 0], .bool (stOk many window)]) ?_ rfl ⟨rfl, (Below.refl _ _).alloc (Nat.le_refl _) _⟩
    unfold stOk
    first
    | (simp [results, Tryz.f121, go_sem]; done)
    | (simp [results, Tryz.f121, go_sem, *]; done)
    | (simp [results, Tryz.f121, go_sem]; omega)
theorem new15_any (budget period : Int) (w : World) :
    Calls Tryz.prog 95 #[.int .i64 budget, .int .i64 period] w fun e w' => e = .returned (.tuple #[.agg #[.int .i64 budget, .int .i64 period, .slice none 0 0, .int .i64 0], .bool (svOk budget period)]) ∧ Below w.heap.size w w' := by
  go_enter Tryz.func95, Tryz.ntmps95
  go_wp2
  all_goals
    refine bodyPost_ret (v := .tuple #[.agg #[.int .i64 budget, .int .i64 period, .slice none 0 0, .int .i64 0], .bool (svOk budget period)]) ?_ rfl ⟨rfl, (Below.refl _ _).alloc (Nat.le_refl _) _⟩
    unfold svOk
    first
    | (simp [results, Tryz.f95, go_sem]; done)
    | (simp [results, Tryz.f95, go_sem, *]; done)
    | (simp [results, Tryz.f95, go_sem]; omega)

theorem sl_queue17 : SlK Tryz.prog 100 187 3 40 := SlK.mk' (z := .agg #[.int .i64 0, .slice none 0 0, .int .i64 0]) Tryz.underlying100 (by kernel_rfl) rfl (by decide)
/-- Whether queues are made. -/
def wkOk (l : List Int) : Bool := decide (1 ≤ l.length) && decide (l.length ≤ 64) && l.all dpOk
theorem wkOk_why (l : List Int) : wkWhy l = if wkOk l then 0 else 1 := rfl
theorem wk_no {l : List Int} {k : Nat} (hk : k < l.length) (h : dpOk (l.getD k 0) = false) : wkOk l = false := by
  unfold wkOk
  have : l.all dpOk = false := by
    rw [List.all_eq_false]
    refine ⟨_, List.getElem_mem hk, ?_⟩
    simp [List.getD, hk] at h
    simp [h]
  simp [this]
theorem all_dp {l : List Int} (h : ∀ j, j < l.length → dpOk (l.getD j 0) = true) : l.all dpOk = true := by
  rw [List.all_eq_true]
  intro x hx
  obtain ⟨i, hi, rfl⟩ := List.getElem_of_mem hx
  simpa [List.getD, hi] using h i hi
set_option maxHeartbeats 2000000 in
theorem new17_any (l : List Int) (hl : l.length ≤ 1048576) (A : Option Addr) (c : Nat) (w : World) (hr : Rd w A (l.map (.int .i64))) :
    Calls Tryz.prog 96 #[.slice A l.length c] w fun e w' => (∃ A' n c', e = .returned (.tuple #[.slice A' n c', .bool (wkOk l)])) ∧ Below w.heap.size w w' := by
  have Hr := Lib.hid hr; clear hr
  go_enter Tryz.func96, Tryz.ntmps96
  go_wp2
  go_loopw [4, 9] (fun s i wr => ∃ (k : Nat) (A1 : Option Addr) (c1 : Nat) (rows : List Value), k ≤ l.length ∧ i = .int .i64 k ∧ s = .slice A1 k c1 ∧ wr.ownsRow w.heap.size 187 3 (.slice A1 k c1) k rows ∧ Below w.heap.size w wr ∧
    Hid (∀ j, j < k → dpOk (l.getD j 0) = true)) (fun _ i _ => l.length - (intOf i).toNat)
  case atStart => exact ⟨0, none, 0, [], by omega, rfl, rfl, own_nilK _ _ _ _, Below.refl _ _, fun j hj => absurd hj (Nat.not_lt_zero _)⟩
  case round =>
    obtain ⟨k, A1, c1, rows, hk, rfl, rfl, ho1, hB, hm⟩ := hrel
    have HO1 := Lib.hid ho1; have HB := Lib.hid hB
    clear ho1 hB
    by_cases hlt : k < l.length
    · obtain ⟨a, rfl, h1⟩ := (Hr.out.below HB.out).int hlt
      generalize hx : l.getD k 0 = x at *
      have Hx := Lib.hid hx; clear hx
      have Hlen := Lib.hid HB.out.size
      by_cases t1 : x < 1
      · go_wp2
        go_ret2
        exact ⟨⟨_, _, _, by rw [wk_no hlt (by rw [Hx.out]; simp [dpOk]; omega)]; rfl⟩, HB.out⟩
      · by_cases t2 : 64 < x
        · go_wp2
          go_ret2
          exact ⟨⟨_, _, _, by rw [wk_no hlt (by rw [Hx.out]; simp [dpOk]; omega)]; rfl⟩, HB.out⟩
        · go_wp2_with (at_builtin; go_loud (refine wp_appK rfl _ _ sl_queue17 (by decide) rfl (own_allocK HO1.out _) rfl (by omega) (by have := Hlen.out; simp; omega) wr.heap.size [.int .i64 x, .slice none 0 0, .int .i64 0] rfl rfl (fun j u hu => new_cell hu) rfl ?_); intro A3 c3 w3 ho3 hg3 _; have G3 := Lib.hid (grown_step HO1.out hg3); have HO3 := Lib.hid ho3; clear ho3 hg3)
          go_roundw
          case rel =>
            refine ⟨k + 1, A3, c3, _, by omega, by go_num, rfl, HO3.out, G3.out.below HB.out (Nat.le_refl _) Hlen.out, fun j hj => ?_⟩
            by_cases he : j = k
            · subst he; rw [Hx.out]; simp [dpOk]; omega
            · exact hm.out j (by omega)
          case measure => simp [intOf]; omega
    · obtain rfl : k = l.length := by omega
      have HA := Lib.hid (all_dp hm.out)
      by_cases h0 : l.length = 0
      · have hz : ¬ (1 : Int) ≤ l.length := by omega
        have hy := Lib.hid (show wkOk l = false by unfold wkOk; simp [h0])
        go_wp2
        go_ret2
        exact ⟨⟨_, _, _, by rw [hy.out]; rfl⟩, HB.out⟩
      · have hz : (1 : Int) ≤ l.length := by omega
        by_cases h1 : l.length ≤ 64
        · have hz2 : (l.length : Int) ≤ 64 := by omega
          have hy := Lib.hid (show wkOk l = true by unfold wkOk; rw [HA.out]; simp; omega)
          clear h0 h1
          go_wp2
          go_ret2
          exact ⟨⟨_, _, _, by rw [hy.out]; rfl⟩, HB.out⟩
        · have hz2 : ¬ (l.length : Int) ≤ 64 := by omega
          have hy := Lib.hid (show wkOk l = false by unfold wkOk; simp; omega)
          clear h0 h1
          go_wp2
          go_ret2
          exact ⟨⟨_, _, _, by rw [hy.out]; rfl⟩, HB.out⟩
end Go.Proofs.YtgampofpabllbaaGreat

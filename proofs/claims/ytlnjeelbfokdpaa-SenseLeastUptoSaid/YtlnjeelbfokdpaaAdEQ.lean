/- The family: the walks of admit.Family and vergeref29.Family. No premise of its own. -/
import Derived.Test.YtlnjeelbfokdpaaAdDQ
namespace Go.Proofs.Ytlnjeelbfokdpaa
open Go.RowKit Go.Shelf

theorem famC_no {n : Int} (h : ¬ famIn n) : famC n = ⟨0, 0, 0, [], [], []⟩ ∧ famY n = 1 := ⟨if_neg h, if_neg h⟩
theorem famC_yes {n : Int} (h : famIn n) : famC n = ⟨4, 1000, 2, famTs n.toNat, famLs, famHs⟩ ∧ famY n = 0 := ⟨if_pos h, if_pos h⟩
theorem new_cell_at {w : World} {cs : Array Value} {t : TypeId} {j g : Nat} {u : Value} (hg : w.heap.size = g) (h : cs.toList[j]? = some u) : (w.alloc (.cells cs t)).cell? ⟨g, j, none⟩ = some u := by subst hg; exact new_cell h
set_option maxHeartbeats 4000000 in
set_option maxRecDepth 100000 in
theorem fam_any (n : Int) (w : World) : Calls Try.prog 8 #[.int .i64 n] w (RetF (famC n) (famY n) w) := by
  by_cases hin : famIn n
  · obtain ⟨e1, e2⟩ := famC_yes hin
    rw [e1, e2]
    clear e1 e2
    obtain ⟨h1, h8⟩ := hin
    obtain ⟨m, rfl⟩ := Int.eq_ofNat_of_zero_le (show 0 ≤ n by omega)
    have hm8 : m ≤ 8 := by omega
    rw [Int.toNat_natCast]
    have T := Lib.hid (fun k hk w => ftask_any k hk w)
    have hlen := famTs_len m
    go_enter Try.func8, Try.ntmps8
    go_wp2
    refine name_world fun V hV => ?_
    have HR : Hid (V.heap[w.heap.size]? = some (.cells #[.int .i64 0, .int .i64 0, .int .i64 0, .slice none 0 0, .slice none 0 0, .slice none 0 0] 29 (0, 0))) := Lib.hid (by rw [hV]; exact box_alloc (box_alloc (box_alloc (heap_alloc_new w _) _) _) _)
    have HL : Hid (V.heap[w.heap.size + 1]? = some (.cells #[.int .i64 2, .int .i64 5, .int .i64 2, .int .i64 500, .int .i64 4, .int .i64 3, .int .i64 1, .int .i64 300] 49 (0, 0))) := Lib.hid (by rw [hV]; exact box_alloc (box_alloc (heap_new_at _ (by simp)) _) _)
    have HH : Hid (V.heap[w.heap.size + 1 + 1]? = some (.cells #[.int .i64 50, .int .i64 20, .int .i64 500, .int .i64 4, .int .i64 20, .int .i64 10, .int .i64 400, .int .i64 2] 51 (0, 0))) := Lib.hid (by rw [hV]; exact box_alloc (heap_new_at _ (by simp)) _)
    have HD : Hid (V.heap[w.heap.size + 1 + 1 + 1]? = some (.cells #[.int .i64 4, .int .i64 1000, .int .i64 2, .slice none 0 0, .slice (some ⟨w.heap.size + 1, 0, none⟩) 2 2, .slice (some ⟨w.heap.size + 1 + 1, 0, none⟩) 2 2] 29 (0, 0))) := Lib.hid (by rw [hV]; exact heap_new_at _ (by simp))
    have HB : Hid (Below w.heap.size w V) := Lib.hid (by rw [hV]; exact (((((Below.refl _ _).alloc (Nat.le_refl _) _).alloc (by simp) _).alloc (by simp; omega) _).alloc (by simp; omega) _))
    have sV : V.heap.size = w.heap.size + 4 := by rw [hV]; simp
    clear hV
    generalize decide ((m : Int) < 1) = b1 at *
    generalize decide ((8 : Int) < m) = b2 at *
    go_loopw [22] (fun j wr => ∃ (k : Nat) (A1 : Option Addr) (c1 : Nat), k ≤ m ∧ j = .int .i64 k ∧
      wr.heap[w.heap.size + 1 + 1 + 1]? = some (.cells #[.int .i64 4, .int .i64 1000, .int .i64 2, .slice A1 k c1, .slice (some ⟨w.heap.size + 1, 0, none⟩) 2 2, .slice (some ⟨w.heap.size + 1 + 1, 0, none⟩) 2 2] 29 (0, 0)) ∧
      wr.ownsRow (w.heap.size + 4) 43 10 (.slice A1 k c1) k ((famTs k).flatMap tkc) ∧ KeepsLow w.heap.size (w.heap.size + 4) [w.heap.size + 1 + 1 + 1] V wr) (fun j _ => m - (intOf j).toNat)
    case atStart => exact ⟨0, none, 0, by omega, rfl, HD.out, own_nilK _ _ _ _, KeepsLow.refl _⟩
    case round =>
      obtain ⟨k, A1, c1, hk, rfl, hD, hO, hK⟩ := hrel
      have HDk := Lib.hid hD; have HO := Lib.hid hO; have HK := Lib.hid hK
      clear hD hO hK
      have sK : w.heap.size + 4 ≤ wr.heap.size := by have := HK.out.below.size; have := box_lt HDk.out; omega
      by_cases hlt : k < m
      · have f2 := Lib.hid (fun w => T.out k (by omega) w)
        have HS := Lib.hid (famTs_succ k)
        generalize famTk k = x at *
        obtain ⟨x0, x1, x2, x3, x4, x5, x6, x7, x8, x9⟩ := x
        unfold tkv at f2
        dsimp only at f2
        obtain ⟨dx, dy⟩ := box_rules HDk.out
        go_wp2_with fail
        go_region_law ((first | (refine step_appK rfl _ _ skf_tk (by decide) rfl (own_allocK HO3.out _) rfl (by omega) (by simp; omega) w3.heap.size [.int .u8 x0, .int .i64 x1, .int .i64 x2, .int .i64 x3, .int .i64 x4, .int .i64 x5, .int .i64 x6, .int .i64 x7, .int .i64 x8, .int .i64 x9] rfl rfl (fun j u hu => new_cell hu) rfl ?_; intro A4 c4 w4 ho4 hg4 _; have G4 := Lib.hid (grown_step HO3.out hg4); have HG4 := Lib.hid hg4; have HO4 := Lib.hid ho4; have HD4 := Lib.hid (G4.out.low HD3.out (by omega)); clear ho4 hg4; obtain ⟨dx4, dy4⟩ := box_rules HD4.out) | (go_simp; go_at_call 21; refine (f2.out _).mono ?_; rintro e w3 ⟨rfl, hb3⟩; have hb4 : Below wr.heap.size wr w3 := (by first | exact hb3 | exact undrew hb3); have HD3 := Lib.hid (box_keep HDk.out hb4); have HO3 := Lib.hid (own_belowK HO.out hb4); have HK3 := Lib.hid (HK.out.call hb4 (by omega)); have s3 := hb4.size; have lx3 := box_lt HD3.out; clear hb3 hb4; obtain ⟨dx3, dy3⟩ := box_rules HD3.out)))
        all_goals
          go_wp2
          refine ⟨⟨k + 1, A4, c4, by omega, by go_num, ?_, ?_, ?_⟩, ?_⟩
          · exact box_set (i := 3) HD4.out _
          · rw [HS.out, List.flatMap_append]
            exact own_setK HO4.out (own_low HO4.out (by show w.heap.size + 1 + 1 + 1 < _; omega)) _
          · exact (HK3.out.trans (KeepsLow.step HO3.out HG4.out (by omega) (by omega) (Nat.le_refl _))).set (p := ⟨w.heap.size + 1 + 1 + 1, 3, none⟩) (by show _ ≤ w.heap.size + 1 + 1 + 1; omega) (.inl (by simp)) _
          · simp [intOf]; omega
      · obtain rfl : k = m := by omega
        obtain ⟨dx, dy⟩ := box_rules HDk.out
        have HR2 := Lib.hid (HK.out.box (b := w.heap.size) (by omega) (by simp; omega) HR.out)
        have HL2 := Lib.hid (HK.out.box (b := w.heap.size + 1) (by omega) (by simp) HL.out)
        have HH2 := Lib.hid (HK.out.box (b := w.heap.size + 1 + 1) (by omega) (by simp) HH.out)
        obtain ⟨rx, ry⟩ := box_rules HR2.out
        go_wp2
        have h4 := box_set (i := 5) (box_set (i := 4) (box_set (i := 3) (box_set (i := 2) (box_set (i := 1) (box_set (i := 0) HR2.out (.int .i64 4)) (.int .i64 1000)) (.int .i64 2)) (.slice A1 k c1)) (.slice (some ⟨w.heap.size + 1, 0, none⟩) 2 2)) (.slice (some ⟨w.heap.size + 1 + 1, 0, none⟩) 2 2)
        have hz := (box_rules h4).1
        refine bodyPost_ret (v := .tuple #[.agg #[.int .i64 4, .int .i64 1000, .int .i64 2, .slice A1 k c1, .slice (some ⟨w.heap.size + 1, 0, none⟩) 2 2, .slice (some ⟨w.heap.size + 1 + 1, 0, none⟩) 2 2], .int .i64 0]) (by simp [results, Try.f8, go_sem, hz]) rfl ?_
        have bR : w.heap.size ≤ w.heap.size := Nat.le_refl _
        have n1 : w.heap.size + 1 ≠ w.heap.size := by omega
        have n2 : w.heap.size + 1 + 1 ≠ w.heap.size := by omega
        have nb := own_low HO.out (show w.heap.size < w.heap.size + 4 by omega)
        have lb := HB.out.trans HK.out.below
        refine ⟨A1, c1, some ⟨w.heap.size + 1, 0, none⟩, 2, some ⟨w.heap.size + 1 + 1, 0, none⟩, 2, by rw [hlen]; rfl, ?_, ?_, ?_, ?_⟩
        · refine own_rdK (base := w.heap.size + 4) (e := 43) (k := 10) (n := k) (c := c1) ?_
          repeat (with_reducible first | exact HO.out | refine own_setK ?_ nb _)
        · refine rd_box (z := (0, 0)) (t := 49) (cs := #[.int .i64 2, .int .i64 5, .int .i64 2, .int .i64 500, .int .i64 4, .int .i64 3, .int .i64 1, .int .i64 300]) ?_
          repeat (with_reducible first | exact HL2.out | refine box_far ?_ n1 _)
        · refine rd_box (z := (0, 0)) (t := 51) (cs := #[.int .i64 50, .int .i64 20, .int .i64 500, .int .i64 4, .int .i64 20, .int .i64 10, .int .i64 400, .int .i64 2]) ?_
          repeat (with_reducible first | exact HH2.out | refine box_far ?_ n2 _)
        · repeat (with_reducible first | exact lb | refine Below.setCell ?_ bR _)
  · obtain ⟨e1, e2⟩ := famC_no hin
    rw [e1, e2]
    clear e1 e2
    go_enter Try.func8, Try.ntmps8
    by_cases h1 : n < 1
    · go_wp2
      refine bodyPost_ret (v := .tuple #[.agg #[.int .i64 0, .int .i64 0, .int .i64 0, .slice none 0 0, .slice none 0 0, .slice none 0 0], .int .i64 1]) (by simp [results, Try.f8, go_sem]) rfl ?_
      refine ⟨none, 0, none, 0, none, 0, rfl, Rd.nil _ _, Rd.nil _ _, Rd.nil _ _, ?_⟩
      repeat (with_reducible first | exact (Below.refl _ _).alloc (Nat.le_refl _) _ | refine Below.setCell ?_ (Nat.le_refl _) _)
    · have h8 : 8 < n := by unfold famIn at hin; omega
      go_wp2
      refine bodyPost_ret (v := .tuple #[.agg #[.int .i64 0, .int .i64 0, .int .i64 0, .slice none 0 0, .slice none 0 0, .slice none 0 0], .int .i64 1]) (by simp [results, Try.f8, go_sem]) rfl ?_
      refine ⟨none, 0, none, 0, none, 0, rfl, Rd.nil _ _, Rd.nil _ _, Rd.nil _ _, ?_⟩
      repeat (with_reducible first | exact (Below.refl _ _).alloc (Nat.le_refl _) _ | refine Below.setCell ?_ (Nat.le_refl _) _)
end Go.Proofs.Ytlnjeelbfokdpaa

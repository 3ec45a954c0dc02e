/- Package vet: what prios hands back, where the caller appends to a row. Conditions: lists that read. -/
import Derived.Test.YtgampofpabllbaaVeA
namespace Go.Proofs.Ytgampofpabllbaa
open Go.RowKit Go.Shelf
attribute [local go_sem] Oper.semAt_some

set_option maxHeartbeats 4000000 in
set_option maxRecDepth 100000 in
/-- What vet.prios hands back. -/
theorem prios_iterF (mn mx sw : Int) (ts : List Tk) (nl : Nat) (hs : List Th) (A : Option Addr) (ca : Nat) (B : Option Addr) (cb : Nat) (D : Option Addr) (cd : Nat) (Bc b2 nB : Nat) (w0 w : World)
    (hlt : ts.length ≤ 1048576) (hlh : hs.length ≤ 1048576) (h0 : Below w0.heap.size w0 w) (_hnB : w0.heap.size ≤ nB) (hBc : nB ≤ w.heap.size)
    (hc : w.heap[Bc]? = some (.cells #[.int .i64 mn, .int .i64 mx, .int .i64 sw, .slice A ts.length ca, .slice B nl cb, .slice D hs.length cd] 28 (0, 0)))
    (ht : Rd w0 A (ts.flatMap tkc)) (hh : Rd w0 D (hs.flatMap thc)) (ht64 : ∀ p ∈ ts.map (·.prio) ++ hs.map (·.prio), I64 p) :
    IterF Try.prog 41 #[.pointer (some ⟨Bc, 0, none⟩)] (fun f : Fl => #[flv f]) b2 w0.heap.size nB (fun xs => xs = numb 7 0 (prWhys [] (ts.map (·.prio) ++ hs.map (·.prio))))
      (fun pre => pre <+: numb 7 0 (prWhys [] (ts.map (·.prio) ++ hs.map (·.prio)))) (ts.length + hs.length) w := fun l J Jx W hW hJ hJx hY hJ0 => by
  have HC := Lib.hid (box_keep hc hW)
  have HW0 := Lib.hid (h0.trans (hW.mono h0.size))
  have hWs := Nat.le_trans hBc hW.size
  have Ht := Lib.hid ht; have Hh := Lib.hid hh; have H64 := Lib.hid ht64; have HJ := Lib.hid hJ; have HY := Lib.hid hY; have HJ0 := Lib.hid hJ0
  have s0 := h0.size
  clear hc h0 hW ht hh ht64 hJ hJx hY hJ0
  generalize hall : ts.map (·.prio) ++ hs.map (·.prio) = all at *
  have Hall := Lib.hid hall; clear hall
  have Hlen : Hid (all.length = ts.length + hs.length) := Lib.hid (by rw [← Hall.out]; simp)
  obtain ⟨hcx, hcy⟩ := box_rules HC.out
  have lc := box_lt HC.out
  have hmm := @run_makeMap Try.prog
  refine callsIn_of_wp Try.func41 rfl trivial ?_ rfl
  simp only [Try.ntmps41, List.size_toArray, List.length_cons, List.length_nil, Nat.reduceAdd, Nat.reduceSub, Array.replicate_succ, Array.replicate_zero, List.push_toArray, List.append_toArray, List.nil_append, List.cons_append]
  refine wpIn_wide.2 ?_
  go_wp2
  go_loopw [4, 16] (fun s i wr => ∃ (k : Nat) (A1 : Option Addr) (c1 : Nat), k ≤ ts.length ∧ i = .int .i64 k ∧ s = .slice A1 k c1 ∧
    wr.ownsRow (W.heap.size + 1) 3 1 (.slice A1 k c1) k ((all.take k).map (.int .i64)) ∧ MapB wr W.heap.size 0 [] ∧ Below W.heap.size W wr) (fun _ i _ => ts.length - (intOf i).toNat)
  case atStart => exact ⟨0, none, 0, by omega, rfl, rfl, own_nilK _ _ _ _, MapB.made W, (Below.refl _ _).alloc (Nat.le_refl _) _⟩
  case round =>
    obtain ⟨k, A1, c1, hk, rfl, rfl, ho, hm, hB⟩ := hrel
    have HO := Lib.hid ho; have HM := Lib.hid hm; have HB := Lib.hid hB
    clear ho hm
    by_cases hlt' : k < ts.length
    · obtain ⟨a, x, rfl, hx, ⟨g0, g1, g2, g3⟩, g4, g5, g6, g7, g8, g9⟩ := (Ht.out.below (HW0.out.trans (hB.mono HW0.out.size))).tkAt hlt'
      have hq : all.getD k 0 = x.prio := by
        rw [← Hall.out, ← hx]
        simp [List.getD, hlt', List.getElem?_append_left]
      have Hq := Lib.hid hq; clear hq hx
      have HC2 := Lib.hid (box_keep HC.out hB)
      obtain ⟨hcx2, hcy2⟩ := box_rules HC2.out
      obtain ⟨x0, x1, x2, x3, x4, x5, x6, x7, x8, x9⟩ := x
      dsimp only at g0 g1 g2 g3 g4 g5 g6 g7 g8 g9 Hq
      have sB := hB.size
      go_wp2_with (at_builtin; refine wp_app1g rfl _ _ sl_int (by decide) rfl (own_allocK (own_allocK HO.out _) _) rfl (by omega) (by simp; omega) _ (.int .i64 x1) rfl (by go_simp) rfl ?_; intro A4 c4 w4 ho4 hg4 _; have G4 := Lib.hid (grown_step (own_allocK HO.out _) hg4); have HM4 := Lib.hid (((HM.out.kept (World.grownBy_alloc _ _ none) (by simp)).kept (World.grownBy_alloc _ _ none) (by simp)).kept hg4 (fun e => own_low HO.out (Nat.lt_succ_self _) e.symm)); have HO4 := Lib.hid ho4; clear ho4 hg4)
      go_roundw
      case rel =>
        refine ⟨k + 1, A4, c4, by omega, by go_num, rfl, ?_, HM4.out, G4.out.below (hB.alloc sB _) (Nat.le_succ _) (by simp; omega)⟩
        rw [List.take_succ_eq_append_getElem (by have := Hlen.out; omega : k < all.length), List.map_append]
        have e : all[k]'(by have := Hlen.out; omega) = x1 := by
          have := Hq.out
          simpa [List.getD, (by have := Hlen.out; omega : k < all.length)] using this
        rw [e]
        exact HO4.out
      case measure => simp [intOf]; omega
    · obtain rfl : k = ts.length := by omega
      have HC1 := Lib.hid (box_keep HC.out hB)
      obtain ⟨hcx1, hcy1⟩ := box_rules HC1.out
      have HB1 := Lib.hid hB; clear hB
      have lc1 := box_lt HC1.out
      go_wp2
      go_loopw [4, 29] (fun s i wr => ∃ (k : Nat) (A1 : Option Addr) (c1 : Nat), k ≤ hs.length ∧ i = .int .i64 k ∧ s = .slice A1 (ts.length + k) c1 ∧
        wr.ownsRow (W.heap.size + 1) 3 1 (.slice A1 (ts.length + k) c1) (ts.length + k) ((all.take (ts.length + k)).map (.int .i64)) ∧ MapB wr W.heap.size 0 [] ∧ Below W.heap.size W wr) (fun _ i _ => hs.length - (intOf i).toNat)
      case atStart => exact ⟨0, A1, c1, by omega, rfl, rfl, HO.out, HM.out, HB1.out⟩
      case round =>
        clear HO HM
        obtain ⟨k, A1, c1, hk, rfl, rfl, ho, hm, hB⟩ := hrel
        have HO := Lib.hid ho; have HM := Lib.hid hm; have HB := Lib.hid hB
        clear ho hm
        by_cases hlt' : k < hs.length
        · obtain ⟨a, x, rfl, hx, g0, g1, g2, g3⟩ := (Hh.out.below (HW0.out.trans (hB.mono HW0.out.size))).thAt hlt'
          have hq : all.getD (ts.length + k) 0 = x.prio := by
            rw [← Hall.out, ← hx]
            simp [List.getD, hlt']
          have Hq := Lib.hid hq; clear hq hx
          obtain ⟨x0, x1, x2, x3⟩ := x
          dsimp only at g0 g1 g2 g3 Hq
          have sB := hB.size
          go_wp2_with (at_builtin; refine wp_app1g rfl _ _ sl_int (by decide) rfl (own_allocK (own_allocK HO.out _) _) rfl (by omega) (by simp; omega) _ (.int .i64 x0) rfl (by go_simp) rfl ?_; intro A4 c4 w4 ho4 hg4 _; have G4 := Lib.hid (grown_step (own_allocK HO.out _) hg4); have HM4 := Lib.hid (((HM.out.kept (World.grownBy_alloc _ _ none) (by simp)).kept (World.grownBy_alloc _ _ none) (by simp)).kept hg4 (fun e => own_low HO.out (Nat.lt_succ_self _) e.symm)); have HO4 := Lib.hid ho4; clear ho4 hg4)
          go_roundw
          case rel =>
            refine ⟨k + 1, A4, c4, by omega, by go_num, rfl, ?_, HM4.out, G4.out.below (hB.alloc sB _) (Nat.le_succ _) (by simp; omega)⟩
            have e : all[ts.length + k]'(by have := Hlen.out; omega) = x0 := by
              have := Hq.out
              simpa [List.getD, (by have := Hlen.out; omega : ts.length + k < all.length)] using this
            rw [← Nat.add_assoc, List.take_succ_eq_append_getElem (by have := Hlen.out; omega : ts.length + k < all.length), List.map_append, e]
            exact HO4.out
          case measure => simp [intOf]; omega
        · obtain rfl : k = hs.length := by omega
          have hT : all.take (ts.length + hs.length) = all := by rw [← Hlen.out, List.take_length]
          rw [hT] at HO
          have HB2 := Lib.hid hB; clear hB hT
          go_wp2_with fail
          refine (wpIn_wide (n := 8)).1 ?_
          gi_loopw [41] (fun i wr => ∃ k : Nat, k ≤ all.length ∧ i = .int .i64 k ∧ J (prL all k) wr ∧ MapB wr W.heap.size k (all.take k).reverse ∧
            wr.ownsRow (W.heap.size + 1) 3 1 (.slice A1 (ts.length + hs.length) c1) (ts.length + hs.length) (all.map (.int .i64)) ∧ W.heap.size ≤ wr.heap.size) (fun i _ => all.length - (intOf i).toNat)
          case atStart => exact ⟨0, by omega, rfl, HJ.out _ _ _ none HJ0.out (below_grown HB2.out) (fun _ h => by cases h), HM.out, HO.out, HB2.out.size⟩
          case round =>
            clear HO HM HB2
            obtain ⟨k, hk, rfl, hj, hm, ho, hB⟩ := hrel
            have Hj := Lib.hid hj; have HO := Lib.hid ho; have HM := Lib.hid hm
            clear hj ho hm
            by_cases hlt' : k < all.length
            · have hlt2 : k < ts.length + hs.length := by have := Hlen.out; omega
              have hp64 : I64 (all.getD k 0) := H64.out _ (by rw [List.getD, List.getElem?_eq_getElem hlt']; exact List.getElem_mem hlt')
              obtain ⟨a, rfl, h1⟩ := (own_rdK HO.out).int hlt'
              have hlook := HM.out.look hp64
              obtain ⟨w2, hrun, hm2, hg2⟩ := HM.out.put (by have := Hlen.out; unfold maxLen; omega) hp64
              have HS := Lib.hid (prL_succ hlt')
              have hrow : ∀ r, some W.heap.size = some r → W.heap.size ≤ r ∧ ∃ o : Obj, wr.heap[r]? = some o ∧ o.isWalk = true := fun r e => by
                cases e
                exact ⟨Nat.le_refl _, HM.out.walk⟩
              have HJ2 := Lib.hid (HJ.out _ _ _ _ Hj.out hg2 hrow)
              have HO2 := Lib.hid (own_grownK hg2 HO.out (fun g hg e => by cases e; exact own_low HO.out (Nat.lt_succ_self _) hg))
              have HM2 := Lib.hid hm2
              have S2 := Lib.hid hg2.size
              clear hm2 hg2 hrow Hj HM
              have hlen2 : (prL all k).length < ts.length + hs.length := by rw [prL_len _ _ (Nat.le_of_lt hlt')]; have := Hlen.out; omega
              have HLen2 := Lib.hid hlen2; clear hlen2
              have Hin : Hid ((all.getD k 0 :: (all.take k).reverse) = (all.take (k + 1)).reverse) := Lib.hid (by
                rw [List.take_succ_eq_append_getElem hlt', List.reverse_append]
                simp [List.getD, hlt'])
              generalize hseen : decide (all.getD k 0 ∈ (all.take k).reverse) = seen at *
              have Hseen := Lib.hid hseen; clear hseen
              generalize all.getD k 0 = p at *
              have fF := Lib.hid (fun y w => found_any 7 (k : Nat) y w)
              have HY2 := Lib.hid (fun y w3 (hb3 : Below w2.heap.size w2 w3) => HY.out (prL all k) ⟨7, k, y⟩ w3 (HJ.out _ _ _ none HJ2.out (below_grown hb3) (fun _ h => by cases h)) HLen2.out)
              cases seen with
              | true =>
                have HW2 : Hid (prL all (k + 1) = prL all k ++ [⟨7, k, 12⟩]) := Lib.hid (by rw [HS.out, if_pos (of_decide_eq_true Hseen.out)])
                clear HS Hseen HY
                gi_wp2_with (refine ⟨trivial, ?_⟩; gi_at_call 31; refine (callsIn_wide.2 (fF.out 12 _)).mono ?_; rintro e w3 ⟨rfl, hb3⟩; obtain ⟨fn, tmps, assign, body, hy, hR⟩ := HY2.out 12 _ hb3; dsimp only [flv] at hy; have HR := Lib.hid hR; have HB3 := Lib.hid hb3; clear hR hb3)
                refine HR.out.mono ?_
                rintro e W3 (⟨rfl, hJ3, hk3⟩ | ⟨rfl, hJx3⟩)
                · gi_wp2
                  go_roundw
                  case rel =>
                    refine ⟨k + 1, by omega, by go_num, ?_, ?_, own_ownsF (own_belowK HO2.out HB3.out) hk3 (by omega) (by decide), Nat.le_trans hB (Nat.le_trans S2.out (Nat.le_trans HB3.out.size hk3.below.size))⟩
                    · rw [HW2.out]; exact hJ3
                    · rw [← Hin.out]
                      exact (HM2.out.kept (below_grown HB3.out) (by simp)).ownF hk3 hWs
                  case measure => simp [intOf]; omega
                · gi_wp2
                  refine bodyPost_ret (results_none rfl _ _ _) rfl ?_
                  exact ⟨⟨_, rfl⟩, .inr ⟨_, by rw [← HW2.out]; exact prL_prefix all _, hJx3⟩⟩
              | false =>
                have HW2 : Hid (prL all (k + 1) = prL all k ++ [⟨7, k, 0⟩]) := Lib.hid (by rw [HS.out, if_neg (of_decide_eq_false Hseen.out)])
                clear HS Hseen HY
                gi_wp2_with (refine ⟨trivial, ?_⟩; gi_at_call 31; refine (callsIn_wide.2 (fF.out 0 _)).mono ?_; rintro e w3 ⟨rfl, hb3⟩; obtain ⟨fn, tmps, assign, body, hy, hR⟩ := HY2.out 0 _ hb3; dsimp only [flv] at hy; have HR := Lib.hid hR; have HB3 := Lib.hid hb3; clear hR hb3)
                refine HR.out.mono ?_
                rintro e W3 (⟨rfl, hJ3, hk3⟩ | ⟨rfl, hJx3⟩)
                · gi_wp2
                  go_roundw
                  case rel =>
                    refine ⟨k + 1, by omega, by go_num, ?_, ?_, own_ownsF (own_belowK HO2.out HB3.out) hk3 (by omega) (by decide), Nat.le_trans hB (Nat.le_trans S2.out (Nat.le_trans HB3.out.size hk3.below.size))⟩
                    · rw [HW2.out]; exact hJ3
                    · rw [← Hin.out]
                      exact (HM2.out.kept (below_grown HB3.out) (by simp)).ownF hk3 hWs
                  case measure => simp [intOf]; omega
                · gi_wp2
                  refine bodyPost_ret (results_none rfl _ _ _) rfl ?_
                  exact ⟨⟨_, rfl⟩, .inr ⟨_, by rw [← HW2.out]; exact prL_prefix all _, hJx3⟩⟩
            · obtain rfl : k = ts.length + hs.length := by have := Hlen.out; omega
              gi_wp2
              go_end0
              exact ⟨⟨_, rfl⟩, .inl ⟨_, by rw [← Hlen.out]; exact prL_all all, Hj.out⟩⟩
end Go.Proofs.Ytgampofpabllbaa

/- Packages supply and vergeref24: the walks of Loads, of threads and lines that are right. Conditions: lists that read. -/
import Derived.Test.YtgampofpabllbaaGreatRtK
import Derived.Test.YtgampofpabllbaaGreatVetG
namespace Go.Proofs.YtgampofpabllbaaGreat
open Go.RowKit

set_option maxHeartbeats 2000000 in
theorem odd_no (hs : List Th) (ls : List Ln) (hlh : hs.length ≤ 1048576) (hll : ls.length ≤ 1048576) (hth : ∀ x ∈ hs, ThIn x) (hln : ∀ x ∈ ls, LnIn x) (A B : Option Addr) (c d : Nat) (w : World) (hh : Rd w A (hs.flatMap thc)) (hl : Rd w B (ls.flatMap lnc)) :
    Calls Tryz.prog 132 #[.slice A hs.length c, .slice B ls.length d] w fun e w' => e = .returned (.bool false) ∧ Below w.heap.size w w' := by
  have Hh := Lib.hid hh; have Hl := Lib.hid hl; have HTh := Lib.hid hth; have HLn := Lib.hid hln
  clear hh hl hth hln
  go_enter Tryz.func132, Tryz.ntmps132
  go_wp2
  go_loopw [11] (fun i wr => ∃ k : Nat, k ≤ hs.length ∧ i = .int .i64 k ∧ Below w.heap.size w wr) (fun i _ => hs.length - (intOf i).toNat)
  case atStart => exact ⟨0, by omega, rfl, Below.refl _ _⟩
  case round =>
    obtain ⟨k, hk, rfl, hB⟩ := hrel
    have sB := hB.size
    have HB := Lib.hid hB
    by_cases hlt : k < hs.length
    · obtain ⟨a, x, rfl, hx2, g0, g1, g2, g3⟩ := (Hh.out.below hB).thAt hlt
      have f4 := Lib.hid (fun w => served_yes x (by rw [← hx2]; exact HTh.out _ (getD_mem hlt)) w)
      clear hB hx2
      obtain ⟨x0, x1, x2, x3⟩ := x
      unfold thv at f4
      dsimp only at f4 g0 g1 g2 g3
      go_wp2_with fail
      refine (f4.out _).mono ?_
      rintro e w4 ⟨rfl, hb4⟩
      have HB4 := Lib.hid ((HB.out.alloc sB _).trans (hb4.mono (by simp; omega)))
      clear hb4
      go_wp2
      go_roundw
      case rel => exact ⟨k + 1, by omega, by go_num, HB4.out⟩
      case measure => simp [intOf]; omega
    · obtain rfl : k = hs.length := by omega
      clear hB
      go_wp2
      go_loopw [21] (fun i wr => ∃ k : Nat, k ≤ ls.length ∧ i = .int .i64 k ∧ Below w.heap.size w wr) (fun i _ => ls.length - (intOf i).toNat)
      case atStart => exact ⟨0, by omega, rfl, HB.out⟩
      case round =>
        obtain ⟨k, hk, rfl, hB2⟩ := hrel
        have sB2 := hB2.size
        have HBB := Lib.hid hB2
        by_cases hlt : k < ls.length
        · obtain ⟨a, x, rfl, hx2, g0, g1, g2, g3⟩ := (Hl.out.below hB2).lnAt hlt
          have hxi : LnIn x := by rw [← hx2]; exact HLn.out _ (getD_mem hlt)
          have f4 := Lib.hid (fun w => masked_yes x hxi w)
          have f5 := Lib.hid (fun w => cost_yes x.top hxi.top w)
          clear hB2 hx2 hxi
          obtain ⟨x0, x1, x2, x3⟩ := x
          unfold lnv at f4
          dsimp only at f4 f5 g0 g1 g2 g3
          go_wp2_with fail
          refine (f4.out _).mono ?_
          rintro e w4 ⟨rfl, hb4⟩
          have HB4 := Lib.hid ((HBB.out.alloc sB2 _).trans (hb4.mono (by simp; omega)))
          have HM4 := Lib.hid (box_keep (heap_alloc_new wr (.cells #[.int .i64 x0, .int .i64 x1, .int .i64 x2, .int .i64 x3] 58)) hb4)
          clear hb4
          obtain ⟨mx4, my4⟩ := box_rules HM4.out
          go_wp2_with (go_at_call 134; refine (f5.out _).mono ?_; rintro e w' ⟨rfl, rfl⟩)
          go_roundw
          case rel => exact ⟨k + 1, by omega, by go_num, HB4.out⟩
          case measure => simp [intOf]; omega
        · obtain rfl : k = ls.length := by omega
          clear hB2
          go_wp2
          go_ret
          exact ⟨rfl, HBB.out⟩
set_option maxHeartbeats 4000000 in
set_option maxRecDepth 100000 in
theorem sloads_any (hs : List Th) (ls : List Ln) (p : Int) (hlh : hs.length ≤ 1048576) (hll : ls.length ≤ 1048576) (hth : ∀ x ∈ hs, ThIn x) (hln : ∀ x ∈ ls, LnIn x) (A B : Option Addr) (c d : Nat) (w : World) (hh : Rd w A (hs.flatMap thc)) (hl : Rd w B (ls.flatMap lnc)) :
    Calls Tryz.prog 118 #[.slice A hs.length c, .slice B ls.length d, .int .i64 p] w (RetL (supL hs ls p) w) := by
  have Hh := Lib.hid hh; have Hl := Lib.hid hl; have HTh := Lib.hid hth; have HLn := Lib.hid hln
  have f1 := Lib.hid (fun w hh hl => odd_no hs ls hlh hll hth hln A B c d w hh hl)
  clear hh hl hth hln
  go_enter Tryz.func118, Tryz.ntmps118
  go_wp2_with fail
  refine (f1.out _ Hh.out Hl.out).mono ?_
  rintro e W ⟨rfl, hb⟩
  have HB0 := Lib.hid hb
  have s0 := hb.size
  clear hb f1
  go_wp2
  go_loopw [8, 19] (fun s i wr => ∃ (k n : Nat) (A1 : Option Addr) (c1 : Nat), k ≤ hs.length ∧ i = .int .i64 k ∧ s = .slice A1 n c1 ∧ n ≤ k ∧ Hid ((supT hs p k).length = n) ∧ wr.ownsRow (W.heap.size) 109 4 (.slice A1 n c1) n ((supT hs p k).flatMap ldc) ∧ Below w.heap.size w wr ∧ W.heap.size ≤ wr.heap.size) (fun _ i _ => hs.length - (intOf i).toNat)
  case atStart => exact ⟨0, 0, none, 0, by omega, rfl, rfl, by omega, rfl, own_nilK _ _ _ _, HB0.out, Nat.le_refl _⟩
  case round =>
    obtain ⟨k, n, A1, c1, hk, rfl, rfl, hnk, Hn, ho, hB, sb⟩ := hrel
    have sB := hB.size
    have HB := Lib.hid hB; have HO := Lib.hid ho
    clear ho
    by_cases hlt : k < hs.length
    · obtain ⟨a, x, rfl, hx2, g0, g1, g2, g3⟩ := (Hh.out.below hB).thAt hlt
      have HYs : Hid (p < x.prio → supT hs p (k + 1) = supT hs p k ++ [thL x]) := Lib.hid (fun h => supT_yes hx2 h)
      have HNo : Hid (¬ p < x.prio → supT hs p (k + 1) = supT hs p k) := Lib.hid (fun h => supT_no hx2 h)
      have f4 := Lib.hid (fun w => steady_any x.period x.budget w)
      clear hB hx2
      obtain ⟨x0, x1, x2, x3⟩ := x
      unfold thL at HYs
      dsimp only at f4 g0 g1 g2 g3 HYs HNo
      by_cases hp : p < x0
      · have HT := Lib.hid (HYs.out hp)
        have hT1 : Hid ((supT hs p (k + 1)).length = n + 1) := Lib.hid (by rw [HT.out, List.length_append, Hn.out]; rfl)
        have hT2 : Hid ((supT hs p (k + 1)).flatMap ldc = (supT hs p k).flatMap ldc ++ [.int .i64 x2, .int .i64 0, .int .i64 x2, .int .i64 x1]) := Lib.hid (by rw [HT.out, List.flatMap_append]; rfl)
        clear HYs HNo HT
        go_wp2_with (first | (go_at_call 133; refine (f4.out _).mono ?_; rintro e w4 ⟨rfl, hb4⟩; have HO4 := Lib.hid (own_belowK (own_allocK HO.out _) hb4); have HB4 := Lib.hid ((HB.out.alloc sB _).trans (hb4.mono (by simp; omega))); have s4 := hb4.size; simp at s4; clear hb4) | (at_builtin; go_loud (refine wp_appK rfl _ _ sk_ld (by decide) rfl (own_allocK HO4.out _) rfl (by omega) (by simp; omega) w4.heap.size [.int .i64 x2, .int .i64 0, .int .i64 x2, .int .i64 x1] rfl rfl (fun j u hu => new_cell (w := w4) hu) rfl ?_); intro A5 c5 w5 ho5 hg5 _; have G5 := Lib.hid (grown_step HO4.out hg5); have HO5 := Lib.hid ho5; clear ho5 hg5))
        go_roundw
        case rel => exact ⟨k + 1, n + 1, A5, c5, by omega, by go_num, rfl, by omega, hT1, by rw [hT2.out]; exact HO5.out, G5.out.below HB4.out (by omega) (by omega), by have := G5.out.size; omega⟩
        case measure => simp [intOf]; omega
      · have HT := Lib.hid (HNo.out hp)
        clear HYs HNo
        go_wp2
        go_roundw
        case rel => exact ⟨k + 1, n, A1, c1, by omega, by go_num, rfl, by omega, by rw [HT.out]; exact Hn, by rw [HT.out]; exact own_allocK HO.out _, HB.out.alloc sB _, by simp; omega⟩
        case measure => simp [intOf]; omega
    · obtain rfl : k = hs.length := by omega
      clear hB
      go_wp2
      go_loopw [8, 38] (fun s i wr => ∃ (k : Nat) (A1 : Option Addr) (c1 : Nat), k ≤ ls.length ∧ i = .int .i64 k ∧ s = .slice A1 (n + k) c1 ∧ wr.ownsRow (W.heap.size) 109 4 (.slice A1 (n + k) c1) (n + k) ((supT hs p hs.length).flatMap ldc ++ (supLn ls k).flatMap ldc) ∧ Below w.heap.size w wr ∧ W.heap.size ≤ wr.heap.size) (fun _ i _ => ls.length - (intOf i).toNat)
      case atStart => exact ⟨0, A1, c1, by omega, rfl, rfl, by show _; simp [supLn]; exact HO.out, HB.out, sb⟩
      case round =>
        clear HO HB
        obtain ⟨k, A1, c1, hk, rfl, rfl, ho, hB, sb⟩ := hrel
        have sB := hB.size
        have HB := Lib.hid hB; have HO := Lib.hid ho
        clear ho
        by_cases hlt : k < ls.length
        · obtain ⟨a, x, rfl, hx2, g0, g1, g2, g3⟩ := (Hl.out.below hB).lnAt hlt
          have hxi : LnIn x := by rw [← hx2]; exact HLn.out _ (getD_mem hlt)
          have hT2 : Hid ((supLn ls (k + 1)).flatMap ldc = (supLn ls k).flatMap ldc ++ [.int .i64 x.window, .int .i64 0, .int .i64 x.window, .int .i64 (x.many * x.top)]) := Lib.hid (by
            show (supLn ls k ++ [lnL (ls.getD k ⟨0, 0, 0, 0⟩)]).flatMap ldc = _
            rw [hx2, List.flatMap_append]; rfl)
          have f4 := Lib.hid (fun w => steady_any x.window (x.many * x.top) w)
          have hm1 : 1 ≤ x.many * x.top := by
            have := Int.mul_le_mul_of_nonneg_left hxi.top.1 (by have := hxi.many.1; omega : 0 ≤ x.many)
            have := hxi.many.1
            omega
          have hm2 := hxi.all
          have f5 := Lib.hid (fun w => cost_yes (x.many * x.top) ⟨hm1, hm2⟩ w)
          clear hB hx2 hxi
          obtain ⟨x0, x1, x2, x3⟩ := x
          dsimp only at f4 g0 g1 g2 g3 hT2 hm1 hm2
          have e1 : IntKind.i64.wrap (x2 * x1) = x2 * x1 := IntWalk.i64_in _ (by omega)
          have e2 : wrap64 (x2 * x1) = x2 * x1 := by unfold wrap64; omega
          go_wp2_with (first | (go_at_call 134; refine (f5.out _).mono ?_; rintro e w' ⟨rfl, rfl⟩) | (go_at_call 133; refine (f4.out _).mono ?_; rintro e w4 ⟨rfl, hb4⟩; have HO4 := Lib.hid (own_belowK (own_allocK HO.out _) hb4); have HB4 := Lib.hid ((HB.out.alloc sB _).trans (hb4.mono (by simp; omega))); have s4 := hb4.size; simp at s4; clear hb4) | (at_builtin; go_loud (refine wp_appK rfl _ _ sk_ld (by decide) rfl (own_allocK HO4.out _) rfl (by omega) (by simp; omega) w4.heap.size [.int .i64 x3, .int .i64 0, .int .i64 x3, .int .i64 (x2 * x1)] rfl rfl (fun j u hu => new_cell (w := w4) hu) rfl ?_); intro A5 c5 w5 ho5 hg5 _; have G5 := Lib.hid (grown_step HO4.out hg5); have HO5 := Lib.hid ho5; clear ho5 hg5))
          go_roundw
          case rel => exact ⟨k + 1, A5, c5, by omega, by go_num, rfl, by rw [hT2.out, ← List.append_assoc]; exact HO5.out, G5.out.below HB4.out (by omega) (by omega), by have := G5.out.size; omega⟩
          case measure => simp [intOf]; omega
        · obtain rfl : k = ls.length := by omega
          clear hB
          go_wp2
          go_ret2
          have hlen : (supL hs ls p).length = n + ls.length := by unfold supL; rw [List.length_append, supLn_len, Hn.out]
          refine ⟨A1, c1, by rw [hlen]; rfl, ?_, HB.out⟩
          unfold supL
          rw [List.flatMap_append]
          exact own_rdK HO.out
set_option maxHeartbeats 4000000 in
set_option maxRecDepth 100000 in
theorem sloads24_any (hs : List Th) (ls : List Ln) (p : Int) (hlh : hs.length ≤ 1048576) (hll : ls.length ≤ 1048576) (hth : ∀ x ∈ hs, ThIn x) (hln : ∀ x ∈ ls, LnIn x) (A B : Option Addr) (c d : Nat) (w : World) (hh : Rd w A (hs.flatMap thc)) (hl : Rd w B (ls.flatMap lnc)) :
    Calls Tryz.prog 58 #[.slice A hs.length c, .slice B ls.length d, .int .i64 p] w (RetL (supL hs ls p) w) := by
  have Hh := Lib.hid hh; have Hl := Lib.hid hl; have HTh := Lib.hid hth; have HLn := Lib.hid hln
  clear hh hl hth hln
  go_enter Tryz.func58, Tryz.ntmps58
  go_wp2
  go_loopw [20] (fun i wr => ∃ k : Nat, k ≤ hs.length ∧ i = .int .i64 k ∧ Below w.heap.size w wr) (fun i _ => hs.length - (intOf i).toNat)
  case atStart => exact ⟨0, by omega, rfl, Below.refl _ _⟩
  case round =>
    obtain ⟨k, hk, rfl, hB⟩ := hrel
    have sB := hB.size
    have HB := Lib.hid hB
    by_cases hlt : k < hs.length
    · obtain ⟨a, x, rfl, hx2, g0, g1, g2, g3⟩ := (Hh.out.below hB).thAt hlt
      have f4 := Lib.hid (fun w => thread24_yes x (by rw [← hx2]; exact HTh.out _ (getD_mem hlt)) w)
      clear hB hx2
      obtain ⟨x0, x1, x2, x3⟩ := x
      unfold thv at f4
      dsimp only at f4 g0 g1 g2 g3
      go_wp2_with fail
      refine (f4.out _).mono ?_
      rintro e w4 ⟨rfl, hb4⟩
      have HB4 := Lib.hid ((HB.out.alloc sB _).trans (hb4.mono (by simp; omega)))
      clear hb4
      go_wp2
      go_roundw
      case rel => exact ⟨k + 1, by omega, by go_num, HB4.out⟩
      case measure => simp [intOf]; omega
    · obtain rfl : k = hs.length := by omega
      clear hB
      go_wp2
      go_loopw [30] (fun i wr => ∃ k : Nat, k ≤ ls.length ∧ i = .int .i64 k ∧ Below w.heap.size w wr) (fun i _ => ls.length - (intOf i).toNat)
      case atStart => exact ⟨0, by omega, rfl, HB.out⟩
      case round =>
        obtain ⟨k, hk, rfl, hB2⟩ := hrel
        have sB2 := hB2.size
        have HBB := Lib.hid hB2
        by_cases hlt : k < ls.length
        · obtain ⟨a, x, rfl, hx2, g0, g1, g2, g3⟩ := (Hl.out.below hB2).lnAt hlt
          have hxi : LnIn x := by rw [← hx2]; exact HLn.out _ (getD_mem hlt)
          have f4 := Lib.hid (fun w => line24_yes x hxi w)
          have f5 := Lib.hid (fun w => cost24_yes x.top hxi.top w)
          clear hB2 hx2 hxi
          obtain ⟨x0, x1, x2, x3⟩ := x
          unfold lnv at f4
          dsimp only at f4 f5 g0 g1 g2 g3
          go_wp2_with fail
          refine (f4.out _).mono ?_
          rintro e w4 ⟨rfl, hb4⟩
          have HB4 := Lib.hid ((HBB.out.alloc sB2 _).trans (hb4.mono (by simp; omega)))
          have HM4 := Lib.hid (box_keep (heap_alloc_new wr (.cells #[.int .i64 x0, .int .i64 x1, .int .i64 x2, .int .i64 x3] 58)) hb4)
          clear hb4
          obtain ⟨mx4, my4⟩ := box_rules HM4.out
          go_wp2_with (go_at_call 100; refine (f5.out _).mono ?_; rintro e w' ⟨rfl, rfl⟩)
          go_roundw
          case rel => exact ⟨k + 1, by omega, by go_num, HB4.out⟩
          case measure => simp [intOf]; omega
        · obtain rfl : k = ls.length := by omega
          clear hB2
          skip
          refine name_world fun W0 hW0 => ?_
          have HB0 : Hid (Below w.heap.size w W0) := Lib.hid (by rw [hW0]; exact HBB.out)
          have s0 := HB0.out.size
          clear HB HBB hW0
          go_wp2
          go_loopw [12, 46] (fun s i wr => ∃ (k n : Nat) (A1 : Option Addr) (c1 : Nat), k ≤ hs.length ∧ i = .int .i64 k ∧ s = .slice A1 n c1 ∧ n ≤ k ∧ Hid ((supT hs p k).length = n) ∧ wr.ownsRow (W0.heap.size) 109 4 (.slice A1 n c1) n ((supT hs p k).flatMap ldc) ∧ Below w.heap.size w wr ∧ W0.heap.size ≤ wr.heap.size) (fun _ i _ => hs.length - (intOf i).toNat)
          case atStart => exact ⟨0, 0, none, 0, by omega, rfl, rfl, by omega, rfl, own_nilK _ _ _ _, HB0.out, Nat.le_refl _⟩
          case round =>
            obtain ⟨k, n, A1, c1, hk, rfl, rfl, hnk, Hn, ho, hB, sb⟩ := hrel
            have sB := hB.size
            have HB := Lib.hid hB; have HO := Lib.hid ho
            clear ho
            by_cases hlt : k < hs.length
            · obtain ⟨a, x, rfl, hx2, g0, g1, g2, g3⟩ := (Hh.out.below hB).thAt hlt
              have HYs : Hid (p < x.prio → supT hs p (k + 1) = supT hs p k ++ [thL x]) := Lib.hid (fun h => supT_yes hx2 h)
              have HNo : Hid (¬ p < x.prio → supT hs p (k + 1) = supT hs p k) := Lib.hid (fun h => supT_no hx2 h)
              have f4 := Lib.hid (fun w => each24_any x.period x.budget w)
              clear hB hx2
              obtain ⟨x0, x1, x2, x3⟩ := x
              unfold thL at HYs
              dsimp only at f4 g0 g1 g2 g3 HYs HNo
              by_cases hp : p < x0
              · have HT := Lib.hid (HYs.out hp)
                have hT1 : Hid ((supT hs p (k + 1)).length = n + 1) := Lib.hid (by rw [HT.out, List.length_append, Hn.out]; rfl)
                have hT2 : Hid ((supT hs p (k + 1)).flatMap ldc = (supT hs p k).flatMap ldc ++ [.int .i64 x2, .int .i64 0, .int .i64 x2, .int .i64 x1]) := Lib.hid (by rw [HT.out, List.flatMap_append]; rfl)
                clear HYs HNo HT
                go_wp2_with (first | (go_at_call 101; refine (f4.out _).mono ?_; rintro e w4 ⟨rfl, hb4⟩; have HO4 := Lib.hid (own_belowK (own_allocK HO.out _) hb4); have HB4 := Lib.hid ((HB.out.alloc sB _).trans (hb4.mono (by simp; omega))); have s4 := hb4.size; simp at s4; clear hb4) | (at_builtin; go_loud (refine wp_appK rfl _ _ sk_ld (by decide) rfl (own_allocK HO4.out _) rfl (by omega) (by simp; omega) w4.heap.size [.int .i64 x2, .int .i64 0, .int .i64 x2, .int .i64 x1] rfl rfl (fun j u hu => new_cell (w := w4) hu) rfl ?_); intro A5 c5 w5 ho5 hg5 _; have G5 := Lib.hid (grown_step HO4.out hg5); have HO5 := Lib.hid ho5; clear ho5 hg5))
                go_roundw
                case rel => exact ⟨k + 1, n + 1, A5, c5, by omega, by go_num, rfl, by omega, hT1, by rw [hT2.out]; exact HO5.out, G5.out.below HB4.out (by omega) (by omega), by have := G5.out.size; omega⟩
                case measure => simp [intOf]; omega
              · have HT := Lib.hid (HNo.out hp)
                clear HYs HNo
                go_wp2
                go_roundw
                case rel => exact ⟨k + 1, n, A1, c1, by omega, by go_num, rfl, by omega, by rw [HT.out]; exact Hn, by rw [HT.out]; exact own_allocK HO.out _, HB.out.alloc sB _, by simp; omega⟩
                case measure => simp [intOf]; omega
            · obtain rfl : k = hs.length := by omega
              clear hB
              go_wp2
              go_loopw [12, 65] (fun s i wr => ∃ (k : Nat) (A1 : Option Addr) (c1 : Nat), k ≤ ls.length ∧ i = .int .i64 k ∧ s = .slice A1 (n + k) c1 ∧ wr.ownsRow (W0.heap.size) 109 4 (.slice A1 (n + k) c1) (n + k) ((supT hs p hs.length).flatMap ldc ++ (supLn ls k).flatMap ldc) ∧ Below w.heap.size w wr ∧ W0.heap.size ≤ wr.heap.size) (fun _ i _ => ls.length - (intOf i).toNat)
              case atStart => exact ⟨0, A1, c1, by omega, rfl, rfl, by show _; simp [supLn]; exact HO.out, HB.out, sb⟩
              case round =>
                clear HO HB
                obtain ⟨k, A1, c1, hk, rfl, rfl, ho, hB, sb⟩ := hrel
                have sB := hB.size
                have HB := Lib.hid hB; have HO := Lib.hid ho
                clear ho
                by_cases hlt : k < ls.length
                · obtain ⟨a, x, rfl, hx2, g0, g1, g2, g3⟩ := (Hl.out.below hB).lnAt hlt
                  have hxi : LnIn x := by rw [← hx2]; exact HLn.out _ (getD_mem hlt)
                  have hT2 : Hid ((supLn ls (k + 1)).flatMap ldc = (supLn ls k).flatMap ldc ++ [.int .i64 x.window, .int .i64 0, .int .i64 x.window, .int .i64 (x.many * x.top)]) := Lib.hid (by
                    show (supLn ls k ++ [lnL (ls.getD k ⟨0, 0, 0, 0⟩)]).flatMap ldc = _
                    rw [hx2, List.flatMap_append]; rfl)
                  have f4 := Lib.hid (fun w => each24_any x.window (x.many * x.top) w)
                  have hm1 : 1 ≤ x.many * x.top := by
                    have := Int.mul_le_mul_of_nonneg_left hxi.top.1 (by have := hxi.many.1; omega : 0 ≤ x.many)
                    have := hxi.many.1
                    omega
                  have hm2 := hxi.all
                  skip
                  clear hB hx2 hxi
                  obtain ⟨x0, x1, x2, x3⟩ := x
                  dsimp only at f4 g0 g1 g2 g3 hT2 hm1 hm2
                  have e1 : IntKind.i64.wrap (x2 * x1) = x2 * x1 := IntWalk.i64_in _ (by omega)
                  have e2 : wrap64 (x2 * x1) = x2 * x1 := by unfold wrap64; omega
                  go_wp2_with (first | (go_at_call 101; refine (f4.out _).mono ?_; rintro e w4 ⟨rfl, hb4⟩; have HO4 := Lib.hid (own_belowK (own_allocK HO.out _) hb4); have HB4 := Lib.hid ((HB.out.alloc sB _).trans (hb4.mono (by simp; omega))); have s4 := hb4.size; simp at s4; clear hb4) | (at_builtin; go_loud (refine wp_appK rfl _ _ sk_ld (by decide) rfl (own_allocK HO4.out _) rfl (by omega) (by simp; omega) w4.heap.size [.int .i64 x3, .int .i64 0, .int .i64 x3, .int .i64 (x2 * x1)] rfl rfl (fun j u hu => new_cell (w := w4) hu) rfl ?_); intro A5 c5 w5 ho5 hg5 _; have G5 := Lib.hid (grown_step HO4.out hg5); have HO5 := Lib.hid ho5; clear ho5 hg5))
                  go_roundw
                  case rel => exact ⟨k + 1, A5, c5, by omega, by go_num, rfl, by rw [hT2.out, ← List.append_assoc]; exact HO5.out, G5.out.below HB4.out (by omega) (by omega), by have := G5.out.size; omega⟩
                  case measure => simp [intOf]; omega
                · obtain rfl : k = ls.length := by omega
                  clear hB
                  go_wp2
                  go_ret2
                  have hlen : (supL hs ls p).length = n + ls.length := by unfold supL; rw [List.length_append, supLn_len, Hn.out]
                  refine ⟨A1, c1, by rw [hlen]; rfl, ?_, HB.out⟩
                  unfold supL
                  rw [List.flatMap_append]
                  exact own_rdK HO.out
end Go.Proofs.YtgampofpabllbaaGreat

/- Package rta: the walks of blocking and base. Conditions: lists that read; tasks that are right. -/
import Derived.Test.YtgampofpabllbaaGreatRtM
namespace Go.Proofs.YtgampofpabllbaaGreat
open Go.RowKit

set_option maxHeartbeats 4000000 in
set_option maxRecDepth 100000 in
theorem blocking_any (mn mx sw : Int) (ts : List Tk) (A : Option Addr) (ca : Nat) (B : Option Addr) (nb cb : Nat) (D : Option Addr) (nd cd : Nat) (t : Tk) (b : Nat) (hl : ts.length ≤ 1048576) (hts : ∀ x ∈ ts, TkIn x sw) (w : World) (ht : Rd w A (ts.flatMap tkc))
    (hc : w.heap[b]? = some (.cells (shc mn mx sw A ts.length ca B nb cb D nd cd t) 140 (0, 0))) :
    Calls Tryz.prog 120 #[.pointer (some ⟨b, 0, none⟩)] w fun e w' => e = .returned (.int .i64 (blockN ts t.prio ts.length)) ∧ Below w.heap.size w w' := by
  have Ht := Lib.hid ht; have HC := Lib.hid hc; have HTs := Lib.hid hts
  have f1 := Lib.hid (fun m w ht hc => ceil_any mn mx sw ts A ca B nb cb D nd cd t b m hl w ht hc)
  have Hin := Lib.hid (fun k hk => blockN_in (p := t.prio) hts k hk)
  clear ht hc hts
  obtain ⟨t0, p, t2, t3, t4, t5, t6, t7, t8, t9⟩ := t
  unfold shc at *
  dsimp only at *
  obtain ⟨hx, hy⟩ := box_rules HC.out
  go_enter Tryz.func120, Tryz.ntmps120
  go_wp2
  go_loopw [3, 12] (fun s i wr => ∃ k : Nat, k ≤ ts.length ∧ i = .int .i64 k ∧ s = .int .i64 (blockN ts p k) ∧ Below w.heap.size w wr) (fun _ i _ => ts.length - (intOf i).toNat)
  case atStart => exact ⟨0, by omega, rfl, rfl, Below.refl _ _⟩
  case round =>
    obtain ⟨k, hk, rfl, rfl, hB⟩ := hrel
    have sB := hB.size
    have HB := Lib.hid hB
    by_cases hlt : k < ts.length
    · obtain ⟨a, x, rfl, hx2, ⟨g0, g1, g2, g3⟩, g4, g5, g6, g7, g8, g9⟩ := (Ht.out.below hB).tkAt hlt
      have HS : Hid (blockN ts p (k + 1) = if decide (x.prio < p) && decide (0 ≤ x.lock) && decide (p ≤ ceilN ts x.lock ts.length) then max (blockN ts p k) (x.hi - x.lo) else blockN ts p k) := Lib.hid (blockN_of hx2)
      have HTI : Hid (TkIn x sw) := Lib.hid (by rw [← hx2]; exact HTs.out _ (getD_mem hlt))
      obtain ⟨i1, i2⟩ := Hin.out k hk
      clear hB hx2
      have f2 := Lib.hid (fun w ht hc => f1.out x.lock w ht hc)
      have HI1 := Lib.hid HTI.out.held
      have HI2 : Hid (x.cost ≤ 1099511627776) := Lib.hid (by have := HTI.out.cost; have := HTI.out.deadline; have := HTI.out.period; omega)
      clear HTI
      obtain ⟨x0, x1, x2, x3, x4, x5, x6, x7, x8, x9⟩ := x
      dsimp only at g0 g1 g2 g3 g4 g5 g6 g7 g8 g9 HS f2 HI1 HI2
      generalize ceilN ts x7 ts.length = c at *
      generalize blockN ts p k = m at *
      go_upto_region 5 with fail
      refine name_world fun W1 hW1 => ?_
      have HM1 : Hid (W1.heap[wr.heap.size]? = some (.cells #[.int .u8 x0, .int .i64 x1, .int .i64 x2, .int .i64 x3, .int .i64 x4, .int .i64 x5, .int .i64 x6, .int .i64 x7, .int .i64 x8, .int .i64 x9] 43 (0, 0))) := Lib.hid (by rw [hW1]; exact heap_alloc_new wr _)
      have HB1 : Hid (Below w.heap.size w W1) := Lib.hid (by rw [hW1]; exact HB.out.alloc sB _)
      clear hW1 g0 g1 g2 g3 g4 g5 g6 g7 g8 g9
      have HC1 := Lib.hid (box_keep HC.out HB1.out)
      have HT1 := Lib.hid (Ht.out.below HB1.out)
      obtain ⟨mx1, my1⟩ := box_rules HM1.out
      obtain ⟨cx1, cy1⟩ := box_rules HC1.out
      have sB1 := HB1.out.size
      by_cases hp : x1 < p
      · by_cases hlk : 0 ≤ x7
        · rw [decide_eq_true hp, decide_eq_true hlk, Bool.true_and, Bool.true_and] at HS
          have hp1 : decide (p ≤ x1) = false := by simp; omega
          have hlk1 : decide (x7 < 0) = false := by simp; omega
          obtain ⟨h1, h2, h3⟩ := HI1.out hlk
          have hq := HI2.out
          go_wp2
          go_big_quiet (fail)
          go_wp2
          refine name_world fun W2 hW2 => ?_
          have HB2 : Hid (Below W1.heap.size W1 W2) := Lib.hid (by rw [hW2]; exact bdrewN (Below.refl _ _) _)
          clear hW2
          have HM2 := Lib.hid (box_keep HM1.out HB2.out)
          have HC2 := Lib.hid (box_keep HC1.out HB2.out)
          have HT2 := Lib.hid (HT1.out.below HB2.out)
          have HBB := Lib.hid (HB1.out.trans (HB2.out.mono sB1))
          have sBB := HBB.out.size
          clear mx1 my1 cx1 cy1
          have hR := fun w' (h : Hid (Below W2.heap.size W2 w')) => (box_rules (box_keep HM2.out h.out)).1
          have hR2 := fun w' (h : Hid (Below W2.heap.size W2 w')) => (box_rules (box_keep HC2.out h.out)).1
          have mT := Lib.hid (fun w' (h : Hid (Below W2.heap.size W2 w')) => HT2.out.below h.out)
          have mC := Lib.hid (fun w' (h : Hid (Below W2.heap.size W2 w')) => box_keep HC2.out h.out)
          have hS0 := S_refl' W2
          go_region_held3 (fun w' => Hid (Below W2.heap.size W2 w')) ((first | assumption | exact S_alloc' (by assumption) _ | exact S_drew' (by assumption) | exact S_drew' (S_alloc' (by assumption) _))) ((go_at_call 137; refine (f2.out _ (mT.out _ (by assumption)) (mC.out _ (by assumption))).mono ?_; rintro e w' ⟨rfl, hb⟩; have hk := S_call' (W := W2) (by assumption) hb; clear hb))
          have hk9 : Hid (Below W2.heap.size W2 w') := by assumption
          have q9 := hR _ hk9
          have HB9 := Lib.hid (HBB.out.trans (hk9.out.mono sBB))
          clear hR hR2 mT mC hS0
          by_cases hpc : p ≤ c
          · rw [decide_eq_true hpc, if_pos rfl] at HS
            go_wp2
            go_roundw
            case rel => exact ⟨k + 1, by omega, by go_num, by rw [HS.out]; first | (rw [show max m (x9 - x8) = if m < x9 - x8 then x9 - x8 else m by split <;> omega]) | (rw [show max m (x9 - x8) = m by omega]) | (rw [show max m (x9 - x8) = x9 - x8 by omega]), HB9.out⟩
            case measure => simp [intOf]; omega
          · rw [decide_eq_false hpc, if_neg (by simp)] at HS
            go_wp2
            go_roundw
            case rel => exact ⟨k + 1, by omega, by go_num, by rw [HS.out], HB9.out⟩
            case measure => simp [intOf]; omega
        · rw [decide_eq_true hp, decide_eq_false hlk, Bool.and_false, Bool.false_and, if_neg (by simp)] at HS
          have hp1 : decide (p ≤ x1) = false := by simp; omega
          have hlk1 : decide (x7 < 0) = true := by simp; omega
          go_wp2
          go_big_quiet (fail)
          go_wp2
          go_roundw
          case rel => exact ⟨k + 1, by omega, by go_num, by rw [HS.out], bdrewN HB1.out _⟩
          case measure => simp [intOf]; omega
      · rw [decide_eq_false hp, Bool.false_and, Bool.false_and, if_neg (by simp)] at HS
        have hp1 : decide (p ≤ x1) = true := by simp; omega
        go_wp2
        go_big_quiet (fail)
        go_wp2
        go_roundw
        case rel => exact ⟨k + 1, by omega, by go_num, by rw [HS.out], bdrewN HB1.out _⟩
        case measure => simp [intOf]; omega
    · obtain rfl : k = ts.length := by omega
      clear hB
      go_wp2
      go_ret
      exact ⟨rfl, HB.out⟩
def baseN (sw : Int) (ts : List Tk) (t : Tk) : Int := t.cost + sw + blockN ts t.prio ts.length
set_option maxHeartbeats 2000000 in
theorem base_any (mn mx sw : Int) (ts : List Tk) (A : Option Addr) (ca : Nat) (B : Option Addr) (nb cb : Nat) (D : Option Addr) (nd cd : Nat) (t : Tk) (b : Nat) (hl : ts.length ≤ 1048576) (hts : ∀ x ∈ ts, TkIn x sw) (hsw : 0 ≤ sw ∧ sw ≤ 1099511627776) (ht1 : TkIn t sw) (w : World) (ht : Rd w A (ts.flatMap tkc))
    (hc : w.heap[b]? = some (.cells (shc mn mx sw A ts.length ca B nb cb D nd cd t) 140 (0, 0))) :
    Calls Tryz.prog 93 #[.pointer (some ⟨b, 0, none⟩)] w fun e w' => e = .returned (.int .i64 (baseN sw ts t)) ∧ Below w.heap.size w w' := by
  have Ht := Lib.hid ht; have HC := Lib.hid hc
  have f1 := Lib.hid (fun w ht hc => blocking_any mn mx sw ts A ca B nb cb D nd cd t b hl hts w ht hc)
  obtain ⟨i1, i2⟩ := blockN_in (p := t.prio) hts ts.length (Nat.le_refl _)
  obtain ⟨c1, c2⟩ := ht1.cost
  have d2 := ht1.deadline.2
  have p2 := ht1.period.2
  obtain ⟨s1, s2⟩ := hsw
  clear ht hc hts ht1
  have HN : Hid (baseN sw ts t = t.cost + sw + blockN ts t.prio ts.length) := Lib.hid rfl
  generalize baseN sw ts t = N at *
  obtain ⟨t0, p, t2, t3, t4, t5, t6, t7, t8, t9⟩ := t
  unfold shc at *
  dsimp only at *
  generalize blockN ts p ts.length = m at *
  have hR := fun w' (h : Hid (Below w.heap.size w w')) => (box_rules (box_keep HC.out h.out)).1
  have mT := Lib.hid (fun w' (h : Hid (Below w.heap.size w w')) => Ht.out.below h.out)
  have mC := Lib.hid (fun w' (h : Hid (Below w.heap.size w w')) => box_keep HC.out h.out)
  have hS0 := S_refl' w
  have e1 : IntKind.i64.wrap (t5 + sw) = t5 + sw := IntWalk.i64_in _ (by omega)
  have e2 : IntKind.i64.wrap (t5 + sw + m) = t5 + sw + m := IntWalk.i64_in _ (by omega)
  go_enter Tryz.func93, Tryz.ntmps93
  go_wp2_with fail
  go_region_held3 (fun w' => Hid (Below w.heap.size w w')) ((first | assumption | exact S_alloc' (by assumption) _ | exact S_drew' (by assumption) | exact S_drew' (S_alloc' (by assumption) _))) ((go_at_call 120; refine (f1.out _ (mT.out _ (by assumption)) (mC.out _ (by assumption))).mono ?_; rintro e w' ⟨rfl, hb⟩; have hk := S_call' (W := w) (by assumption) hb; clear hb))
  have hk9 : Hid (Below w.heap.size w w') := by assumption
  clear hR mT mC hS0 e1 e2
  go_wp2
  go_ret
  exact ⟨ret_int HN.out.symm, hk9.out⟩
end Go.Proofs.YtgampofpabllbaaGreat

/- math/bits.TrailingZeros64 and the iterator bits.Each: the numbers of a set, rising. Conditions: a word below 2^64; the de Bruijn table as its initialiser lays it. -/
import Derived.Test.YtpncbkodhojicaaDoorRef05I
import Derived.Test.YtpncbkodhojicaaDoorRange
namespace Go.Proofs.YtpncbkodhojicaaDoor
open Go.RowKit Go.Shelf
attribute [local go_sem] Oper.semAt_some

/-- The table in its variable. -/
def Tab (w : World) : Prop := ∀ j, j < 64 → w.cell? ⟨0, j, none⟩ = some (.int .u8 ((Lib.deBruijn64tab.getD j 0 : Nat) : Int))
theorem Tab.below {w w' : World} {B : Nat} (h : Tab w) (hb : Below B w w') (h0 : 0 < B) : Tab w' := fun j hj => (hb.cell (p := ⟨0, j, none⟩) h0).trans (h j hj)
theorem Tab.lt {w : World} (h : Tab w) : 0 < w.heap.size := World.block_lt_of_cell? w _ (h 0 (by omega))

theorem tz_key (x a : Nat) (hx : x < 18446744073709551616) (hx0 : x ≠ 0) (hlow : x &&& (18446744073709551616 - x) = a) :
    IntKind.u64.wrap (bits BinOp.and IntKind.u64 (x : Int) (IntKind.u64.wrap (-(x : Int))) * 285870213051353865) / 288230376151711744 = ((a * 285870213051353865 % 18446744073709551616 / 288230376151711744 : Nat) : Int) := by
  have e1 : IntKind.u64.wrap (-(x : Int)) = ((18446744073709551616 - x : Nat) : Int) := by rw [IntKind.wrap_u64]; omega
  rw [e1, u64_and_nat x _ hx (by omega), hlow, IntKind.wrap_u64]
  omega

theorem tz_core (x k idx : Nat) (w : World) (hx0 : ((x : Int) == 0) = false)
    (key : IntKind.u64.wrap (bits BinOp.and IntKind.u64 (x : Int) (IntKind.u64.wrap (-(x : Int))) * 285870213051353865) / 288230376151711744 = (idx : Int))
    (hi : idx < 64) (hk : k < 64) (hcell : w.cell? ⟨0, idx, none⟩ = some (.int .u8 k)) :
    Calls Tryd.prog 55 #[.int .u64 x] w fun e w' => e = .returned (.int .i64 k) ∧ w = w' := by
  go_enter Tryd.func55, Tryd.ntmps55
  go_wp2_with (simp only [key])
  go_ret
  exact ⟨rfl, rfl⟩

/-- math/bits.TrailingZeros64, x not 0 -/
theorem tz_any (x : Nat) (w : World) (h0 : 0 < x) (hx : x < 18446744073709551616) (hT : Tab w) :
    Calls Tryd.prog 55 #[.int .u64 x] w fun e w' => e = .returned (.int .i64 (Lib.ctz 64 x : Nat)) ∧ w = w' := by
  obtain ⟨hlow, hk⟩ := Lib.lowest_bit 64 x (by omega) hx
  obtain ⟨hi, htab⟩ := Lib.deBruijn64_at _ hk
  have hcell := hT _ hi
  rw [htab] at hcell
  exact tz_core x _ _ w (by simp; omega) (tz_key x _ hx (by omega) hlow) hi hk hcell

theorem u64_low {x : Nat} (h0 : 0 < x) (hx : x < 18446744073709551616) : bits .and .u64 (x : Int) ((x : Int) - 1) = ((x &&& (x - 1) : Nat) : Int) := by
  have e : ((x : Int) - 1) = ((x - 1 : Nat) : Int) := by omega
  rw [e, u64_and_nat _ _ hx (by omega)]

theorem low_lt {x : Nat} (h0 : 0 < x) : x &&& (x - 1) < x := Nat.lt_of_le_of_lt Nat.and_le_right (by omega)

/-- A number of the set b. -/
abbrev Bit (b : Nat) := { i : Nat // i < 64 ∧ b.testBit i = true }
def bv {b : Nat} (l : List (Bit b)) : List Nat := l.map (·.1)

set_option maxHeartbeats 1000000 in
/-- what bits.Each hands back: its numbers come, rising -/
theorem each_iter (b Bb n₀ : Nat) (w : World) (hb : b < 18446744073709551616) (hT : Tab w) (hg : 0 < n₀) (hn : n₀ ≤ w.heap.size) (hc : w.cell? ⟨Bb, 0, none⟩ = some (.int .u64 b)) :
    Iter Tryd.prog 54 #[.pointer (some ⟨Bb, 0, none⟩)] (fun i : Bit b => #[.int .i64 (i.1 : Nat)]) n₀ (fun xs => bv xs = bitsOf b) (fun pre => bv pre <+: bitsOf b) 64 w := fun l J Jx W hW hJ hJx hY h0 => by
  have hc' : W.cell? ⟨Bb, 0, none⟩ = some (.int .u64 b) := (hW.cell (p := ⟨Bb, 0, none⟩) (World.block_lt_of_cell? w _ hc)).trans hc
  have hT' : Tab W := hT.below hW (Nat.lt_of_lt_of_le hg hn)
  clear hc hT hW hJ hJx
  refine callsIn_of_wp Tryd.func54 rfl trivial ?_ rfl
  simp only [Tryd.ntmps54, List.size_toArray, List.length_cons, List.length_nil, Nat.reduceAdd, Nat.reduceSub, Array.replicate_succ, Array.replicate_zero, List.push_toArray, List.append_toArray, List.nil_append, List.cons_append]
  have HT := Lib.hid hT'; clear hT'
  have HY := Lib.hid hY; clear hY
  gi_wp2
  gi_loopw [3] (fun p wr => ∃ (pre : List (Bit b)) (x : Nat), p = .int .u64 x ∧ x < 18446744073709551616 ∧ bitsOf b = bv pre ++ bitsOf x ∧ J pre wr ∧ Tab wr) (fun p _ => (intOf p).toNat)
  case atStart => exact ⟨[], b, rfl, hb, rfl, h0, HT.out⟩
  case round =>
    obtain ⟨pre, x, rfl, hx, hp, hj, ht⟩ := hrel
    have Hp := Lib.hid hp; clear hp
    have Ht := Lib.hid ht; clear ht
    by_cases hx0 : x = 0
    · subst hx0
      gi_wp2
      go_end0
      exact ⟨⟨_, rfl⟩, .inl ⟨pre, by rw [Hp.out]; exact (List.append_nil _).symm, hj⟩⟩
    · have hpos : 0 < x := by omega
      have hb' := Lib.hid (bitsFrom x hpos hx)
      have hxn : ((x : Int) != 0) = true := by simp; omega
      have Hl := Lib.hid (u64_low hpos hx)
      have hll := low_lt hpos
      have f1 := Lib.hid (tz_any x wr hpos hx Ht.out)
      have hlen : pre.length < 64 := by
        have h1 : (bitsOf b).length ≤ 64 := bitsTo_len b 64
        rw [Hp.out, hb'.out] at h1
        simp [bv] at h1; omega
      have hmem : Lib.ctz 64 x < 64 ∧ b.testBit (Lib.ctz 64 x) = true := by
        apply mem_bitsOf.1
        rw [Hp.out, hb'.out]; simp
      obtain ⟨fn, tmps, assign, body, hy, hR⟩ := HY.out pre ⟨Lib.ctz 64 x, hmem⟩ wr hj hlen
      dsimp only at hy


      generalize hc : Lib.ctz 64 x = c at *
      have Hc := Lib.hid hc; clear hc hx0
      have HR := Lib.hid hR; clear hR
      gi_wp2_with (refine ⟨trivial, ?_⟩; gi_at_call 55; refine (callsIn_wide.2 f1.out).mono ?_; rintro e w' ⟨rfl, rfl⟩)
      refine HR.out.mono ?_
      rintro e W3 (⟨rfl, hJ3, hk3⟩ | ⟨rfl, hJx3⟩)
      · gi_wp2
        go_roundw
        case rel =>
          refine ⟨pre ++ [⟨c, hmem⟩], x &&& (x - 1), by rw [Hl.out], by omega, by rw [Hp.out, hb'.out]; simp [bv], hJ3, Ht.out.below hk3 hg⟩
        case measure => rw [Hl.out]; simp [intOf]; omega
      · gi_wp2
        refine bodyPost_ret (results_none rfl _ _ _) rfl ?_
        exact ⟨⟨_, rfl⟩, .inr ⟨pre ++ [⟨c, hmem⟩], by rw [Hp.out, hb'.out]; exact ⟨bitsOf (x &&& (x - 1)), by simp [bv]⟩, hJx3⟩⟩

/-- bits.Each -/
theorem each_any (b : Nat) (w : World) :
    Calls Tryd.prog 33 #[.int .u64 b] w fun e w' => e = .returned (.func (.func 54) #[] #[.pointer (some ⟨w.heap.size, 0, none⟩)]) ∧ w.alloc (.cells #[.int .u64 b] 66) = w' := by
  go_enter Tryd.func33, Tryd.ntmps33
  go_wp2
  go_ret
  exact ⟨rfl, rfl⟩
end Go.Proofs.YtpncbkodhojicaaDoor

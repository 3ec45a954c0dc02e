/- Package vet: the walks of change, many, found, shot.Check. Conditions: none. -/
import Derived.Test.YtgampofpabllbaaVetS
namespace Go.Proofs.Ytgampofpabllbaa
open Go.RowKit

/-- A configuration's value. -/
def cfv (mn mx sw : Int) (A : Option Addr) (nt ca : Nat) (B : Option Addr) (nl cb : Nat) (D : Option Addr) (nh cd : Nat) : Value :=
  .agg #[.int .i64 mn, .int .i64 mx, .int .i64 sw, .slice A nt ca, .slice B nl cb, .slice D nh cd]

set_option maxHeartbeats 1000000 in
theorem change_any (mn mx sw : Int) (A : Option Addr) (nt ca : Nat) (B : Option Addr) (nl cb : Nat) (D : Option Addr) (nh cd : Nat) (w : World) : Calls Try.prog 32 #[cfv mn mx sw A nt ca B nl cb D nh cd] w fun e w' => e = .returned (.int .i64 (chWhy sw)) ∧ Below w.heap.size w w' := by
  unfold cfv chWhy
  have q := Lib.hid (fun w => within_any sw 0 1099511627776 w)
  generalize inB sw 0 1099511627776 = b at *
  cases b
  all_goals
    go_enter Try.func32, Try.ntmps32
    go_wp2_with (go_at_call 40; refine (q.out _).mono ?_; rintro e w' ⟨rfl, rfl⟩)
    go_ret
    first
    | exact ⟨rfl, Below.refl _ _⟩
    | exact ⟨rfl, (Below.refl _ _).alloc (Nat.le_refl _) _⟩

theorem found_any (p i y : Int) (w : World) : Calls Try.prog 31 #[.int .u8 p, .int .i64 i, .int .i64 y] w fun e w' => e = .returned (.agg #[.int .u8 p, .int .i64 i, .int .i64 y]) ∧ Below w.heap.size w w' := by
  go_enter Try.func31, Try.ntmps31
  go_wp2
  refine bodyPost_ret (v := .agg #[.int .u8 p, .int .i64 i, .int .i64 y]) (by simp [results, Try.f31, go_sem]) rfl ?_
  exact ⟨rfl, (Below.refl _ _).alloc (Nat.le_refl _) _⟩
set_option maxHeartbeats 1000000 in
theorem many_any (mn mx sw : Int) (A : Option Addr) (nt ca : Nat) (B : Option Addr) (nl cb : Nat) (D : Option Addr) (nh cd : Nat) (w : World) : Calls Try.prog 33 #[cfv mn mx sw A nt ca B nl cb D nh cd] w fun e w' => e = .returned (.int .i64 (mnWhy nt nl nh)) ∧ Below w.heap.size w w' := by
  unfold cfv
  have q := Lib.hid (fun w => within_any nt 1 32 w)
  have i1 := Lib.hid (inB_true (n := nt) (lo := 1) (hi := 32))
  have i2 := Lib.hid (inB_false (n := nt) (lo := 1) (hi := 32))
  generalize inB nt 1 32 = b at *
  cases b
  all_goals
    go_enter Try.func33, Try.ntmps33
    go_wp2_with (go_at_call 40; refine (q.out _).mono ?_; rintro e w' ⟨rfl, rfl⟩)
  all_goals
    go_ret
    refine ⟨?_, (Below.refl _ _).alloc (Nat.le_refl _) _⟩
    refine ret_int (Eq.symm ?_)
    unfold mnWhy
    have j1 := i1.out
    have j2 := i2.out
    try simp only [true_iff, false_iff, reduceCtorEq] at j1 j2
    first
    | (rw [if_pos (by omega)]; done)
    | (rw [if_neg (by omega)]; done)
    | (rename_i h; simp at h; rw [if_pos (by omega)]; done)
    | (rename_i h; simp at h; rw [if_neg (by omega)]; done)
/-- A number of 64 bits. -/
def I64 (n : Int) : Prop := -9223372036854775808 ≤ n ∧ n ≤ 9223372036854775807
theorem half_wrap {mx : Int} (h : I64 mx) : wrap64 (mx.tdiv 2) = mx.tdiv 2 ∧ (mx.tdiv 2 * 2 ≤ mx + 1 ∧ mx ≤ mx.tdiv 2 * 2 + 1) := by
  have h1 : mx.tdiv 2 * 2 ≤ mx + 1 ∧ mx ≤ mx.tdiv 2 * 2 + 1 := by
    rcases Int.le_total 0 mx with h0 | h0
    · rw [Int.tdiv_eq_ediv_of_nonneg h0]; omega
    · have e : mx.tdiv 2 = -((-mx).tdiv 2) := by rw [Int.neg_tdiv]; omega
      rw [e, Int.tdiv_eq_ediv_of_nonneg (by omega : 0 ≤ -mx)]; omega
  refine ⟨?_, h1⟩
  unfold I64 at h
  exact Go.IntWalk.wrap64_in _ (by omega)
theorem half_iff {mx mn : Int} (h : 1 ≤ mn) : mx < 2 * mn ↔ mx.tdiv 2 < mn := by
  rcases Int.le_total 0 mx with h0 | h0
  · rw [Int.tdiv_eq_ediv_of_nonneg h0]; omega
  · have : mx.tdiv 2 ≤ 0 := by
      have := Int.tdiv_nonneg (a := -mx) (b := 2) (by omega) (by omega)
      rw [Int.neg_tdiv] at this
      omega
    omega
theorem shot_any (mn mx : Int) (hmx : I64 mx) (w : World) : Calls Try.prog 9 #[.agg #[.int .i64 mn, .int .i64 mx]] w fun e w' => e = .returned (.int .i64 (tmWhy mn mx)) ∧ Below w.heap.size w w' := by
  have e := Lib.hid (half_wrap hmx).1
  clear hmx
  go_enter Try.func9, Try.ntmps9
  go_wp2_with (rw [e.out])
  all_goals
    go_ret
    refine ⟨?_, (Below.refl _ _).alloc (Nat.le_refl _) _⟩
    refine ret_int (Eq.symm ?_)
    have i := half_iff (mx := mx) (mn := mn)
    unfold tmWhy
    first
    | (rw [if_pos (by omega)]; done)
    | (rw [if_neg (by omega)]; done)
end Go.Proofs.Ytgampofpabllbaa

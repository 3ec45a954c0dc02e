/- Packages supply and vergeref24: the walks of Loads, of threads and lines that are right. Conditions: lists that read. -/
import Derived.Test.YtgampofpabllbaaGreatRtA
import Derived.Test.YtgampofpabllbaaGreatRtB
import Derived.Test.YtgampofpabllbaaGreatWhyP
import Derived.Test.YtgampofpabllbaaGreatVetF
namespace Go.Proofs.YtgampofpabllbaaGreat
open Go.RowKit

def thL (x : Th) : Ld := ⟨x.period, 0, x.period, x.budget⟩
def lnL (x : Ln) : Ld := ⟨x.window, 0, x.window, x.many * x.top⟩
/-- The loads of the threads that are more urgent, among the first k. -/
def supT (hs : List Th) (p : Int) : Nat → List Ld
  | 0 => []
  | k + 1 => supT hs p k ++ if p < (hs.getD k ⟨0, 0, 0, 0⟩).prio then [thL (hs.getD k ⟨0, 0, 0, 0⟩)] else []
def supLn (ls : List Ln) : Nat → List Ld
  | 0 => []
  | k + 1 => supLn ls k ++ [lnL (ls.getD k ⟨0, 0, 0, 0⟩)]
def supL (hs : List Th) (ls : List Ln) (p : Int) : List Ld := supT hs p hs.length ++ supLn ls ls.length
theorem supT_len (hs : List Th) (p : Int) : ∀ k, (supT hs p k).length ≤ k
  | 0 => Nat.le_refl _
  | k + 1 => by
    have ih := supT_len hs p k
    show (supT hs p k ++ _).length ≤ _
    rw [List.length_append]
    split
    · rw [List.length_singleton]; omega
    · rw [List.length_nil]; omega
theorem supLn_len (ls : List Ln) : ∀ k, (supLn ls k).length = k
  | 0 => rfl
  | k + 1 => by show (supLn ls k ++ _).length = _; rw [List.length_append, supLn_len]; rfl
theorem supT_yes {hs : List Th} {p : Int} {k : Nat} {x : Th} (hx : hs.getD k ⟨0, 0, 0, 0⟩ = x) (h : p < x.prio) : supT hs p (k + 1) = supT hs p k ++ [thL x] := by
  show supT hs p k ++ _ = _
  rw [hx, if_pos h]
theorem supT_no {hs : List Th} {p : Int} {k : Nat} {x : Th} (hx : hs.getD k ⟨0, 0, 0, 0⟩ = x) (h : ¬ p < x.prio) : supT hs p (k + 1) = supT hs p k := by
  show supT hs p k ++ _ = _
  rw [hx, if_neg h, List.append_nil]
/-- A list of loads, and no error. -/
def RetL (l : List Ld) (w : World) (e : Ending) (w' : World) : Prop :=
  ∃ A c, e = .returned (.tuple #[.slice A l.length c, .int .i64 0]) ∧ Rd w' A (l.flatMap ldc) ∧ Below w.heap.size w w'
theorem sk_ld : SlK Tryz.prog 76 109 4 32 := SlK.mk' (z := .agg #[.int .i64 0, .int .i64 0, .int .i64 0, .int .i64 0]) Tryz.underlying76 (by kernel_rfl) rfl (by decide)
theorem cost_yes (n : Int) (h : 1 ≤ n ∧ n ≤ 1099511627776) (w : World) : Calls Tryz.prog 134 #[.int .i64 n] w fun e w' => e = .returned (.bool true) ∧ w = w' := by
  obtain ⟨h1, h2⟩ := h
  go_enter Tryz.func134, Tryz.ntmps134
  go_wp2
  go_ret
  exact ⟨rfl, rfl⟩
theorem cost24_yes (n : Int) (h : 1 ≤ n ∧ n ≤ 1099511627776) (w : World) : Calls Tryz.prog 100 #[.int .i64 n] w fun e w' => e = .returned (.bool true) ∧ w = w' := by
  obtain ⟨h1, h2⟩ := h
  go_enter Tryz.func100, Tryz.ntmps100
  go_wp2
  go_ret
  exact ⟨rfl, rfl⟩
theorem served_yes (x : Th) (h : ThIn x) (w : World) : Calls Tryz.prog 146 #[thv x] w fun e w' => e = .returned (.bool true) ∧ Below w.heap.size w w' := by
  obtain ⟨⟨h1, h2⟩, h3, _, _⟩ := h
  have f1 := Lib.hid (fun w => cost_yes x.period (by omega) w)
  obtain ⟨x0, x1, x2, x3⟩ := x
  unfold thv
  dsimp only at *
  go_enter Tryz.func146, Tryz.ntmps146
  go_wp2_with (go_at_call 134; refine (f1.out _).mono ?_; rintro e w' ⟨rfl, rfl⟩)
  go_ret
  exact ⟨rfl, (Below.refl _ _).alloc (Nat.le_refl _) _⟩
theorem thread24_yes (x : Th) (h : ThIn x) (w : World) : Calls Tryz.prog 98 #[thv x] w fun e w' => e = .returned (.bool true) ∧ Below w.heap.size w w' := by
  obtain ⟨⟨h1, h2⟩, h3, _, _⟩ := h
  have f1 := Lib.hid (fun w => cost24_yes x.period (by omega) w)
  obtain ⟨x0, x1, x2, x3⟩ := x
  unfold thv
  dsimp only at *
  go_enter Tryz.func98, Tryz.ntmps98
  go_wp2_with (go_at_call 100; refine (f1.out _).mono ?_; rintro e w' ⟨rfl, rfl⟩)
  go_ret
  exact ⟨rfl, (Below.refl _ _).alloc (Nat.le_refl _) _⟩
theorem masked_yes (x : Ln) (h : LnIn x) (w : World) : Calls Tryz.prog 147 #[lnv x] w fun e w' => e = .returned (.bool true) ∧ Below w.heap.size w w' := by
  obtain ⟨⟨h1, h2⟩, h3, _, _, _⟩ := h
  have f1 := Lib.hid (fun w => cost_yes x.window h3 w)
  obtain ⟨x0, x1, x2, x3⟩ := x
  unfold lnv
  dsimp only at *
  go_enter Tryz.func147, Tryz.ntmps147
  go_wp2_with (go_at_call 134; refine (f1.out _).mono ?_; rintro e w' ⟨rfl, rfl⟩)
  go_ret
  exact ⟨rfl, (Below.refl _ _).alloc (Nat.le_refl _) _⟩
theorem line24_yes (x : Ln) (h : LnIn x) (w : World) : Calls Tryz.prog 99 #[lnv x] w fun e w' => e = .returned (.bool true) ∧ Below w.heap.size w w' := by
  obtain ⟨⟨h1, h2⟩, h3, _, _, _⟩ := h
  have f1 := Lib.hid (fun w => cost24_yes x.window h3 w)
  obtain ⟨x0, x1, x2, x3⟩ := x
  unfold lnv
  dsimp only at *
  go_enter Tryz.func99, Tryz.ntmps99
  go_wp2_with (go_at_call 100; refine (f1.out _).mono ?_; rintro e w' ⟨rfl, rfl⟩)
  go_ret
  exact ⟨rfl, (Below.refl _ _).alloc (Nat.le_refl _) _⟩
theorem steady_any (p n : Int) (w : World) : Calls Tryz.prog 133 #[.int .i64 p, .int .i64 n] w fun e w' => e = .returned (.agg #[.int .i64 p, .int .i64 0, .int .i64 p, .int .i64 n]) ∧ Below w.heap.size w w' := by
  go_enter Tryz.func133, Tryz.ntmps133
  go_wp2
  refine bodyPost_ret (v := .agg #[.int .i64 p, .int .i64 0, .int .i64 p, .int .i64 n]) (by simp [results, Tryz.f133, go_sem]) rfl ⟨rfl, ?_⟩
  repeat (first | (with_reducible exact Below.refl _ _) | ((with_reducible refine Below.setCell ?_ ?_ _); rotate_left 1; focus (first | (with_reducible exact Nat.le_refl _) | (simp; done))) | ((with_reducible refine Below.alloc ?_ ?_ _); rotate_left 1; focus (first | (simp; done) | (simp; omega) | omega)))
theorem each24_any (p n : Int) (w : World) : Calls Tryz.prog 101 #[.int .i64 p, .int .i64 n] w fun e w' => e = .returned (.agg #[.int .i64 p, .int .i64 0, .int .i64 p, .int .i64 n]) ∧ Below w.heap.size w w' := by
  go_enter Tryz.func101, Tryz.ntmps101
  go_wp2
  refine bodyPost_ret (v := .agg #[.int .i64 p, .int .i64 0, .int .i64 p, .int .i64 n]) (by simp [results, Tryz.f101, go_sem]) rfl ⟨rfl, ?_⟩
  repeat (first | (with_reducible exact Below.refl _ _) | ((with_reducible refine Below.setCell ?_ ?_ _); rotate_left 1; focus (first | (with_reducible exact Nat.le_refl _) | (simp; done))) | ((with_reducible refine Below.alloc ?_ ?_ _); rotate_left 1; focus (first | (simp; done) | (simp; omega) | omega)))
end Go.Proofs.YtgampofpabllbaaGreat

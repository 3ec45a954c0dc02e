/- The family: as data; the walks of admit.task, admit.Family, vergeref29.Family. No premise of its own. -/
import Derived.Test.YtlnjeelbfokdpaaAdBQ
namespace Go.Proofs.Ytlnjeelbfokdpaa
open Go.RowKit Go.Shelf

def famTk (k : Nat) : Tk := ⟨if k % 2 = 1 then 2 else 1, 40 - k, 1000 * (k + 1), 0, 1000 * (k + 1), 40, 2, if k = 0 ∨ k = 3 then 0 else -1, if k = 0 ∨ k = 3 then 5 else 0, if k = 0 ∨ k = 3 then 15 else 0⟩
def famTs (n : Nat) : List Tk := (List.range n).map famTk
def famLs : List Ln := [⟨2, 5, 2, 500⟩, ⟨4, 3, 1, 300⟩]
def famHs : List Th := [⟨50, 20, 500, 4⟩, ⟨20, 10, 400, 2⟩]
theorem famTs_succ (n : Nat) : famTs (n + 1) = famTs n ++ [famTk n] := by unfold famTs; rw [List.range_succ, List.map_append]; rfl
theorem famTs_len (n : Nat) : (famTs n).length = n := by unfold famTs; simp
def famIn (n : Int) : Prop := 1 ≤ n ∧ n ≤ 8
instance (n : Int) : Decidable (famIn n) := by unfold famIn; infer_instance
/-- The family's member, or none. -/
def famC (n : Int) : Cf := if famIn n then ⟨4, 1000, 2, famTs n.toNat, famLs, famHs⟩ else ⟨0, 0, 0, [], [], []⟩
def famY (n : Int) : Int := if famIn n then 0 else 1
def RetF (c : Cf) (y : Int) (w : World) (e : Ending) (w' : World) : Prop :=
  ∃ (A : Option Addr) (ca : Nat) (B : Option Addr) (cb : Nat) (D : Option Addr) (cd : Nat), e = .returned (.tuple #[cfv c.mn c.mx c.sw A c.ts.length ca B c.ls.length cb D c.hs.length cd, .int .i64 y]) ∧
    Rd w' A (c.ts.flatMap tkc) ∧ Rd w' B (c.ls.flatMap lnc) ∧ Rd w' D (c.hs.flatMap thc) ∧ Below w.heap.size w w'
theorem skf_tk : SlK Try.prog 25 43 10 80 := SlK.mk' (z := .agg #[.int .u8 0, .int .i64 0, .int .i64 0, .int .i64 0, .int .i64 0, .int .i64 0, .int .i64 0, .int .i64 0, .int .i64 0, .int .i64 0]) Try.underlying25 (by kernel_rfl) rfl (by decide)
set_option maxHeartbeats 2000000 in
theorem ftask_any (k : Nat) (hk : k < 8) (w : World) : Calls Try.prog 21 #[.int .i64 (k : Int)] w fun e w' => e = .returned (tkv (famTk k)) ∧ Below w.heap.size w w' := by
  rcases (by omega : k = 0 ∨ k = 1 ∨ k = 2 ∨ k = 3 ∨ k = 4 ∨ k = 5 ∨ k = 6 ∨ k = 7) with rfl | rfl | rfl | rfl | rfl | rfl | rfl | rfl
  · go_enter Try.func21, Try.ntmps21
    go_wp2
    refine bodyPost_ret (v := tkv (famTk 0)) (by simp [results, Try.f21, go_sem, famTk, tkv]) rfl ?_
    exact ⟨rfl, ((Below.refl _ _).alloc (Nat.le_refl _) _).alloc (by simp) _⟩
  · go_enter Try.func21, Try.ntmps21
    go_wp2
    refine bodyPost_ret (v := tkv (famTk 1)) (by simp [results, Try.f21, go_sem, famTk, tkv]) rfl ?_
    exact ⟨rfl, ((Below.refl _ _).alloc (Nat.le_refl _) _).alloc (by simp) _⟩
  · go_enter Try.func21, Try.ntmps21
    go_wp2
    refine bodyPost_ret (v := tkv (famTk 2)) (by simp [results, Try.f21, go_sem, famTk, tkv]) rfl ?_
    exact ⟨rfl, ((Below.refl _ _).alloc (Nat.le_refl _) _).alloc (by simp) _⟩
  · go_enter Try.func21, Try.ntmps21
    go_wp2
    refine bodyPost_ret (v := tkv (famTk 3)) (by simp [results, Try.f21, go_sem, famTk, tkv]) rfl ?_
    exact ⟨rfl, ((Below.refl _ _).alloc (Nat.le_refl _) _).alloc (by simp) _⟩
  · go_enter Try.func21, Try.ntmps21
    go_wp2
    refine bodyPost_ret (v := tkv (famTk 4)) (by simp [results, Try.f21, go_sem, famTk, tkv]) rfl ?_
    exact ⟨rfl, ((Below.refl _ _).alloc (Nat.le_refl _) _).alloc (by simp) _⟩
  · go_enter Try.func21, Try.ntmps21
    go_wp2
    refine bodyPost_ret (v := tkv (famTk 5)) (by simp [results, Try.f21, go_sem, famTk, tkv]) rfl ?_
    exact ⟨rfl, ((Below.refl _ _).alloc (Nat.le_refl _) _).alloc (by simp) _⟩
  · go_enter Try.func21, Try.ntmps21
    go_wp2
    refine bodyPost_ret (v := tkv (famTk 6)) (by simp [results, Try.f21, go_sem, famTk, tkv]) rfl ?_
    exact ⟨rfl, ((Below.refl _ _).alloc (Nat.le_refl _) _).alloc (by simp) _⟩
  · go_enter Try.func21, Try.ntmps21
    go_wp2
    refine bodyPost_ret (v := tkv (famTk 7)) (by simp [results, Try.f21, go_sem, famTk, tkv]) rfl ?_
    exact ⟨rfl, ((Below.refl _ _).alloc (Nat.le_refl _) _).alloc (by simp) _⟩
end Go.Proofs.Ytlnjeelbfokdpaa

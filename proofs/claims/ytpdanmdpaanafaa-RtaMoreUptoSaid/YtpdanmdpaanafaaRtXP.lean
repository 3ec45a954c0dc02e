/- vergelaw28: the walk of lives: the answers that the document gives are given. No premise of its own. -/
import Derived.Test.YtpdanmdpaanafaaRtSP
namespace Go.Proofs.Ytpdanmdpaanafaa
open Go.RowKit Go.Shelf

def tkS : Tk := ⟨1, 5, 100, 0, 50, 9, 1, 0, 1, 4⟩
def tkS2 : Tk := ⟨2, 3, 200, 0, 200, 20, 1, 0, 2, 8⟩
def lnS : Ln := ⟨3, 4, 2, 50⟩
def thS : Th := ⟨4, 5, 40, 4⟩
def cS : Cf := ⟨4, 100, 2, [tkS, tkS2], [lnS], [thS]⟩
def cSv (b : Nat) : Value := .agg #[.int .i64 4, .int .i64 100, .int .i64 2, .slice (some ⟨b + 1, 0, none⟩) 2 2, .slice (some ⟨b + 1 + 1, 0, none⟩) 1 1, .slice (some ⟨b + 1 + 1 + 1, 0, none⟩) 1 1]
/-- The configuration's memory. -/
structure CS (b : Nat) (w : World) : Prop where
  t : w.heap[b + 1]? = some (.cells (tkc tkS ++ tkc tkS2).toArray 44 (0, 0))
  l : w.heap[b + 1 + 1]? = some (.cells (lnc lnS).toArray 68 (0, 0))
  h : w.heap[b + 1 + 1 + 1]? = some (.cells (thc thS).toArray 46 (0, 0))
theorem CS.below {b : Nat} {w w' : World} (h : CS b w) (hb : Below w.heap.size w w') : CS b w' := ⟨box_keep h.t hb, box_keep h.l hb, box_keep h.h hb⟩
theorem CS.alloc {b : Nat} {w : World} (h : CS b w) (o : Obj) : CS b (w.alloc o) := h.below ((Below.refl _ _).alloc (Nat.le_refl _) _)
theorem CS.rt {b : Nat} {w : World} (h : CS b w) : Rd w (some ⟨b + 1, 0, none⟩) ([tkS, tkS2].flatMap tkc) := rd_box h.t
theorem CS.rl {b : Nat} {w : World} (h : CS b w) : Rd w (some ⟨b + 1 + 1, 0, none⟩) ([lnS].flatMap lnc) := rd_box h.l
theorem CS.rh {b : Nat} {w : World} (h : CS b w) : Rd w (some ⟨b + 1 + 1 + 1, 0, none⟩) ([thS].flatMap thc) := rd_box h.h
theorem small28 (w : World) : Calls Try.prog 53 #[] w fun e w' => e = .returned (cSv w.heap.size) ∧ CS w.heap.size w' ∧ Below w.heap.size w w' := by
  go_enter Try.func53, Try.ntmps53
  go_wp2
  refine bodyPost_ret (v := cSv w.heap.size) (by simp [results, cSv, Try.f53, go_sem]) rfl ⟨rfl, ⟨?_, ?_, ?_⟩, ?_⟩
  · show _ = some (Obj.cells #[.int .u8 1, .int .i64 5, .int .i64 100, .int .i64 0, .int .i64 50, .int .i64 9, .int .i64 1, .int .i64 0, .int .i64 1, .int .i64 4, .int .u8 2, .int .i64 3, .int .i64 200, .int .i64 0, .int .i64 200, .int .i64 20, .int .i64 1, .int .i64 0, .int .i64 2, .int .i64 8] 44 (0, 0))
    repeat (first | ((with_reducible refine heap_new_at _ ?_); focus (first | (with_reducible rfl) | (simp; done))) | (with_reducible refine box_alloc ?_ _) | ((with_reducible refine box_far ?_ ?_ _); rotate_left 1; focus (first | (simp; done) | (simp; omega) | omega)))
  · show _ = some (Obj.cells #[.int .i64 3, .int .i64 4, .int .i64 2, .int .i64 50] 68 (0, 0))
    repeat (first | ((with_reducible refine heap_new_at _ ?_); focus (first | (with_reducible rfl) | (simp; done))) | (with_reducible refine box_alloc ?_ _) | ((with_reducible refine box_far ?_ ?_ _); rotate_left 1; focus (first | (simp; done) | (simp; omega) | omega)))
  · show _ = some (Obj.cells #[.int .i64 4, .int .i64 5, .int .i64 40, .int .i64 4] 46 (0, 0))
    repeat (first | ((with_reducible refine heap_new_at _ ?_); focus (first | (with_reducible rfl) | (simp; done))) | (with_reducible refine box_alloc ?_ _) | ((with_reducible refine box_far ?_ ?_ _); rotate_left 1; focus (first | (simp; done) | (simp; omega) | omega)))
  · repeat (first | (with_reducible exact Below.refl _ _) | ((with_reducible refine Below.setCell ?_ ?_ _); rotate_left 1; focus (first | (with_reducible exact Nat.le_refl _) | (simp; done))) | ((with_reducible refine Below.alloc ?_ ?_ _); rotate_left 1; focus (first | (simp; done) | (simp; omega) | omega)))
theorem vS64 : ∀ p ∈ cS.ts.map (·.prio) ++ cS.hs.map (·.prio), I64 p := by
  intro p hp
  simp [cS, tkS, tkS2, thS] at hp
  unfold I64
  omega
theorem retN_calls {P : Program} {f : Nat} {args : Array Value} {w : World} {a y a' y' : Int} (k : Calls P f args w (RetN a y w)) (h1 : a = a') (h2 : y = y') : Calls P f args w (RetN a' y' w) := by
  subst h1; subst h2; exact k
theorem retL_calls {P : Program} {f : Nat} {args : Array Value} {w : World} {l l' : List Ld} {y y' : Int} (k : Calls P f args w (RetLY l y w)) (h1 : l = l') (h2 : y = y') : Calls P f args w (RetLY l' y' w) := by
  subst h1; subst h2; exact k
theorem blk_S {b : Nat} {w : World} (h : CS b w) : Calls Try.prog 54 #[cSv b, .int .i64 0] w (RetN 6 0 w) := by
  have k := rblocking_any 4 100 2 cS.ts cS.ls cS.hs (some ⟨b + 1, 0, none⟩) 2 (some ⟨b + 1 + 1, 0, none⟩) 1 (some ⟨b + 1 + 1 + 1, 0, none⟩) 1 0 w (by decide) (by decide) (by decide) h.rt h.rl h.rh (by unfold I64; omega) vS64
  exact retN_calls k (by kernel_rfl) (by kernel_rfl)
theorem base_S {b : Nat} {w : World} (h : CS b w) : Calls Try.prog 27 #[cSv b, .int .i64 0] w (RetN 17 0 w) := by
  have k := rbase_any 4 100 2 cS.ts cS.ls cS.hs (some ⟨b + 1, 0, none⟩) 2 (some ⟨b + 1 + 1, 0, none⟩) 1 (some ⟨b + 1 + 1 + 1, 0, none⟩) 1 0 w (by decide) (by decide) (by decide) h.rt h.rl h.rh (by unfold I64; omega) vS64
  exact retN_calls k (by kernel_rfl) (by kernel_rfl)
theorem lag_S {b : Nat} {w : World} (h : CS b w) : Calls Try.prog 28 #[cSv b, .int .i64 0] w (RetN 4 0 w) := by
  have k := rlag_any 4 100 2 cS.ts cS.ls cS.hs (some ⟨b + 1, 0, none⟩) 2 (some ⟨b + 1 + 1, 0, none⟩) 1 (some ⟨b + 1 + 1 + 1, 0, none⟩) 1 0 w (by decide) (by decide) (by decide) h.rt h.rl h.rh (by unfold I64; omega) vS64
  exact retN_calls k (by kernel_rfl) (by kernel_rfl)
theorem bound_S0 {b : Nat} {w : World} (h : CS b w) : Calls Try.prog 26 #[cSv b, .int .i64 0] w (RetN 29 0 w) := by
  have k := rbound_any 4 100 2 cS.ts cS.ls cS.hs (some ⟨b + 1, 0, none⟩) 2 (some ⟨b + 1 + 1, 0, none⟩) 1 (some ⟨b + 1 + 1 + 1, 0, none⟩) 1 0 w (by decide) (by decide) (by decide) h.rt h.rl h.rh (by unfold I64; omega) vS64
  exact retN_calls k (by kernel_rfl) (by kernel_rfl)
theorem bound_S1 {b : Nat} {w : World} (h : CS b w) : Calls Try.prog 26 #[cSv b, .int .i64 1] w (RetN 59 0 w) := by
  have k := rbound_any 4 100 2 cS.ts cS.ls cS.hs (some ⟨b + 1, 0, none⟩) 2 (some ⟨b + 1 + 1, 0, none⟩) 1 (some ⟨b + 1 + 1 + 1, 0, none⟩) 1 1 w (by decide) (by decide) (by decide) h.rt h.rl h.rh (by unfold I64; omega) vS64
  exact retN_calls k (by kernel_rfl) (by kernel_rfl)
theorem bound_S2 {b : Nat} {w : World} (h : CS b w) : Calls Try.prog 26 #[cSv b, .int .i64 2] w (RetN 0 1 w) := by
  have k := rbound_any 4 100 2 cS.ts cS.ls cS.hs (some ⟨b + 1, 0, none⟩) 2 (some ⟨b + 1 + 1, 0, none⟩) 1 (some ⟨b + 1 + 1 + 1, 0, none⟩) 1 2 w (by decide) (by decide) (by decide) h.rt h.rl h.rh (by unfold I64; omega) vS64
  exact retN_calls k (by kernel_rfl) (by kernel_rfl)
theorem loads_S {b : Nat} {w : World} (h : CS b w) : Calls Try.prog 29 #[cSv b, .int .i64 1] w (RetLY [⟨100, 4, 96, 11⟩, ⟨40, 0, 40, 5⟩, ⟨50, 0, 50, 8⟩] 0 w) := by
  have k := rloads_any 4 100 2 cS.ts cS.ls cS.hs (some ⟨b + 1, 0, none⟩) 2 (some ⟨b + 1 + 1, 0, none⟩) 1 (some ⟨b + 1 + 1 + 1, 0, none⟩) 1 1 w (by decide) (by decide) (by decide) h.rt h.rl h.rh (by unfold I64; omega) vS64
  exact retL_calls k (by kernel_rfl) (by kernel_rfl)
theorem bound_0 {w : World} : Calls Try.prog 26 #[.agg #[.int .i64 0, .int .i64 0, .int .i64 0, .slice none 0 0, .slice none 0 0, .slice none 0 0], .int .i64 0] w (RetN 0 2 w) := by
  have k := rbound_any 0 0 0 [] [] [] none 0 none 0 none 0 0 w (by decide) (by decide) (by decide) (Rd.nil _ _) (Rd.nil _ _) (Rd.nil _ _) (by unfold I64; omega) (by intro p hp; cases hp)
  exact retN_calls k (by kernel_rfl) (by kernel_rfl)
end Go.Proofs.Ytpdanmdpaanafaa

/- Cards of this seat: a controller's reading opened; a world for the witness. Conditions: a reading of bulk at most 1048576. -/
import Derived.Test.YtpdanmdpaanafaaDoorTop
import Derived.Test.YtpdanmdpaanafaaDoorTzV
namespace Go.Proofs.YtpdanmdpaanafaaDoor.top
open Go.ChangeShapes Go.WideShapes Go.ChangeAt Go.RowKit Go.Deep

section
variable {H : Type} {enc : TypeId × Value → H} {P : Program} {w : World} {base : Nat} {spare : Nat → Bool} {held : Bool}
theorem open_int_slice {t e : TypeId} {k : IntKind} (ht : P.underlying t = some (.slice e)) (he : P.underlying e = some (.int k)) (hc : P.cellsOf e = 1) {n : Nat} {u : Value} {y : DataW H × List MemPlace}
    (h : DataW.trod enc P w base spare held n t [u] = some y) : ∃ A cap xs, u = .slice A (xs : List Int).length cap ∧ Rd w A (xs.map (.int k)) ∧ xs.length + 1 ≤ Rows.uptoBulk y.1 := by
  rcases open_ints ht he hc h with ⟨h1, rfl⟩ | ⟨a, len, cap, zs, h1, hb, hl, hm, hz, rfl, hcell, hwf⟩
  · injection h1 with h1
    subst h1
    exact ⟨none, 0, [], rfl, Rd.nil _ _, by simp [Rows.uptoBulk]⟩
  · injection h1 with h1
    subst h1
    have hlen : len ≤ zs.length := by rw [hz]; split <;> omega
    refine ⟨some a, cap, zs.take len, ?_, ?_, ?_⟩
    · rw [List.length_take, Nat.min_eq_left hlen]
    · intro i u hu
      rw [List.getElem?_map, List.getElem?_take] at hu
      split at hu
      · rename_i hi
        have hi2 : i < zs.length := by omega
        rw [List.getElem?_eq_getElem hi2] at hu
        simp at hu
        subst hu
        refine ⟨a, rfl, ?_⟩
        have := hcell i hi2
        simpa [List.getD, hi2] using this
      · simp at hu
    · have := slice_le (H := H) (lits k (zs.take len)) (lits k (zs.drop len))
      show _ ≤ Rows.uptoBulk (DataW.slice (lits k (zs.take len)) (lits k (zs.drop len)))
      have e : (lits (H := H) k (zs.take len)).length = (zs.take len).length := List.length_map _
      omega
theorem open_nat64 {t : TypeId} (ht : P.underlying t = some (.int .u64)) {n : Nat} {u : Value} {y : DataW H × List MemPlace}
    (h : DataW.trod enc P w base spare held n t [u] = some y) : ∃ m : Nat, u = .int .u64 m ∧ m < 18446744073709551616 := by
  obtain ⟨z, h1, _, hw⟩ := DataW.trod_int ht h
  injection h1 with h1
  have h2 : 0 ≤ z ∧ z < 18446744073709551616 := by
    simp [Lit.wf] at hw
    rw [show IntKind.u64.min = 0 by kernel_rfl, show IntKind.u64.max = 18446744073709551615 by kernel_rfl] at hw
    omega
  obtain ⟨m, rfl⟩ := Int.eq_ofNat_of_zero_le h2.1
  exact ⟨m, h1, by omega⟩
theorem open_i64 {t : TypeId} (ht : P.underlying t = some (.int .i64)) {n : Nat} {u : Value} {y : DataW H × List MemPlace}
    (h : DataW.trod enc P w base spare held n t [u] = some y) : ∃ m : Int, u = .int .i64 m := by
  obtain ⟨z, h1, _, hw⟩ := DataW.trod_int ht h
  injection h1 with h1
  exact ⟨z, h1⟩
end

theorem gTab : Tryd.prog.globalNamed "math/bits.deBruijn64tab" = some 0 := by kernel_rfl
/-- A WORLD FOR THE WITNESS: the settled one, the table holding what its initialiser lays. -/
noncomputable def laidWorld (os : Os) : World :=
  { World.holding Tryd.prog os ⟨#[], #[], []⟩ with heap := (World.holding Tryd.prog os ⟨#[], #[], []⟩).heap.modify 0 fun
      | .cells _ t frozen => .cells (Lib.deBruijn64tab.map fun (z : Nat) => Value.int .u8 (z : Int)).toArray t frozen
      | o => o }
end Go.Proofs.YtpdanmdpaanafaaDoor.top

/- Package wheel: the next timer of a list. No premise of its own. -/
import Derived.Test.YtiblpnadninmbaaGreatDoorDuLY
import Derived.Test.YtiblpnadninmbaaGreatDoorRhCY
namespace Go.Proofs.YtiblpnadninmbaaGreatDoor
open Go.RowKit Go.Shelf
theorem min_le_all {L : List Du} {x : Du} (hx : x ∈ L) : minD 4503599627370496 L ≤ x.at' := minD_at L _ hx
theorem min_ge {L : List Du} (hb : ∀ x ∈ L, 0 ≤ x.at' ∧ x.at' ≤ 4503599627370496) : 0 ≤ minD 4503599627370496 L ∧ minD 4503599627370496 L ≤ 4503599627370496 := by
  refine ⟨?_, minD_le _ _⟩
  rcases minD_in L 4503599627370496 with h | ⟨x, h1, h2⟩
  · omega
  · rw [h2]; exact (hb x h1).1
theorem nx_min {L : List Du} (hb : ∀ x ∈ L, 0 ≤ x.at' ∧ x.at' ≤ 4503599627370496) (hne : L ≠ []) : nxR L = minD 4503599627370496 L := by
  unfold nxR
  obtain ⟨x, l, rfl⟩ := List.exists_cons_of_ne_nil hne
  have h1 : minD x.at' (x :: l) = minD 4503599627370496 (x :: l) := by
    have a1 := minD_at (x := x) (x :: l) 4503599627370496 (List.mem_cons_self ..)
    have a2 := minD_le (x :: l) x.at'
    have a3 := (hb x (List.mem_cons_self ..)).2
    rcases minD_in (x :: l) x.at' with h | ⟨y, hy, h⟩ <;> rcases minD_in (x :: l) 4503599627370496 with g | ⟨z, hz, g⟩
    · omega
    · have := minD_at (x := z) (x :: l) x.at' hz
      omega
    · have := minD_at (x := y) (x :: l) 4503599627370496 hy
      omega
    · have := minD_at (x := z) (x :: l) x.at' hz
      have := minD_at (x := y) (x :: l) 4503599627370496 hy
      omega
  exact h1
theorem getD_lt {α : Type} {l : List α} {k : Nat} (h : k < l.length) (d : α) : l.getD k d = l[k] := by
  rw [List.getD_eq_getElem?_getD, List.getElem?_eq_getElem h]; rfl
end Go.Proofs.YtiblpnadninmbaaGreatDoor

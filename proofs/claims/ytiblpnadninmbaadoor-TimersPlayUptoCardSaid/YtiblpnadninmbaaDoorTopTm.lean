/- Cards of this seat: acts on timers and stops that were handed in. Conditions: the reading's bulk. -/
import Derived.Test.YtiblpnadninmbaaDoorTopWi
import Derived.Test.YtiblpnadninmbaaDoorTlB
namespace Go.Proofs.YtiblpnadninmbaaDoor.top
open Go.ChangeShapes Go.WideShapes Go.ChangeAt Go.RowKit Go.Deep
section
variable {H : Type} {enc : TypeId × Value → H} {w : World} {base : Nat} {spare : Nat → Bool} {held : Bool} {n : Nat} {u : Value} {y : DataW H × List MemPlace}
theorem open_tacts (h : DataW.trod enc Tryd.prog w base spare held n 22 [u] = some y) :
    ∃ (A : Option Addr) (cap : Nat) (ts : List At), u = .slice A ts.length cap ∧ Rd w A (ts.flatMap atc) ∧ ts.length + 1 ≤ Rows.uptoBulk y.1 ∧ ∀ t ∈ ts, I64N t.id := by
  obtain ⟨A, cap, rows, rfl, hr, hb, hrow⟩ := open_rows Tryd.underlying22 Tryd.underlying37 (by kernel_rfl) (by kernel_rfl) (by decide) h
  obtain ⟨ts, rfl, hq⟩ := rows_with (f := atc) (Q := fun t => I64N t.id) rows (fun r hr' => by
    obtain ⟨hl, n', hf⟩ := hrow r hr'
    obtain ⟨v0, _, c0, g0, _⟩ := hf 0 _ rfl
    obtain ⟨v1, _, c1, g1, _⟩ := hf 1 _ rfl
    obtain ⟨v2, _, c2, g2, _⟩ := hf 2 _ rfl
    obtain ⟨v3, _, c3, g3, _⟩ := hf 3 _ rfl
    obtain ⟨a0, rfl, _⟩ := open_ranged Tryd.underlying3 g0
    obtain ⟨a1, rfl, qk⟩ := open_ranged Tryd.underlying3 g1
    obtain ⟨a2, rfl, _⟩ := open_ranged Tryd.underlying2 g2
    obtain ⟨a3, rfl, _⟩ := open_ranged Tryd.underlying2 g3
    have hl' : r.length = 4 := hl
    refine ⟨⟨a0, a1, a2, a3⟩, ?_, qk⟩
    match r, hl', c0, c1, c2, c3 with
    | [_, _, _, _], _, c0, c1, c2, c3 =>
      simp at c0 c1 c2 c3
      subst c0 c1 c2 c3
      rfl)
  refine ⟨A, cap, ts, by rw [List.length_map], ?_, by simpa using hb, hq⟩
  rw [List.flatMap_def]
  exact hr
end
theorem open_stops {H : Type} {enc : TypeId × Value → H} {w : World} {base : Nat} {spare : Nat → Bool} {held : Bool} {n : Nat} {u : Value} {y : DataW H × List MemPlace}
    (h : DataW.trod enc Tryd.prog w base spare held n 64 [u] = some y) : ∃ A cap xs, u = .slice A (xs : List Int).length cap ∧ Rd w A (xs.map (.int .i64)) ∧ ∀ x ∈ xs, I64N x := by
  rcases open_ints Tryd.underlying64 Tryd.underlying2 (by kernel_rfl) h with ⟨h1, rfl⟩ | ⟨a, len, cap, zs, h1, hb, hl, hm, hz, rfl, hcell, hwf⟩
  · injection h1 with h1
    subst h1
    exact ⟨none, 0, [], rfl, Rd.nil _ _, fun x hx => by cases hx⟩
  · injection h1 with h1
    subst h1
    have hlen : len ≤ zs.length := by rw [hz]; split <;> omega
    refine ⟨some a, cap, zs.take len, ?_, ?_, fun x hx => i64_of_wf (hwf x (List.mem_of_mem_take hx))⟩
    · rw [List.length_take, Nat.min_eq_left hlen]
    · intro i u hu
      rw [List.getElem?_map, List.getElem?_take] at hu
      split at hu
      · rename_i hi
        have hi2 : i < zs.length := by omega
        rw [List.getElem?_eq_getElem hi2] at hu
        simp at hu
        subst hu
        refine ⟨a, rfl, ?_⟩
        have := hcell i hi2
        simpa [List.getD, hi2] using this
      · simp at hu
end Go.Proofs.YtiblpnadninmbaaDoor.top

/- Cards of this seat: calls of a service and timings that were handed in. Conditions: the reading's bulk. -/
import Derived.Test.YtiblpnadninmbaaDoorTopWi
import Derived.Test.YtiblpnadninmbaaDoorTkPx
namespace Go.Proofs.YtiblpnadninmbaaDoor.top
open Go.ChangeShapes Go.WideShapes Go.ChangeAt Go.RowKit Go.Deep
section
variable {H : Type} {enc : TypeId × Value → H} {w : World} {base : Nat} {spare : Nat → Bool} {held : Bool} {n : Nat} {u : Value} {y : DataW H × List MemPlace}
theorem open_kacts (h : DataW.trod enc Tryd.prog w base spare held n 71 [u] = some y) :
    ∃ (A : Option Addr) (cap : Nat) (ts : List Kt), u = .slice A ts.length cap ∧ Rd w A (ts.flatMap ktc) ∧ ts.length + 1 ≤ Rows.uptoBulk y.1 ∧ ∀ t ∈ ts, I64N t.id := by
  obtain ⟨A, cap, rows, rfl, hr, hb, hrow⟩ := open_rows Tryd.underlying71 Tryd.underlying75 (by kernel_rfl) (by kernel_rfl) (by decide) h
  obtain ⟨ts, rfl, hq⟩ := rows_with (f := ktc) (Q := fun t => I64N t.id) rows (fun r hr' => by
    obtain ⟨hl, n', hf⟩ := hrow r hr'
    obtain ⟨v0, _, c0, g0, _⟩ := hf 0 _ rfl
    obtain ⟨v1, _, c1, g1, _⟩ := hf 1 _ rfl
    obtain ⟨v2, _, c2, g2, _⟩ := hf 2 _ rfl
    obtain ⟨v3, _, c3, g3, _⟩ := hf 3 _ rfl
    obtain ⟨a0, rfl, _⟩ := open_ranged Tryd.underlying3 g0
    obtain ⟨a1, rfl, qk⟩ := open_ranged Tryd.underlying3 g1
    obtain ⟨a2, rfl, _⟩ := open_ranged Tryd.underlying2 g2
    obtain ⟨a3, rfl, _⟩ := open_ranged Tryd.underlying2 g3
    have hl' : r.length = 4 := hl
    refine ⟨⟨a0, a1, a2, a3⟩, ?_, qk⟩
    match r, hl', c0, c1, c2, c3 with
    | [_, _, _, _], _, c0, c1, c2, c3 =>
      simp at c0 c1 c2 c3
      subst c0 c1 c2 c3
      rfl)
  refine ⟨A, cap, ts, by rw [List.length_map], ?_, by simpa using hb, hq⟩
  rw [List.flatMap_def]
  exact hr
end
set_option maxRecDepth 100000 in
theorem open_timing {H : Type} {enc : TypeId × Value → H} {r : Reach} {b0 : Nat} {w : World} {base : Nat} {spare : Nat → Bool} {held : Bool} {v : Value} {d : DataW H} {p : List MemPlace}
    (hv : Value.okWide Tryd.prog w r b0 70 v) (h : DataW.Trod enc Tryd.prog w base spare held 70 v d p) : ∃ mn mx : Int, v = .agg #[.int .i64 mn, .int .i64 mx] ∧ I64N mx := by
  obtain ⟨cs, ys, n, rfl, hl, _, _, hg⟩ := open_struct Tryd.underlying70 (by kernel_rfl) (by kernel_rfl) hv h
  obtain ⟨u0, y0, c0, _, g0⟩ := hg 0 _ rfl
  obtain ⟨u1, y1, c1, _, g1⟩ := hg 1 _ rfl
  obtain ⟨a0, rfl, _⟩ := open_ranged Tryd.underlying2 g0
  obtain ⟨a1, rfl, q⟩ := open_ranged Tryd.underlying2 g1
  have hl' : cs.length = 2 := hl
  match cs, hl', c0, c1 with
  | [_, _], _, c0, c1 =>
    simp at c0 c1
    subst c0 c1
    exact ⟨a0, a1, rfl, q⟩
end Go.Proofs.YtiblpnadninmbaaDoor.top

/- Cards of this seat: marks and runs that were handed in. Conditions: the reading's bulk. -/
import Derived.Test.YtlmhgfgdkenpfaaDoorTopEP
import Derived.Test.YtlmhgfgdkenpfaaDoorChA
namespace Go.Proofs.YtlmhgfgdkenpfaaDoor.top
open Go.ChangeShapes Go.WideShapes Go.ChangeAt Go.RowKit Go.Deep

theorem rows_with {α β : Type} {f : α → β} {Q : α → Prop} : ∀ (rows : List β), (∀ r ∈ rows, ∃ x, r = f x ∧ Q x) → ∃ xs : List α, rows = xs.map f ∧ ∀ x ∈ xs, Q x
  | [], _ => ⟨[], rfl, fun _ h => by cases h⟩
  | r :: rows, h => by
    obtain ⟨x, rfl, hq⟩ := h r (by simp)
    obtain ⟨xs, rfl, hqs⟩ := rows_with rows (fun r' h' => h r' (by simp [h']))
    refine ⟨x :: xs, rfl, fun y hy => ?_⟩
    rcases List.mem_cons.1 hy with rfl | hy
    · exact hq
    · exact hqs y hy
section
variable {H : Type} {enc : TypeId × Value → H} {P : Program} {w : World} {base : Nat} {spare : Nat → Bool} {held : Bool}
theorem open_any {t : TypeId} {k : IntKind} (ht : P.underlying t = some (.int k)) {n : Nat} {u : Value} {y : DataW H × List MemPlace}
    (h : DataW.trod enc P w base spare held n t [u] = some y) : ∃ m : Int, u = .int k m := by
  obtain ⟨z, h1, _, _⟩ := DataW.trod_int ht h
  injection h1 with h1
  exact ⟨z, h1⟩
theorem open_u8 {t : TypeId} (ht : P.underlying t = some (.int .u8)) {n : Nat} {u : Value} {y : DataW H × List MemPlace}
    (h : DataW.trod enc P w base spare held n t [u] = some y) : ∃ m : Int, u = .int .u8 m ∧ 0 ≤ m := by
  obtain ⟨z, h1, _, hw⟩ := DataW.trod_int ht h
  injection h1 with h1
  simp [Lit.wf] at hw
  rw [show IntKind.u8.min = 0 by kernel_rfl] at hw
  exact ⟨z, h1, hw.1⟩
end
section
variable {H : Type} {enc : TypeId × Value → H} {w : World} {base : Nat} {spare : Nat → Bool} {held : Bool} {n : Nat} {u : Value} {y : DataW H × List MemPlace}
theorem open_marks (h : DataW.trod enc Tryd.prog w base spare held n 22 [u] = some y) :
    ∃ (A : Option Addr) (cap : Nat) (ts : List Mk), u = .slice A ts.length cap ∧ Rd w A (ts.flatMap mkc) ∧ ts.length + 1 ≤ Rows.uptoBulk y.1 ∧ ∀ t ∈ ts, 0 ≤ t.kind := by
  obtain ⟨A, cap, rows, rfl, hr, hb, hrow⟩ := open_rows Tryd.underlying22 Tryd.underlying51 (by kernel_rfl) (by kernel_rfl) (by decide) h
  obtain ⟨ts, rfl, hq⟩ := rows_with (f := mkc) (Q := fun t => 0 ≤ t.kind) rows (fun r hr' => by
    obtain ⟨hl, n', hf⟩ := hrow r hr'
    obtain ⟨v0, _, c0, g0, _⟩ := hf 0 _ rfl
    obtain ⟨v1, _, c1, g1, _⟩ := hf 1 _ rfl
    obtain ⟨v2, _, c2, g2, _⟩ := hf 2 _ rfl
    obtain ⟨v3, _, c3, g3, _⟩ := hf 3 _ rfl
    obtain ⟨a0, rfl⟩ := open_any Tryd.underlying2 g0
    obtain ⟨a1, rfl, qk⟩ := open_u8 Tryd.underlying49 g1
    obtain ⟨a2, rfl⟩ := open_any Tryd.underlying3 g2
    obtain ⟨a3, rfl⟩ := open_any Tryd.underlying2 g3
    have hl' : r.length = 4 := hl
    refine ⟨⟨a0, a1, a2, a3⟩, ?_, qk⟩
    match r, hl', c0, c1, c2, c3 with
    | [_, _, _, _], _, c0, c1, c2, c3 =>
      simp at c0 c1 c2 c3
      subst c0 c1 c2 c3
      rfl)
  refine ⟨A, cap, ts, by rw [List.length_map], ?_, by simpa using hb, hq⟩
  rw [List.flatMap_def]
  exact hr
theorem open_runs (h : DataW.trod enc Tryd.prog w base spare held n 23 [u] = some y) :
    ∃ (A : Option Addr) (cap : Nat) (ts : List Rn), u = .slice A ts.length cap ∧ Rd w A (ts.flatMap rnc) ∧ ts.length + 1 ≤ Rows.uptoBulk y.1 ∧ ∀ t ∈ ts, 0 ≤ t.kind := by
  obtain ⟨A, cap, rows, rfl, hr, hb, hrow⟩ := open_rows Tryd.underlying23 Tryd.underlying33 (by kernel_rfl) (by kernel_rfl) (by decide) h
  obtain ⟨ts, rfl, hq⟩ := rows_with (f := rnc) (Q := fun t => 0 ≤ t.kind) rows (fun r hr' => by
    obtain ⟨hl, n', hf⟩ := hrow r hr'
    obtain ⟨v0, _, c0, g0, _⟩ := hf 0 _ rfl
    obtain ⟨v1, _, c1, g1, _⟩ := hf 1 _ rfl
    obtain ⟨v2, _, c2, g2, _⟩ := hf 2 _ rfl
    obtain ⟨v3, _, c3, g3, _⟩ := hf 3 _ rfl
    obtain ⟨a0, rfl, qk⟩ := open_u8 Tryd.underlying31 g0
    obtain ⟨a1, rfl⟩ := open_any Tryd.underlying3 g1
    obtain ⟨a2, rfl⟩ := open_any Tryd.underlying2 g2
    obtain ⟨a3, rfl⟩ := open_any Tryd.underlying2 g3
    have hl' : r.length = 4 := hl
    refine ⟨⟨a0, a1, a2, a3⟩, ?_, qk⟩
    match r, hl', c0, c1, c2, c3 with
    | [_, _, _, _], _, c0, c1, c2, c3 =>
      simp at c0 c1 c2 c3
      subst c0 c1 c2 c3
      rfl)
  refine ⟨A, cap, ts, by rw [List.length_map], ?_, by simpa using hb, hq⟩
  rw [List.flatMap_def]
  exact hr
end
end Go.Proofs.YtlmhgfgdkenpfaaDoor.top

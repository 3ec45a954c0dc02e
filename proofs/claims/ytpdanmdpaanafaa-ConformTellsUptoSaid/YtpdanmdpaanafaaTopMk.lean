/- Statements of this seat: acts and marks that were handed in. Conditions: none. -/
import Derived.Test.YtpdanmdpaanafaaTopCfP
import Derived.Test.YtpdanmdpaanafaaConA
namespace Go.Proofs.Ytpdanmdpaanafaa.top
open Go.ChangeShapes Go.WideShapes Go.ChangeAt Go.RowKit Go.Deep
section
variable {H : Type} {enc : TypeId × Value → H} {w : World} {base : Nat} {spare : Nat → Bool} {held : Bool} {n : Nat} {u : Value} {y : DataW H × List MemPlace}
theorem open_acts (h : DataW.trod enc Try.prog w base spare held n 48 [u] = some y) :
    ∃ (A : Option Addr) (cap : Nat) (ts : List Ac), u = .slice A ts.length cap ∧ Rd w A (ts.flatMap acc) ∧ ts.length + 1 ≤ Rows.uptoBulk y.1 ∧ ts.length ≤ cap := by
  obtain ⟨A, cap, rows, rfl, hr, hb, hrow⟩ := open_rows Try.underlying48 Try.underlying118 (by kernel_rfl) (by kernel_rfl) (by decide) h
  have hcap := open_cap Try.underlying48 h
  obtain ⟨ts, rfl⟩ := rows_of (f := acc) rows (fun r hr' => by
    obtain ⟨hl, n', hf⟩ := hrow r hr'
    obtain ⟨v0, _, c0, g0, _⟩ := hf 0 _ rfl
    obtain ⟨v1, _, c1, g1, _⟩ := hf 1 _ rfl
    obtain ⟨v2, _, c2, g2, _⟩ := hf 2 _ rfl
    obtain ⟨v3, _, c3, g3, _⟩ := hf 3 _ rfl
    obtain ⟨a0, rfl⟩ := open_any Try.underlying116 g0
    obtain ⟨a1, rfl⟩ := open_any Try.underlying3 g1
    obtain ⟨a2, rfl⟩ := open_any Try.underlying2 g2
    obtain ⟨a3, rfl⟩ := open_any Try.underlying2 g3
    have hl' : r.length = 4 := hl
    refine ⟨⟨a0, a1, a2, a3⟩, ?_⟩
    match r, hl', c0, c1, c2, c3 with
    | [_, _, _, _], _, c0, c1, c2, c3 =>
      simp at c0 c1 c2 c3
      subst c0 c1 c2 c3
      rfl)
  refine ⟨A, cap, ts, by rw [List.length_map], ?_, by simpa using hb, by simpa using hcap⟩
  rw [List.flatMap_def]
  exact hr
theorem open_marks (h : DataW.trod enc Try.prog w base spare held n 49 [u] = some y) :
    ∃ (A : Option Addr) (cap : Nat) (ts : List Mk), u = .slice A ts.length cap ∧ Rd w A (ts.flatMap mkc) ∧ ts.length + 1 ≤ Rows.uptoBulk y.1 ∧ ts.length ≤ cap ∧ ∀ t ∈ ts, I64 t.time ∧ I64 t.who ∧ I64 t.a := by
  obtain ⟨A, cap, rows, rfl, hr, hb, hrow⟩ := open_rows Try.underlying49 Try.underlying121 (by kernel_rfl) (by kernel_rfl) (by decide) h
  have hcap := open_cap Try.underlying49 h
  obtain ⟨ts, rfl, hq⟩ := rows_with (f := mkc) (Q := fun t => I64 t.time ∧ I64 t.who ∧ I64 t.a) rows (fun r hr' => by
    obtain ⟨hl, n', hf⟩ := hrow r hr'
    obtain ⟨v0, _, c0, g0, _⟩ := hf 0 _ rfl
    obtain ⟨v1, _, c1, g1, _⟩ := hf 1 _ rfl
    obtain ⟨v2, _, c2, g2, _⟩ := hf 2 _ rfl
    obtain ⟨v3, _, c3, g3, _⟩ := hf 3 _ rfl
    obtain ⟨a0, rfl, q0⟩ := open_i64r Try.underlying2 g0
    obtain ⟨a1, rfl⟩ := open_any Try.underlying119 g1
    obtain ⟨a2, rfl, q2⟩ := open_i64r Try.underlying3 g2
    obtain ⟨a3, rfl, q3⟩ := open_i64r Try.underlying2 g3
    have hl' : r.length = 4 := hl
    refine ⟨⟨a0, a1, a2, a3⟩, ?_, q0, q2, q3⟩
    match r, hl', c0, c1, c2, c3 with
    | [_, _, _, _], _, c0, c1, c2, c3 =>
      simp at c0 c1 c2 c3
      subst c0 c1 c2 c3
      rfl)
  refine ⟨A, cap, ts, by rw [List.length_map], ?_, by simpa using hb, by simpa using hcap, hq⟩
  rw [List.flatMap_def]
  exact hr
end
theorem marks64 {ms : List Mk} (h : ∀ t ∈ ms, I64 t.time ∧ I64 t.who ∧ I64 t.a) : ∀ k, k < ms.length → I64 (ms.getD k mk0).time ∧ I64 (ms.getD k mk0).who := fun k hk => by
  have e : ms.getD k mk0 = ms[k] := by simp [List.getD, hk]
  rw [e]
  exact ⟨(h _ (List.getElem_mem hk)).1, (h _ (List.getElem_mem hk)).2.1⟩
end Go.Proofs.Ytpdanmdpaanafaa.top

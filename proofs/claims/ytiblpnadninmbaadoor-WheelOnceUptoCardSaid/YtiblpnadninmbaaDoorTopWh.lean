/- Cards of this seat: timers, acts and stops that were handed in; the table; a world for the witness. Conditions: the reading's bulk. -/
import Derived.Test.YtiblpnadninmbaaDoorTopEP
import Derived.Test.YtiblpnadninmbaaDoorWlG
import Derived.Test.YtiblpnadninmbaaDoorRows
import Derived.Lib.LaidTab
namespace Go.Proofs.YtiblpnadninmbaaDoor.top
open Go.ChangeShapes Go.WideShapes Go.ChangeAt Go.RowKit Go.Deep

theorem rows_with {α β : Type} {f : α → β} {Q : α → Prop} : ∀ (rows : List β), (∀ r ∈ rows, ∃ x, r = f x ∧ Q x) → ∃ xs : List α, rows = xs.map f ∧ ∀ x ∈ xs, Q x
  | [], _ => ⟨[], rfl, fun _ h => by cases h⟩
  | r :: rows, h => by
    obtain ⟨x, rfl, hq⟩ := h r (by simp)
    obtain ⟨xs, rfl, hqs⟩ := rows_with rows (fun r' h' => h r' (by simp [h']))
    refine ⟨x :: xs, rfl, fun y hy => ?_⟩
    rcases List.mem_cons.1 hy with rfl | hy
    · exact hq
    · exact hqs y hy
theorem i64_of_wf {z : Int} (h : (Lit.int .i64 z).wf = true) : I64N z := by
  have h1 : IntKind.i64.min = -9223372036854775808 := rfl
  have h2 : IntKind.i64.max = 9223372036854775807 := rfl
  simp [Lit.wf] at h
  unfold I64N
  omega
section
variable {H : Type} {enc : TypeId × Value → H} {P : Program} {w : World} {base : Nat} {spare : Nat → Bool} {held : Bool}
theorem open_ranged {t : TypeId} (ht : P.underlying t = some (.int .i64)) {n : Nat} {u : Value} {y : DataW H × List MemPlace}
    (h : DataW.trod enc P w base spare held n t [u] = some y) : ∃ m : Int, u = .int .i64 m ∧ I64N m := by
  obtain ⟨z, h1, _, hw⟩ := DataW.trod_int ht h
  injection h1 with h1
  exact ⟨z, h1, i64_of_wf hw⟩
end
section
variable {H : Type} {enc : TypeId × Value → H} {w : World} {base : Nat} {spare : Nat → Bool} {held : Bool} {n : Nat} {u : Value} {y : DataW H × List MemPlace}
theorem open_dues (h : DataW.trod enc Tryd.prog w base spare held n 28 [u] = some y) :
    ∃ (A : Option Addr) (cap : Nat) (ts : List Du), u = .slice A ts.length cap ∧ Rd w A (ts.flatMap duc) ∧ ts.length + 1 ≤ Rows.uptoBulk y.1 ∧ ∀ t ∈ ts, I64N t.id := by
  obtain ⟨A, cap, rows, rfl, hr, hb, hrow⟩ := open_rows Tryd.underlying28 Tryd.underlying98 (by kernel_rfl) (by kernel_rfl) (by decide) h
  obtain ⟨ts, rfl, hq⟩ := rows_with (f := duc) (Q := fun t => I64N t.id) rows (fun r hr' => by
    obtain ⟨hl, n', hf⟩ := hrow r hr'
    obtain ⟨v0, _, c0, g0, _⟩ := hf 0 _ rfl
    obtain ⟨v1, _, c1, g1, _⟩ := hf 1 _ rfl
    obtain ⟨a0, rfl, qk⟩ := open_ranged Tryd.underlying3 g0
    obtain ⟨a1, rfl, _⟩ := open_ranged Tryd.underlying2 g1
    have hl' : r.length = 2 := hl
    refine ⟨⟨a0, a1⟩, ?_, qk⟩
    match r, hl', c0, c1 with
    | [_, _], _, c0, c1 =>
      simp at c0 c1
      subst c0 c1
      rfl)
  refine ⟨A, cap, ts, by rw [List.length_map], ?_, by simpa using hb, hq⟩
  rw [List.flatMap_def]
  exact hr
theorem open_acts (h : DataW.trod enc Tryd.prog w base spare held n 79 [u] = some y) :
    ∃ (A : Option Addr) (cap : Nat) (ts : List Ac), u = .slice A ts.length cap ∧ Rd w A (ts.flatMap acc) ∧ ts.length + 1 ≤ Rows.uptoBulk y.1 ∧ ∀ t ∈ ts, I64N t.id := by
  obtain ⟨A, cap, rows, rfl, hr, hb, hrow⟩ := open_rows Tryd.underlying79 Tryd.underlying85 (by kernel_rfl) (by kernel_rfl) (by decide) h
  obtain ⟨ts, rfl, hq⟩ := rows_with (f := acc) (Q := fun t => I64N t.id) rows (fun r hr' => by
    obtain ⟨hl, n', hf⟩ := hrow r hr'
    obtain ⟨v0, _, c0, g0, _⟩ := hf 0 _ rfl
    obtain ⟨v1, _, c1, g1, _⟩ := hf 1 _ rfl
    obtain ⟨v2, _, c2, g2, _⟩ := hf 2 _ rfl
    obtain ⟨a0, rfl, _⟩ := open_ranged Tryd.underlying3 g0
    obtain ⟨a1, rfl, qk⟩ := open_ranged Tryd.underlying3 g1
    obtain ⟨a2, rfl, _⟩ := open_ranged Tryd.underlying2 g2
    have hl' : r.length = 3 := hl
    refine ⟨⟨a0, a1, a2⟩, ?_, qk⟩
    match r, hl', c0, c1, c2 with
    | [_, _, _], _, c0, c1, c2 =>
      simp at c0 c1 c2
      subst c0 c1 c2
      rfl)
  refine ⟨A, cap, ts, by rw [List.length_map], ?_, by simpa using hb, hq⟩
  rw [List.flatMap_def]
  exact hr
end
theorem gTab : Tryd.prog.globalNamed "math/bits.deBruijn64tab" = some 0 := by kernel_rfl
/-- A WORLD FOR THE WITNESS: the settled one, the table holding what its initialiser lays. -/
noncomputable def laidWorld (os : Os) : World :=
  { World.holding Tryd.prog os ⟨#[], #[], []⟩ with heap := (World.holding Tryd.prog os ⟨#[], #[], []⟩).heap.modify 0 fun
      | .cells _ t frozen => .cells (Lib.deBruijn64tab.map fun (z : Nat) => Value.int .u8 (z : Int)).toArray t frozen
      | o => o }
end Go.Proofs.YtiblpnadninmbaaDoor.top

/- Cards of this seat: rows and numbers that were handed in; the table; a world for the witness. Conditions: the reading's bulk. -/
import Derived.Test.YtiblpnadninmbaaDoorTopEP
import Derived.Test.YtiblpnadninmbaaDoorBitsW
import Derived.Test.YtiblpnadninmbaaDoorMapN
import Derived.Test.YtiblpnadninmbaaDoorRows
import Derived.Lib.LaidTab
namespace Go.Proofs.YtiblpnadninmbaaDoor.top
open Go.ChangeShapes Go.WideShapes Go.ChangeAt Go.RowKit Go.Deep

theorem rows_with {α β : Type} {f : α → β} {Q : α → Prop} : ∀ (rows : List β), (∀ r ∈ rows, ∃ x, r = f x ∧ Q x) → ∃ xs : List α, rows = xs.map f ∧ ∀ x ∈ xs, Q x
  | [], _ => ⟨[], rfl, fun _ h => by cases h⟩
  | r :: rows, h => by
    obtain ⟨x, rfl, hq⟩ := h r (by simp)
    obtain ⟨xs, rfl, hqs⟩ := rows_with rows (fun r' h' => h r' (by simp [h']))
    refine ⟨x :: xs, rfl, fun y hy => ?_⟩
    rcases List.mem_cons.1 hy with rfl | hy
    · exact hq
    · exact hqs y hy
theorem i64_of_wf {z : Int} (h : (Lit.int .i64 z).wf = true) : I64N z := by
  have h1 : IntKind.i64.min = -9223372036854775808 := rfl
  have h2 : IntKind.i64.max = 9223372036854775807 := rfl
  simp [Lit.wf] at h
  unfold I64N
  omega
section
variable {H : Type} {enc : TypeId × Value → H} {P : Program} {w : World} {base : Nat} {spare : Nat → Bool} {held : Bool}
theorem open_ranged {t : TypeId} (ht : P.underlying t = some (.int .i64)) {n : Nat} {u : Value} {y : DataW H × List MemPlace}
    (h : DataW.trod enc P w base spare held n t [u] = some y) : ∃ m : Int, u = .int .i64 m ∧ I64N m := by
  obtain ⟨z, h1, _, hw⟩ := DataW.trod_int ht h
  injection h1 with h1
  exact ⟨z, h1, i64_of_wf hw⟩
end
theorem gTab : Tryd.prog.globalNamed "math/bits.deBruijn64tab" = some 0 := by kernel_rfl
/-- A WORLD FOR THE WITNESS: the settled one, the table holding what its initialiser lays. -/
noncomputable def laidWorld (os : Os) : World :=
  { World.holding Tryd.prog os ⟨#[], #[], []⟩ with heap := (World.holding Tryd.prog os ⟨#[], #[], []⟩).heap.modify 0 fun
      | .cells _ t frozen => .cells (Lib.deBruijn64tab.map fun (z : Nat) => Value.int .u8 (z : Int)).toArray t frozen
      | o => o }
end Go.Proofs.YtiblpnadninmbaaDoor.top

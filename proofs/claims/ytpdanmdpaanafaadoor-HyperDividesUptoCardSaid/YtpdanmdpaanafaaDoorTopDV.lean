/- Cards of this seat: words and lists that were handed in. Conditions: none. -/
import Derived.Test.YtpdanmdpaanafaaDoorTopCV
namespace Go.Proofs.YtpdanmdpaanafaaDoor.top
open Go.ChangeShapes Go.WideShapes Go.ChangeAt Go.RowKit Go.Deep
theorem open_top64 {H : Type} {enc : TypeId × Value → H} {P : Program} {w : World} {base : Nat} {spare : Nat → Bool} {held : Bool} {r : Reach} {b0 : Nat} {t : TypeId} {v : Value} {d : DataW H} {p : List MemPlace} (ht : P.underlying t = some (.int .u64))
    (hv : Value.okWide P w r b0 t v) (h : DataW.Trod enc P w base spare held t v d p) : ∃ m : Nat, v = .int .u64 m ∧ m < 18446744073709551616 := by
  obtain ⟨z, rfl, _, _, hw⟩ := open_int ht hv h
  simp [Lit.wf] at hw
  rw [show IntKind.u64.min = 0 by kernel_rfl, show IntKind.u64.max = 18446744073709551615 by kernel_rfl] at hw
  obtain ⟨m, rfl⟩ := Int.eq_ofNat_of_zero_le hw.1
  exact ⟨m, rfl, by omega⟩
theorem open_top_ints {H : Type} {enc : TypeId × Value → H} {P : Program} {w : World} {base : Nat} {spare : Nat → Bool} {held : Bool} {r : Reach} {b0 : Nat} {t e : TypeId} {k : IntKind} {v : Value} {d : DataW H} {p : List MemPlace} (ht : P.underlying t = some (.slice e)) (he : P.underlying e = some (.int k)) (hc : P.cellsOf e = 1)
    (hv : Value.okWide P w r b0 t v) (h : DataW.Trod enc P w base spare held t v d p) : ∃ A cap xs, v = .slice A (xs : List Int).length cap ∧ Rd w A (xs.map (.int k)) ∧ xs.length + 1 ≤ Rows.uptoBulk d := by
  obtain ⟨n, hn⟩ := h
  obtain ⟨a, m, c, rfl⟩ := okWide_slice ht hv
  exact open_int_slice ht he hc hn
end Go.Proofs.YtpdanmdpaanafaaDoor.top

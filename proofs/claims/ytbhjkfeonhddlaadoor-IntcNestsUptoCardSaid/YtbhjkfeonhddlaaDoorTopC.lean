/- Cards of this seat: a controller's reading opened; a world for the witness. Conditions: a reading of bulk at most 1048576. -/
import Derived.Test.YtbhjkfeonhddlaaDoorTop
import Derived.Test.YtbhjkfeonhddlaaDoorIntcB
namespace Go.Proofs.YtbhjkfeonhddlaaDoor.top
open Go.ChangeShapes Go.WideShapes Go.ChangeAt Go.RowKit Go.Deep

section
variable {H : Type} {enc : TypeId × Value → H} {P : Program} {w : World} {base : Nat} {spare : Nat → Bool} {held : Bool}
theorem open_int_slice {t e : TypeId} {k : IntKind} (ht : P.underlying t = some (.slice e)) (he : P.underlying e = some (.int k)) (hc : P.cellsOf e = 1) {n : Nat} {u : Value} {y : DataW H × List MemPlace}
    (h : DataW.trod enc P w base spare held n t [u] = some y) : ∃ A cap xs, u = .slice A (xs : List Int).length cap ∧ Rd w A (xs.map (.int k)) ∧ xs.length + 1 ≤ Rows.uptoBulk y.1 := by
  rcases open_ints ht he hc h with ⟨h1, rfl⟩ | ⟨a, len, cap, zs, h1, hb, hl, hm, hz, rfl, hcell, hwf⟩
  · injection h1 with h1
    subst h1
    exact ⟨none, 0, [], rfl, Rd.nil _ _, by simp [Rows.uptoBulk]⟩
  · injection h1 with h1
    subst h1
    have hlen : len ≤ zs.length := by rw [hz]; split <;> omega
    refine ⟨some a, cap, zs.take len, ?_, ?_, ?_⟩
    · rw [List.length_take, Nat.min_eq_left hlen]
    · intro i u hu
      rw [List.getElem?_map, List.getElem?_take] at hu
      split at hu
      · rename_i hi
        have hi2 : i < zs.length := by omega
        rw [List.getElem?_eq_getElem hi2] at hu
        simp at hu
        subst hu
        refine ⟨a, rfl, ?_⟩
        have := hcell i hi2
        simpa [List.getD, hi2] using this
      · simp at hu
    · have := slice_le (H := H) (lits k (zs.take len)) (lits k (zs.drop len))
      show _ ≤ Rows.uptoBulk (DataW.slice (lits k (zs.take len)) (lits k (zs.drop len)))
      have e : (lits (H := H) k (zs.take len)).length = (zs.take len).length := List.length_map _
      omega
theorem open_nat64 {t : TypeId} (ht : P.underlying t = some (.int .u64)) {n : Nat} {u : Value} {y : DataW H × List MemPlace}
    (h : DataW.trod enc P w base spare held n t [u] = some y) : ∃ m : Nat, u = .int .u64 m ∧ m < 18446744073709551616 := by
  obtain ⟨z, h1, _, hw⟩ := DataW.trod_int ht h
  injection h1 with h1
  have h2 : 0 ≤ z ∧ z < 18446744073709551616 := by
    simp [Lit.wf] at hw
    rw [show IntKind.u64.min = 0 by kernel_rfl, show IntKind.u64.max = 18446744073709551615 by kernel_rfl] at hw
    omega
  obtain ⟨m, rfl⟩ := Int.eq_ofNat_of_zero_le h2.1
  exact ⟨m, h1, by omega⟩
theorem open_i64 {t : TypeId} (ht : P.underlying t = some (.int .i64)) {n : Nat} {u : Value} {y : DataW H × List MemPlace}
    (h : DataW.trod enc P w base spare held n t [u] = some y) : ∃ m : Int, u = .int .i64 m := by
  obtain ⟨z, h1, _, hw⟩ := DataW.trod_int ht h
  injection h1 with h1
  exact ⟨z, h1⟩
end

/-- A controller that was handed in. -/
theorem open_ic {H : Type} {enc : TypeId × Value → H} {r : Reach} {b0 : Nat} {w : World} {base : Nat} {spare : Nat → Bool} {held : Bool} {v : Value} {d : DataW H} {p : List MemPlace}
    (hv : Value.okWide Tryd.prog w r b0 25 v) (h : DataW.Trod enc Tryd.prog w base spare held 25 v d p) (hd : Rows.uptoBulk d ≤ 1048576) :
    ∃ (x : IC) (pA : Option Addr) (pc : Nat) (sA : Option Addr) (sc : Nat), v = icv x pA pc sA sc ∧ x.Fits ∧ Rd w pA (x.prio.map (.int .i64)) ∧ Rd w sA (x.stack.map (.int .i64)) := by
  obtain ⟨cs, ys, n, rfl, hcl, rfl, hyl, hf⟩ := open_struct Tryd.underlying25 (by kernel_rfl) (by kernel_rfl) hv h
  obtain ⟨u0, y0, c0, e0, g0⟩ := hf 0 _ rfl
  obtain ⟨u1, y1, c1, e1, g1⟩ := hf 1 _ rfl
  obtain ⟨u2, y2, c2, e2, g2⟩ := hf 2 _ rfl
  obtain ⟨u3, y3, c3, e3, g3⟩ := hf 3 _ rfl
  obtain ⟨u4, y4, c4, e4, g4⟩ := hf 4 _ rfl
  obtain ⟨u5, y5, c5, e5, g5⟩ := hf 5 _ rfl
  obtain ⟨u6, y6, c6, e6, g6⟩ := hf 6 _ rfl
  obtain ⟨m0, rfl, l0⟩ := open_nat64 Tryd.underlying22 g0
  obtain ⟨m1, rfl, l1⟩ := open_nat64 Tryd.underlying22 g1
  obtain ⟨m2, rfl, l2⟩ := open_nat64 Tryd.underlying22 g2
  obtain ⟨m3, rfl, l3⟩ := open_nat64 Tryd.underlying22 g3
  obtain ⟨pA, pc, xs, rfl, r4, b4⟩ := open_int_slice Tryd.underlying23 Tryd.underlying3 (by kernel_rfl) g4
  obtain ⟨m5, rfl⟩ := open_i64 Tryd.underlying3 g5
  obtain ⟨sA, sc, zs, rfl, r6, b6⟩ := open_int_slice Tryd.underlying23 Tryd.underlying3 (by kernel_rfl) g6
  have k4 := agg_le (d := y4.1) (l := ys.map (·.1)) (List.mem_map.2 ⟨y4, List.mem_of_getElem? e4, rfl⟩)
  have k6 := agg_le (d := y6.1) (l := ys.map (·.1)) (List.mem_map.2 ⟨y6, List.mem_of_getElem? e6, rfl⟩)
  refine ⟨⟨m0, m1, m2, m3, xs, m5, zs⟩, pA, pc, sA, sc, ?_, ⟨l0, l1, l2, l3, by show xs.length ≤ _; omega, by show zs.length ≤ _; omega⟩, r4, r6⟩
  unfold icv
  have hcl' : cs.length = 7 := hcl
  match cs, hcl', c0, c1, c2, c3, c4, c5, c6 with
  | [a0, a1, a2, a3, a4, a5, a6], _, c0, c1, c2, c3, c4, c5, c6 =>
    simp at c0 c1 c2 c3 c4 c5 c6
    subst c0 c1 c2 c3 c4 c5 c6
    rfl

theorem gTab : Tryd.prog.globalNamed "math/bits.deBruijn64tab" = some 0 := by kernel_rfl
/-- A WORLD FOR THE WITNESS: the settled one, the table holding what its initialiser lays. -/
noncomputable def laidWorld (os : Os) : World :=
  { World.holding Tryd.prog os ⟨#[], #[], []⟩ with heap := (World.holding Tryd.prog os ⟨#[], #[], []⟩).heap.modify 0 fun
      | .cells _ t frozen => .cells (Lib.deBruijn64tab.map fun (z : Nat) => Value.int .u8 (z : Int)).toArray t frozen
      | o => o }
end Go.Proofs.YtbhjkfeonhddlaaDoor.top

/- Statements of this seat: words, lists and slices of structs that were handed in. Conditions: none. -/
import Derived.Test.YtiblpnadninmbaaDoorTopP
import Derived.Test.YtiblpnadninmbaaDoorKit
import Derived.Deep.Slices
namespace Go.Proofs.YtiblpnadninmbaaDoor.top
open Go.ChangeShapes Go.WideShapes Go.ChangeAt Go.RowKit Go.Deep

section
variable {H : Type} {enc : TypeId × Value → H} {P : Program} {w : World} {base : Nat} {spare : Nat → Bool} {held : Bool}
theorem open_int_slice {t e : TypeId} {k : IntKind} (ht : P.underlying t = some (.slice e)) (he : P.underlying e = some (.int k)) (hc : P.cellsOf e = 1) {n : Nat} {u : Value} {y : DataW H × List MemPlace}
    (h : DataW.trod enc P w base spare held n t [u] = some y) : ∃ A cap xs, u = .slice A (xs : List Int).length cap ∧ Rd w A (xs.map (.int k)) ∧ xs.length + 1 ≤ Rows.uptoBulk y.1 := by
  rcases open_ints ht he hc h with ⟨h1, rfl⟩ | ⟨a, len, cap, zs, h1, hb, hl, hm, hz, rfl, hcell, hwf⟩
  · injection h1 with h1
    subst h1
    exact ⟨none, 0, [], rfl, Rd.nil _ _, by simp [Rows.uptoBulk]⟩
  · injection h1 with h1
    subst h1
    have hlen : len ≤ zs.length := by rw [hz]; split <;> omega
    refine ⟨some a, cap, zs.take len, ?_, ?_, ?_⟩
    · rw [List.length_take, Nat.min_eq_left hlen]
    · intro i u hu
      rw [List.getElem?_map, List.getElem?_take] at hu
      split at hu
      · rename_i hi
        have hi2 : i < zs.length := by omega
        rw [List.getElem?_eq_getElem hi2] at hu
        simp at hu
        subst hu
        refine ⟨a, rfl, ?_⟩
        have := hcell i hi2
        simpa [List.getD, hi2] using this
      · simp at hu
    · have := slice_le (H := H) (lits k (zs.take len)) (lits k (zs.drop len))
      show _ ≤ Rows.uptoBulk (DataW.slice (lits k (zs.take len)) (lits k (zs.drop len)))
      have e : (lits (H := H) k (zs.take len)).length = (zs.take len).length := List.length_map _
      omega
theorem open_nat64 {t : TypeId} (ht : P.underlying t = some (.int .u64)) {n : Nat} {u : Value} {y : DataW H × List MemPlace}
    (h : DataW.trod enc P w base spare held n t [u] = some y) : ∃ m : Nat, u = .int .u64 m ∧ m < 18446744073709551616 := by
  obtain ⟨z, h1, _, hw⟩ := DataW.trod_int ht h
  injection h1 with h1
  have h2 : 0 ≤ z ∧ z < 18446744073709551616 := by
    simp [Lit.wf] at hw
    rw [show IntKind.u64.min = 0 by kernel_rfl, show IntKind.u64.max = 18446744073709551615 by kernel_rfl] at hw
    omega
  obtain ⟨m, rfl⟩ := Int.eq_ofNat_of_zero_le h2.1
  exact ⟨m, h1, by omega⟩
theorem open_i64 {t : TypeId} (ht : P.underlying t = some (.int .i64)) {n : Nat} {u : Value} {y : DataW H × List MemPlace}
    (h : DataW.trod enc P w base spare held n t [u] = some y) : ∃ m : Int, u = .int .i64 m := by
  obtain ⟨z, h1, _, hw⟩ := DataW.trod_int ht h
  injection h1 with h1
  exact ⟨z, h1⟩
end

theorem open_top_ints {H : Type} {enc : TypeId × Value → H} {P : Program} {w : World} {base : Nat} {spare : Nat → Bool} {held : Bool} {r : Reach} {b0 : Nat} {t e : TypeId} {k : IntKind} {v : Value} {d : DataW H} {p : List MemPlace} (ht : P.underlying t = some (.slice e)) (he : P.underlying e = some (.int k)) (hc : P.cellsOf e = 1)
    (hv : Value.okWide P w r b0 t v) (h : DataW.Trod enc P w base spare held t v d p) : ∃ A cap xs, v = .slice A (xs : List Int).length cap ∧ Rd w A (xs.map (.int k)) ∧ xs.length + 1 ≤ Rows.uptoBulk d := by
  obtain ⟨n, hn⟩ := h
  obtain ⟨a, m, c, rfl⟩ := okWide_slice ht hv
  exact open_int_slice ht he hc hn
theorem open_cap {H : Type} {enc : TypeId × Value → H} {P : Program} {w : World} {base : Nat} {spare : Nat → Bool} {held : Bool} {t e : TypeId} (ht : P.underlying t = some (.slice e)) {fuel : Nat} {A : Option Addr} {n c : Nat} {x : DataW H × List MemPlace}
    (h : DataW.trod enc P w base spare held fuel t [.slice A n c] = some x) : n ≤ c := by
  rcases open_slice ht h with ⟨h1, _⟩ | ⟨a, len, cap, m, n1, D, Pl, h1, _, hl, _⟩
  · injection h1 with h1
    injection h1 with _ h2 h3
    subst h2; subst h3; exact Nat.le_refl _
  · injection h1 with h1
    injection h1 with _ h2 h3
    subst h2; subst h3; exact hl
theorem open_top_k {H : Type} {enc : TypeId × Value → H} {P : Program} {w : World} {base : Nat} {spare : Nat → Bool} {held : Bool} {r : Reach} {b0 : Nat} {t : TypeId} {v : Value} {d : DataW H} {p : List MemPlace} {k : IntKind} (ht : P.underlying t = some (.int k))
    (hv : Value.okWide P w r b0 t v) (h : DataW.Trod enc P w base spare held t v d p) : ∃ m : Int, v = .int k m := by
  obtain ⟨z, rfl, _, _, hw⟩ := open_int ht hv h
  exact ⟨z, rfl⟩

theorem flatten_get {α : Type} {s : Nat} (hs : 0 < s) : ∀ (rows : List (List α)), (∀ r ∈ rows, r.length = s) → ∀ (k : Nat), rows.flatten[k]? = (rows[k / s]?).bind fun r => r[k % s]?
  | [], _, k => by simp
  | r :: rows, h, k => by
    have hr : r.length = s := h r (by simp)
    rw [List.flatten_cons]
    by_cases hk : k < s
    · rw [List.getElem?_append_left (by omega), Nat.div_eq_of_lt hk, Nat.mod_eq_of_lt hk]
      rfl
    · rw [List.getElem?_append_right (by omega), flatten_get hs rows (fun r' h' => h r' (by simp [h'])), hr]
      obtain ⟨q, hq⟩ : ∃ q, k = q + s := ⟨k - s, by omega⟩
      subst hq
      rw [Nat.add_sub_cancel, Nat.add_div_right q hs, Nat.add_mod_right]
      rfl
theorem rows_of {α β : Type} {f : α → β} : ∀ (rows : List β), (∀ r ∈ rows, ∃ x, r = f x) → ∃ xs : List α, rows = xs.map f
  | [], _ => ⟨[], rfl⟩
  | r :: rows, h => by
    obtain ⟨x, rfl⟩ := h r (by simp)
    obtain ⟨xs, rfl⟩ := rows_of rows (fun r' h' => h r' (by simp [h']))
    exact ⟨x :: xs, rfl⟩
section
variable {H : Type} {enc : TypeId × Value → H} {P : Program} {w : World} {base : Nat} {spare : Nat → Bool} {held : Bool}
/-- A slice of structs of one-cell fields: its cells, row by row. -/
theorem open_rows {t e : TypeId} {fs : Array Field} {n : Nat} {u : Value} {y : DataW H × List MemPlace} (ht : P.underlying t = some (.slice e)) (he : P.underlying e = some (.struct fs))
    (hone : oneCellFields P fs = true) (hC : P.cellsOf e = fs.size) (h0 : 0 < fs.size) (h : DataW.trod enc P w base spare held n t [u] = some y) :
    ∃ (A : Option Addr) (cap : Nat) (rows : List (List Value)), u = .slice A rows.length cap ∧ Rd w A rows.flatten ∧ rows.length + 1 ≤ Rows.uptoBulk y.1 ∧
      ∀ r ∈ rows, r.length = fs.size ∧ ∃ n', ∀ (j : Nat) (f : Field), fs[j]? = some f → ∃ v y', r[j]? = some v ∧ DataW.trod enc P w base spare held n' f.type [v] = some y' ∧ Rows.uptoBulk y'.1 ≤ Rows.uptoBulk y.1 := by
  rcases open_slice ht h with ⟨h1, rfl⟩ | ⟨a, len, cap, m, n1, D, Pl, h1, hb, hl, hm, hmm, rfl, hi⟩
  · injection h1 with h1
    subst h1
    exact ⟨none, 0, [], rfl, Rd.nil _ _, by simp [Rows.uptoBulk], fun r hr => by cases hr⟩
  · injection h1 with h1
    subst h1
    have hlm : len ≤ m := by rw [hmm]; split <;> omega
    have hrow : ∀ i : Nat, ∃ r : List Value, i < len → w.cells? base (a.add (i * P.cellsOf e)) (P.cellsOf e) = some r ∧ DataW.trod enc P w base spare held n1 e r = some (D i, Pl i) := by
      intro i
      by_cases hil : i < len
      · obtain ⟨r, hr⟩ := hi i (by omega)
        exact ⟨r, fun _ => hr⟩
      · exact ⟨[], fun h => absurd h hil⟩
    obtain ⟨R, hR⟩ := Classical.axiomOfChoice hrow
    have hlen : ((List.range len).map R).length = len := by simp
    have hsz : ∀ r ∈ (List.range len).map R, r.length = fs.size := by
      intro r hr
      obtain ⟨i, hi', rfl⟩ := List.mem_map.1 hr
      have := (World.cells?_some (hR i (List.mem_range.1 hi')).1).2.1
      rw [this, hC]
    refine ⟨some a, cap, (List.range len).map R, by rw [hlen], ?_, ?_, ?_⟩
    · intro k v hv
      rw [flatten_get h0 _ hsz k] at hv
      cases hq : ((List.range len).map R)[k / fs.size]? with
      | none => rw [hq] at hv; cases hv
      | some r =>
        rw [hq] at hv
        have hv' : r[k % fs.size]? = some v := hv
        obtain ⟨hq1, hq2⟩ := List.getElem?_eq_some_iff.1 hq
        rw [hlen] at hq1
        rw [List.getElem_map, List.getElem_range] at hq2
        subst hq2
        have hc := (World.cells?_some (hR _ hq1).1).2.2 (k % fs.size) (by rw [hC]; exact Nat.mod_lt _ h0)
        rw [add_add, hC, Nat.div_add_mod'] at hc
        exact ⟨a, rfl, hc.trans hv'⟩
    · have := slice_le (H := H) ((List.range len).map D) ((List.range (m - len)).map fun j => D (len + j))
      show _ ≤ Rows.uptoBulk (DataW.slice _ _)
      simp only [List.length_map, List.length_range] at this ⊢
      omega
    · intro r hr
      refine ⟨hsz r hr, ?_⟩
      obtain ⟨i, hi', rfl⟩ := List.mem_map.1 hr
      obtain ⟨hc, htr⟩ := hR i (List.mem_range.1 hi')
      obtain ⟨xs, n', _, hx, _, hxl, hg⟩ := DataW.trod_struct he htr
      simp only [Prod.mk.injEq] at hx
      refine ⟨n', fun j f hj => ?_⟩
      obtain ⟨ho, hk⟩ := hone_of hone j f hj
      have hjl : j < fs.size := (Array.getElem?_eq_some_iff.1 hj).1
      have hrl := hsz (R i) hr
      have h2 := hg j f hj
      rw [ho, hk] at h2
      have hone' : ((R i).drop j).take 1 = [(R i)[j]'(by omega)] := by
        rw [List.drop_eq_getElem_cons (by omega)]
        rfl
      rw [hone'] at h2
      have hys : xs[j]? = some (xs[j]'(by omega)) := List.getElem?_eq_getElem (by omega)
      refine ⟨_, _, List.getElem?_eq_getElem (by omega), h2.trans hys, ?_⟩
      have k1 : Rows.uptoBulk (xs[j]'(by omega)).1 ≤ Rows.uptoBulk (D i) := by
        rw [hx.1]
        exact agg_le (List.mem_map.2 ⟨_, List.getElem_mem _, rfl⟩)
      have k2 : Rows.uptoBulk (D i) ≤ Rows.uptoBulkAll ((List.range len).map D) := part_le (List.mem_map.2 ⟨i, hi', rfl⟩)
      show _ ≤ Rows.uptoBulk (DataW.slice _ _)
      simp only [Rows.uptoBulk]
      omega
/-- A slice of pairs of integers. -/
theorem open_pairs {t e : TypeId} {f0 f1 : Field} {n : Nat} {u : Value} {y : DataW H × List MemPlace} (ht : P.underlying t = some (.slice e)) (he : P.underlying e = some (.struct #[f0, f1]))
    (hone : oneCellFields P #[f0, f1] = true) (hC : P.cellsOf e = 2) (i0 : P.underlying f0.type = some (.int .i64)) (i1 : P.underlying f1.type = some (.int .i64)) (h : DataW.trod enc P w base spare held n t [u] = some y) :
    ∃ (A : Option Addr) (cap : Nat) (xs : List (Int × Int)), u = .slice A xs.length cap ∧ Rd w A (xs.flatMap fun x => [.int .i64 x.1, .int .i64 x.2]) ∧ xs.length + 1 ≤ Rows.uptoBulk y.1 := by
  obtain ⟨A, cap, rows, rfl, hr, hb, hrow⟩ := open_rows ht he hone hC (by show 0 < 2; decide) h
  obtain ⟨xs, rfl⟩ := rows_of (f := fun x : Int × Int => [Value.int .i64 x.1, Value.int .i64 x.2]) rows (fun r hr' => by
    obtain ⟨hl, n', hf⟩ := hrow r hr'
    obtain ⟨v0, y0, c0, g0, _⟩ := hf 0 _ rfl
    obtain ⟨v1, y1, c1, g1, _⟩ := hf 1 _ rfl
    obtain ⟨a, rfl⟩ := open_i64 i0 g0
    obtain ⟨b, rfl⟩ := open_i64 i1 g1
    have hl' : r.length = 2 := hl
    match r, hl', c0, c1 with
    | [x0, x1], _, c0, c1 =>
      simp at c0 c1
      subst c0 c1
      exact ⟨(a, b), rfl⟩)
  refine ⟨A, cap, xs, by rw [List.length_map], ?_, by simpa using hb⟩
  rw [List.flatMap_def]
  exact hr
end
end Go.Proofs.YtiblpnadninmbaaDoor.top

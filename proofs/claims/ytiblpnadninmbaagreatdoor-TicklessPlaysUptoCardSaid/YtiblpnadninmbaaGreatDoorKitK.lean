/- Rows of structs: append of one struct onto a row of the call's own, cells of a row of structs. No premise of its own. -/
import Derived.Test.YtiblpnadninmbaaGreatDoorKit
namespace Go.Proofs.YtiblpnadninmbaaGreatDoor
open Go.RowKit

/-- 't' is a slice type whose elements 'e' take k cells. -/
structure SlK (P : Program) (t e : TypeId) (k : Nat) (bytes : Nat) : Prop where
  ht : P.underlying t = some (.slice e)
  hi : ∃ i z, P.info? e = some i ∧ i.zero = some z ∧ i.size = k ∧ i.bytes = bytes ∧ z.cells.size = k
  h0 : 0 < k

theorem SlK.mk' {P : Program} {t e : TypeId} {z : Value} {k bytes : Nat} (ht : P.underlying t = some (.slice e)) (h : (P.info? e).map (fun i => (i.zero, i.size, i.bytes)) = some (some z, k, bytes)) (hz : z.cells.size = k) (h0 : 0 < k) : SlK P t e k bytes := by
  refine ⟨ht, ?_, h0⟩
  obtain ⟨i, hi, h1, h2, h3⟩ := info_parts h
  exact ⟨i, z, hi, h1, h2, h3, hz⟩

theorem own_sliceK {w : World} {base : Nat} {e : TypeId} {k : Nat} {v : Value} {n : Nat} {vs : List Value} (h : w.ownsRow base e k v n vs) :
    ∃ A c, v = .slice A n c ∧ n ≤ c ∧ c ≤ maxLen ∧ vs.length = n * k ∧ Rd w A vs := by
  rcases h.2 with ⟨h1, h2⟩ | ⟨g, cap, cur, h1, _, _, h3, h4, _⟩
  · subst h2; subst h1
    have : vs = [] := List.eq_nil_of_length_eq_zero (by simpa using h.1)
    subst this
    exact ⟨none, 0, rfl, Nat.le_refl _, Nat.zero_le _, by simp, Rd.nil _ _⟩
  · subst h1
    refine ⟨_, _, rfl, h3, h4, h.1, ?_⟩
    intro i u hu
    exact ⟨⟨g, 0, none⟩, rfl, h.cells rfl i u hu⟩
theorem own_rdK {w : World} {base : Nat} {e : TypeId} {k : Nat} {A : Option Addr} {n c : Nat} {vs : List Value} (h : w.ownsRow base e k (.slice A n c) n vs) : Rd w A vs := by
  obtain ⟨A', c', hv, _, _, _, hr⟩ := own_sliceK h
  injection hv with h1
  subst h1
  exact hr
theorem own_nilK (w : World) (base : Nat) (e : TypeId) (k : Nat) : w.ownsRow base e k (.slice none 0 0) 0 [] := ⟨by simp, .inl ⟨rfl, rfl⟩⟩
theorem own_monoK {w : World} {base base' : Nat} {e : TypeId} {k : Nat} {v : Value} {n : Nat} {vs : List Value} (h : w.ownsRow base e k v n vs) (hb : base' ≤ base) : w.ownsRow base' e k v n vs := by
  refine ⟨h.1, ?_⟩
  rcases h.2 with h2 | ⟨g, cap, cur, h1, h2, h3⟩
  · exact .inl h2
  · exact .inr ⟨g, cap, cur, h1, Nat.le_trans hb h2, h3⟩
theorem own_belowK {w w' : World} {base : Nat} {e : TypeId} {k : Nat} {v : Value} {n : Nat} {vs : List Value} (h : w.ownsRow base e k v n vs) (hb : Below w.heap.size w w') : w'.ownsRow base e k v n vs := by
  refine ⟨h.1, ?_⟩
  rcases h.2 with h2 | ⟨g, cap, cur, h1, h2, h3, h4⟩
  · exact .inl h2
  · exact .inr ⟨g, cap, cur, h1, h2, by rw [hb.block g (Array.getElem?_eq_some_iff.1 h3).1]; exact h3, h4⟩
/-- A row abides where its own block does. -/
theorem own_keptK {w w' : World} {base : Nat} {e : TypeId} {k : Nat} {v : Value} {n : Nat} {vs : List Value} (h : w.ownsRow base e k v n vs) (hb : ∀ g, v.ownBlock = some g → w'.heap[g]? = w.heap[g]?) : w'.ownsRow base e k v n vs := by
  refine ⟨h.1, ?_⟩
  rcases h.2 with h2 | ⟨g, cap, cur, h1, h2, h3, h4⟩
  · exact .inl h2
  · exact .inr ⟨g, cap, cur, h1, h2, by rw [hb g (by rw [h1]; rfl)]; exact h3, h4⟩
theorem own_allocK {w : World} {base : Nat} {e : TypeId} {k : Nat} {v : Value} {n : Nat} {vs : List Value} (h : w.ownsRow base e k v n vs) (o : Obj) : (w.alloc o).ownsRow base e k v n vs := own_belowK h ((Below.refl _ _).alloc (Nat.le_refl _) _)
/-- The block of a row: from the base on, and it holds cells of the row's element type. -/
theorem own_blockK {w : World} {base : Nat} {e : TypeId} {k : Nat} {v : Value} {n : Nat} {vs : List Value} (h : w.ownsRow base e k v n vs) {g : Nat} (hg : v.ownBlock = some g) : base ≤ g ∧ g < w.heap.size ∧ ∃ cur, w.heap[g]? = some (.cells cur e (0, 0)) := by
  rcases h.2 with ⟨h1, _⟩ | ⟨g', cap, cur, h1, h2, h3, _⟩
  · subst h1; cases hg
  · subst h1
    have : g' = g := by injection hg
    subst this
    exact ⟨h2, box_lt h3, cur, h3⟩
/-- Two rows of unlike element types lie in unlike blocks. -/
theorem own_apart {w : World} {base base' : Nat} {e e' : TypeId} {k k' : Nat} {v v' : Value} {n n' : Nat} {vs vs' : List Value} (h : w.ownsRow base e k v n vs) (h' : w.ownsRow base' e' k' v' n' vs') (he : e ≠ e') {g : Nat} (hg : v.ownBlock = some g) : v'.ownBlock ≠ some g := by
  intro hg'
  obtain ⟨_, _, cur, hc⟩ := own_blockK h hg
  obtain ⟨_, _, cur', hc'⟩ := own_blockK h' hg'
  rw [hc] at hc'
  injection hc' with hc'
  injection hc' with _ hc'
  exact he hc'
theorem own_apart_box {w : World} {base : Nat} {e t : TypeId} {k : Nat} {v : Value} {n : Nat} {vs : List Value} (h : w.ownsRow base e k v n vs) {D : Nat} {cs : Array Value} (hD : w.heap[D]? = some (.cells cs t (0, 0))) (he : e ≠ t) : v.ownBlock ≠ some D := by
  intro hg
  obtain ⟨_, _, cur, hc⟩ := own_blockK h hg
  rw [hc] at hD
  injection hD with hD
  injection hD with _ hD
  exact he hD
theorem own_low {w : World} {base : Nat} {e : TypeId} {k : Nat} {v : Value} {n : Nat} {vs : List Value} (h : w.ownsRow base e k v n vs) {D : Nat} (hD : D < base) : v.ownBlock ≠ some D := by
  intro hg
  obtain ⟨h1, _⟩ := own_blockK h hg
  omega

section
variable {P : Program} {w : World}
/-- An empty block of the call's own ('[]T{}'). -/
theorem own_emptyK (w : World) (e : TypeId) {k : Nat} {base : Nat} (hb : base ≤ w.heap.size) : (w.alloc (.cells #[] e)).ownsRow base e k (.slice (some ⟨w.heap.size, 0, none⟩) 0 0) 0 [] :=
  ⟨by simp, .inr ⟨w.heap.size, 0, #[], rfl, hb, heap_alloc_new w _, Nat.le_refl _, by unfold maxLen; omega, by simp, by simp⟩⟩
/-- append(out, x): out is the call's own row of structs, x a struct in a block by itself. -/
theorem wp_appK {ops : Array Oper} {rest : List Oper} {o : Oper} {a : Act} {Q : Exit → Act → World → Prop} (hgd : o.guard = none) (s x : Operand) {t e : TypeId} {k bytes : Nat}
    (T : SlK P t e k bytes) (hb : bytes ≤ 128) (ho : o.op = .call { callee := .builtin .append, args := #[s, x], argTypes := #[t, t] })
    {base : Nat} {v : Value} {n : Nat} {xs : List Value} (hown : w.ownsRow base e k v n xs) (hs : a.eval s = v) (hn : n ≤ 1099511627775) (hbase : base ≤ w.heap.size)
    (g : Nat) (us : List Value) (hx : a.eval x = .slice (some ⟨g, 0, none⟩) 1 1) (hl : us.length = k) (hc : ∀ j u, us[j]? = some u → w.cell? ⟨g, j, none⟩ = some u) (h1 : us.all (fun u => u.oneCell') = true)
    (h : ∀ A c w', w'.ownsRow base e k (.slice A (n + 1) c) (n + 1) (xs ++ us) → w.grownBy w' v.ownBlock → ((Value.slice A (n + 1) c).ownBlock = v.ownBlock ∨ (Value.slice A (n + 1) c).ownBlock = some w.heap.size) → wpList P ops Q rest (a.put o.dst (.slice A (n + 1) c)) w') : wpList P ops Q (o :: rest) a w := by
  obtain ⟨i, z, hi, hz, hs1, hby, hzs⟩ := T.hi
  have hnews : ∀ j u', us[j]? = some u' → w.cell? ((⟨g, 0, none⟩ : Addr).add j) = some u' := by
    intro j u' hu
    rw [add_zero_lit, Nat.zero_add]; exact hc j u' hu
  have h1' : ∀ u ∈ us, u.oneCell' = true := List.all_eq_true.1 h1
  have h63 : n + 1 ≤ maxLen := by unfold maxLen; omega
  have hbt : (n + 1) * bytes ≤ 140737488355328 := by
    calc (n + 1) * bytes ≤ (n + 1) * 128 := Nat.mul_le_mul_left _ hb
      _ ≤ _ := by omega
  obtain ⟨v', w', hrun, hown', hg, _, hat⟩ := run_append_own_at (P := P) w base t o.type e i z k bytes T.ht hi hz hs1 hby hzs T.h0 v n xs hown ⟨g, 0, none⟩ 1 1 us (by rw [hl, Nat.one_mul]) hnews h1' h63 hbt hbase
  obtain ⟨A, c, rfl, _⟩ := own_sliceK hown'
  refine wpList_plain hgd fun K hK => ?_
  unfold Oper.wp execOp
  simp only [ho, resolve, invoke, builtin, Sem.run_bind, Sem.run_pure, Result.andThen_ok, List.map_toArray, List.map_cons, List.map_nil, hs, hx, hrun]
  exact hK _ _ (h A c w' hown' hg hat)
end
theorem new_cell {w : World} {cs : Array Value} {t : TypeId} {j : Nat} {u : Value} (h : cs.toList[j]? = some u) : (w.alloc (.cells cs t)).cell? ⟨w.heap.size, j, none⟩ = some u := by
  rw [cell_of_row _ _ _ _ _ _ (heap_alloc_new w _)]
  simpa using h
theorem box_grown {w w' : World} {row : Option Nat} (hg : w.grownBy w' row) {b : Nat} {o : Obj} (h : w.heap[b]? = some o) (hne : row ≠ some b) : w'.heap[b]? = some o := (hg.block b (box_lt h) (fun e => hne e.symm)).trans h
theorem own_grownK {w w' : World} {row : Option Nat} (hg : w.grownBy w' row) {base : Nat} {e : TypeId} {k : Nat} {v : Value} {n : Nat} {vs : List Value} (h : w.ownsRow base e k v n vs) (hne : ∀ g, v.ownBlock = some g → row ≠ some g) : w'.ownsRow base e k v n vs :=
  own_keptK h fun g hg' => by
    obtain ⟨_, hlt, _⟩ := own_blockK h hg'
    exact hg.block g hlt (fun e => hne g hg' e.symm)
theorem own_setK {w : World} {base : Nat} {e : TypeId} {k : Nat} {v : Value} {n : Nat} {vs : List Value} (h : w.ownsRow base e k v n vs) {p : Addr} (hne : v.ownBlock ≠ some p.block) (u : Value) : (w.setCell p u).ownsRow base e k v n vs :=
  own_keptK h fun g hg' => Below.heap_setCell w p u g (fun e => hne (by rw [hg', e]))
section
variable {P : Program} {w : World}
/-- append(out, xs...): out is the call's own row of structs, xs whatever slice of such (nil too). -/
theorem wp_appNK {ops : Array Oper} {rest : List Oper} {o : Oper} {a : Act} {Q : Exit → Act → World → Prop} (hgd : o.guard = none) (s x : Operand) {t e : TypeId} {k bytes : Nat}
    (T : SlK P t e k bytes) (hb : bytes ≤ 128) (ho : o.op = .call { callee := .builtin .append, args := #[s, x], argTypes := #[t, t] })
    {base : Nat} {v : Value} {n : Nat} {xs : List Value} (hown : w.ownsRow base e k v n xs) (hs : a.eval s = v) (hbase : base ≤ w.heap.size)
    (A : Option Addr) (m c : Nat) (vs : List Value) (hx : a.eval x = .slice A m c) (hl : vs.length = m * k) (hr : Rd w A vs) (h1 : ∀ u ∈ vs, u.oneCell' = true) (hn : n + m ≤ 1099511627776)
    (h : ∀ A c w', w'.ownsRow base e k (.slice A (n + m) c) (n + m) (xs ++ vs) → Below base w w' → wpList P ops Q rest (a.put o.dst (.slice A (n + m) c)) w') : wpList P ops Q (o :: rest) a w := by
  obtain ⟨i, z, hi, hz, hs1, hby, hzs⟩ := T.hi
  rcases A with _ | ad
  · have hv : vs = [] := by
      cases vs with
      | nil => rfl
      | cons y ys => obtain ⟨a', ha, _⟩ := hr 0 y rfl; cases ha
    subst hv
    have hm : m = 0 := by
      have h0 := T.h0
      have : m * k = 0 := by simpa using hl.symm
      rcases Nat.mul_eq_zero.1 this with h | h
      · exact h
      · omega
    subst hm
    refine wpList_plain hgd fun K hK => ?_
    unfold Oper.wp execOp
    have hrun : (Builtin.append_ #[t, t] o.type #[v, .slice none 0 c]).run P w = .ok v w := by
      rcases hown.2 with ⟨rfl, rfl⟩ | ⟨g, cap, cur, rfl, _, _, hnc, _⟩
      · simp [Builtin.append_, run_underlying T.ht, sizeOf, typeInfo, hi, Builtin.lenOf, Builtin.firstCells]
      · simp [Builtin.append_, run_underlying T.ht, sizeOf, typeInfo, hi, Builtin.lenOf, Builtin.firstCells, hnc, storeCells]
    simp only [ho, resolve, invoke, builtin, Sem.run_bind, Sem.run_pure, Result.andThen_ok, List.map_toArray, List.map_cons, List.map_nil, hs, hx, hrun]
    obtain ⟨A', c', hv', _⟩ := own_sliceK hown
    subst hv'
    exact hK _ _ (h A' c' w (by simpa using hown) (Below.refl _ _))
  · refine wpList_append_own w hgd s x t ho base e i z k bytes T.ht hi hz hs1 hby hzs T.h0 v n xs hs hown ad m c vs hx hl ?_ h1 ?_ ?_ hbase ?_
    · intro j u hu
      obtain ⟨a', ha, hc⟩ := hr j u hu
      cases ha; exact hc
    · unfold maxLen; omega
    · calc (n + m) * bytes ≤ (n + m) * 128 := Nat.mul_le_mul_left _ hb
        _ ≤ _ := by omega
    · intro v' w' hown' hg _
      obtain ⟨A, c', rfl, _⟩ := own_sliceK hown'
      refine h A c' w' hown' ((Below.refl base w).grown hg hbase ?_)
      intro k hk
      exact (hown.lt k hk).1
/-- The same as one step of a region that draws its order. -/
theorem step_appK {ops : Array Oper} {o : Oper} {a : Act} {K : Act → World → Prop} {Q : Exit → Act → World → Prop} {E : Prop} (hgd : o.guard = none) (s x : Operand) {t e : TypeId} {k bytes : Nat}
    (T : SlK P t e k bytes) (hb : bytes ≤ 128) (ho : o.op = .call { callee := .builtin .append, args := #[s, x], argTypes := #[t, t] })
    {base : Nat} {v : Value} {n : Nat} {xs : List Value} (hown : w.ownsRow base e k v n xs) (hs : a.eval s = v) (hn : n ≤ 1099511627775) (hbase : base ≤ w.heap.size)
    (g : Nat) (us : List Value) (hx : a.eval x = .slice (some ⟨g, 0, none⟩) 1 1) (hl : us.length = k) (hc : ∀ j u, us[j]? = some u → w.cell? ⟨g, j, none⟩ = some u) (h1 : us.all (fun u => u.oneCell') = true)
    (h : ∀ A c w', w'.ownsRow base e k (.slice A (n + 1) c) (n + 1) (xs ++ us) → w.grownBy w' v.ownBlock → ((Value.slice A (n + 1) c).ownBlock = v.ownBlock ∨ (Value.slice A (n + 1) c).ownBlock = some w.heap.size) → K (a.put o.dst (.slice A (n + 1) c)) w') :
    if Region.wanted o (yielded ops a.tmps) = true then Oper.wp P o a w K Q else E := by
  have hw : Region.wanted o (yielded ops a.tmps) = true := by simp [Region.wanted, hgd]
  rw [if_pos hw]
  obtain ⟨i, z, hi, hz, hs1, hby, hzs⟩ := T.hi
  have hnews : ∀ j u', us[j]? = some u' → w.cell? ((⟨g, 0, none⟩ : Addr).add j) = some u' := by
    intro j u' hu
    rw [add_zero_lit, Nat.zero_add]; exact hc j u' hu
  have h1' : ∀ u ∈ us, u.oneCell' = true := List.all_eq_true.1 h1
  have h63 : n + 1 ≤ maxLen := by unfold maxLen; omega
  have hbt : (n + 1) * bytes ≤ 140737488355328 := by
    calc (n + 1) * bytes ≤ (n + 1) * 128 := Nat.mul_le_mul_left _ hb
      _ ≤ _ := by omega
  obtain ⟨v', w', hrun, hown', hg, _, hat⟩ := run_append_own_at (P := P) w base t o.type e i z k bytes T.ht hi hz hs1 hby hzs T.h0 v n xs hown ⟨g, 0, none⟩ 1 1 us (by rw [hl, Nat.one_mul]) hnews h1' h63 hbt hbase
  obtain ⟨A, c, rfl, _⟩ := own_sliceK hown'
  unfold Oper.wp execOp
  simp only [ho, resolve, invoke, builtin, Sem.run_bind, Sem.run_pure, Result.andThen_ok, List.map_toArray, List.map_cons, List.map_nil, hs, hx, hrun]
  exact h A c w' hown' hg hat
end
/-- These blocks stand as they stood. -/
structure KeepB (l : List Nat) (w w' : World) : Prop where
  size : w.heap.size ≤ w'.heap.size
  same : ∀ b ∈ l, b < w.heap.size ∧ w'.heap[b]? = w.heap[b]?
theorem KeepB.box {l : List Nat} {w w' : World} (h : KeepB l w w') {b : Nat} (hb : b ∈ l) {o : Obj} (ho : w.heap[b]? = some o) : w'.heap[b]? = some o := ((h.same b hb).2).trans ho
theorem KeepB.start {l : List Nat} {w : World} (h : ∀ b ∈ l, b < w.heap.size) : KeepB l w w := ⟨Nat.le_refl _, fun b hb => ⟨h b hb, rfl⟩⟩
theorem KeepB.drew {l : List Nat} {w w' : World} (h : KeepB l w w') : KeepB l w w'.drew := ⟨h.size, h.same⟩
theorem KeepB.alloc {l : List Nat} {w w' : World} (h : KeepB l w w') (o : Obj) : KeepB l w (w'.alloc o) :=
  ⟨Nat.le_trans h.size (by simp), fun b hb => ⟨(h.same b hb).1, (Below.heap_alloc w' o b (Nat.lt_of_lt_of_le (h.same b hb).1 h.size)).trans (h.same b hb).2⟩⟩
theorem KeepB.grown {l : List Nat} {w w' w2 : World} {row : Option Nat} (h : KeepB l w w') (hg : w'.grownBy w2 row) (hne : ∀ b ∈ l, row ≠ some b) : KeepB l w w2 :=
  ⟨Nat.le_trans h.size hg.size, fun b hb => ⟨(h.same b hb).1, (hg.block b (Nat.lt_of_lt_of_le (h.same b hb).1 h.size) (fun e => hne b hb e.symm)).trans (h.same b hb).2⟩⟩
/-- These blocks stand as they stood, as long as no block came. -/
def KeepT (l : List Nat) (w w' : World) : Prop := w'.heap.size ≤ w.heap.size → KeepB l w w'
theorem KeepT.start {l : List Nat} {w : World} (h : ∀ b ∈ l, b < w.heap.size) : Hid (KeepT l w w) := fun _ => KeepB.start h
theorem KeepT.drew {l : List Nat} {w w' : World} (h : Hid (KeepT l w w')) : Hid (KeepT l w w'.drew) := fun hs => (h.out hs).drew
theorem KeepT.late {l : List Nat} {w w' : World} (h : w.heap.size < w'.heap.size) : Hid (KeepT l w w') := fun hs => absurd hs (by omega)
theorem KeepT.cell {l : List Nat} {w : World} {b : Nat} {t : TypeId} {cs : Array Value} (hb : b ∈ l) (ho : w.heap[b]? = some (.cells cs t (0, 0))) : ∀ w', Hid (KeepT l w w') → w'.heap.size ≤ w.heap.size → ∀ i, w'.cell? ⟨b, i, none⟩ = cs[i]? :=
  fun _ h hs => (box_rules ((h.out hs).box hb ho)).1
theorem grown_below {w w' : World} {v : Value} {base : Nat} {e : TypeId} {k n : Nat} {vs : List Value} (hown : w.ownsRow base e k v n vs) (hg : w.grownBy w' v.ownBlock) (hb : base ≤ w.heap.size) : Below base w w' :=
  (Below.refl base w).grown hg hb fun g hk => (hown.lt g hk).1
theorem grown_undrew {w w' : World} {row : Option Nat} (h : w.drew.grownBy w' row) : w.grownBy w' row := ⟨h.os, h.tape, h.output, h.size, h.block⟩
theorem own_drewK {w : World} {base : Nat} {e : TypeId} {k : Nat} {v : Value} {n : Nat} {vs : List Value} (h : w.ownsRow base e k v n vs) : w.drew.ownsRow base e k v n vs := h
/-- What an append onto one's own row leaves as it was. -/
structure Step (w2 w3 : World) (v : Value) (base : Nat) (e : TypeId) : Prop where
  box : ∀ {b : Nat} {ob : Obj}, w2.heap[b]? = some ob → v.ownBlock ≠ some b → w3.heap[b]? = some ob
  low : ∀ {b : Nat} {ob : Obj}, w2.heap[b]? = some ob → b < base → w3.heap[b]? = some ob
  other : ∀ {b : Nat} {cs : Array Value} {t : TypeId}, w2.heap[b]? = some (.cells cs t (0, 0)) → e ≠ t → w3.heap[b]? = some (.cells cs t (0, 0))
  row : ∀ {base' : Nat} {e' : TypeId} {k' : Nat} {v' : Value} {n' : Nat} {vs' : List Value}, w2.ownsRow base' e' k' v' n' vs' → e' ≠ e → w3.ownsRow base' e' k' v' n' vs'
  below : ∀ {B : Nat} {W : World}, Below B W w2 → B ≤ base → B ≤ w2.heap.size → Below B W w3
  size : w2.heap.size + 1 ≤ w3.heap.size
theorem grown_step {w2 w3 : World} {o : Obj} {v : Value} {base : Nat} {e : TypeId} {k n : Nat} {vs : List Value} (h : w2.ownsRow base e k v n vs) (hg : (w2.alloc o).grownBy w3 v.ownBlock) : Step w2 w3 v base e := by
  have hb : ∀ {b : Nat} {ob : Obj}, w2.heap[b]? = some ob → v.ownBlock ≠ some b → w3.heap[b]? = some ob := fun hc hne => box_grown hg (box_alloc hc o) hne
  refine ⟨hb, fun hc hlt => hb hc (own_low h hlt), fun hc he => hb hc (own_apart_box h hc he), fun hr he => own_keptK hr fun g hg' => ?_, fun hW h1 h2 => ?_, ?_⟩
  · obtain ⟨_, hlt, cur, hc⟩ := own_blockK hr hg'
    rw [hc]
    exact hb hc (own_apart hr h he hg')
  · exact (hW.alloc h2 o).trans ((Below.refl _ _).grown hg (by simp; omega) fun g hk => Nat.le_trans h1 (h.lt g hk).1)
  · have := hg.size
    simpa using this
end Go.Proofs.YtiblpnadninmbaaGreatDoor

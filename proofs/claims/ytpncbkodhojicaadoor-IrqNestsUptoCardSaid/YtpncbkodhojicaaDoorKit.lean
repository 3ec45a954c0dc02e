/- General words for memory used by all walks of this seat: slices that read as lists, append onto rows of the call's own, cells that abide behind a callee. No premise of its own. -/
import Derived.Test.YtpncbkodhojicaaDoorRows
import Derived.WalkKit
import Derived.WalkSpells
import Derived.WalkLawsBesides
import Derived.Lib.Hide
import Derived.Deep.QuietTactic
import Derived.BigQuiet
import Derived.ChangeAlike
import Derived.RegionTactic
import Derived.LoopTactic
import Derived.Deep.DeepCutAuto
import Derived.Deep.RegionHeld3
import Derived.Maps.AppendAt
namespace Go.Proofs.YtpncbkodhojicaaDoor
open Go.RowKit

/-- The slice value '.slice A n c' with n = vs.length reads as the cells vs. -/
def Rd (w : World) (A : Option Addr) (vs : List Value) : Prop :=
  ∀ i u, vs[i]? = some u → ∃ a, A = some a ∧ w.cell? (a.add i) = some u

theorem add_block (a : Addr) (n : Nat) : (a.add n).block = a.block := by unfold Addr.add; split <;> rfl
theorem add_zero_lit (b o i : Nat) : (⟨b, o, none⟩ : Addr).add i = ⟨b, o + i, none⟩ := by
  unfold Addr.add; split <;> simp_all

section
variable {w w' : World} {A : Option Addr} {vs : List Value}
theorem Rd.lt {i : Nat} {u : Value} {a : Addr} (h : w.cell? (a.add i) = some u) : a.block < w.heap.size := by
  have := World.block_lt_of_cell? w _ h
  rwa [add_block] at this
theorem Rd.below (h : Rd w A vs) (hb : Below w.heap.size w w') : Rd w' A vs := fun i u hu => by
  obtain ⟨a, ha, hc⟩ := h i u hu
  exact ⟨a, ha, (hb.cell (by rw [add_block]; exact Rd.lt hc)).trans hc⟩
theorem Rd.nil (w : World) (A : Option Addr) : Rd w A [] := fun i u hu => by simp at hu
theorem Rd.take (h : Rd w A vs) (n : Nat) : Rd w A (vs.take n) := fun i u hu => by
  rw [List.getElem?_take] at hu
  split at hu
  · exact h i u hu
  · cases hu
theorem Rd.get (h : Rd w A vs) {i : Nat} (hi : i < vs.length) : ∃ a, A = some a ∧ w.cell? (a.add i) = some vs[i] :=
  h i _ (List.getElem?_eq_getElem hi)
theorem Rd.int {k : IntKind} {xs : List Int} (h : Rd w A (xs.map (.int k))) {i : Nat} (hi : i < xs.length) :
    ∃ a, A = some a ∧ w.cell? (a.add i) = some (.int k (xs.getD i 0)) := by
  obtain ⟨a, ha, hc⟩ := h i (.int k (xs.getD i 0)) (by simp [List.getElem?_map, List.getElem?_eq_getElem hi, List.getD])
  exact ⟨a, ha, hc⟩
theorem Rd.drewN (h : Rd w A vs) (n : Nat) : Rd (w.drewN n) A vs := h
theorem Rd.drew (h : Rd w A vs) : Rd w.drew A vs := h
theorem Rd.alloc (h : Rd w A vs) (o : Obj) : Rd (w.alloc o) A vs := h.below ((Below.refl _ _).alloc (Nat.le_refl _) _)
theorem Rd.of_own {base : Nat} {e : TypeId} {v : Value} {n : Nat} (h : w.ownsRow base e 1 v n vs) : ∃ c, v = .slice A n c → Rd w A vs := by
  refine ⟨0, fun hv => ?_⟩
  intro i u hu
  rcases h.2 with ⟨h1, h2⟩ | ⟨g, cap, cur, h1, _⟩
  · subst h2
    have : vs = [] := List.eq_nil_of_length_eq_zero (by simpa using h.1)
    subst this; simp at hu
  · have hg : v.ownBlock = some g := by rw [h1]; rfl
    have hc := h.cells hg i u hu
    rw [hv] at h1
    injection h1 with h1
    exact ⟨⟨g, 0, none⟩, h1, hc⟩
end

/-- An owned row's value is a slice; it reads as its cells. -/
theorem own_slice {w : World} {base : Nat} {e : TypeId} {v : Value} {n : Nat} {vs : List Value} (h : w.ownsRow base e 1 v n vs) :
    ∃ A c, v = .slice A n c ∧ n ≤ c ∧ c ≤ maxLen ∧ vs.length = n ∧ Rd w A vs := by
  have hl : vs.length = n := by simpa using h.1
  rcases h.2 with ⟨h1, h2⟩ | ⟨g, cap, cur, h1, _, _, h3, h4, _⟩
  · subst h2; subst h1
    have : vs = [] := List.eq_nil_of_length_eq_zero hl
    subst this
    exact ⟨none, 0, rfl, Nat.le_refl _, Nat.zero_le _, rfl, Rd.nil _ _⟩
  · subst h1
    refine ⟨_, _, rfl, h3, h4, hl, ?_⟩
    obtain ⟨_, hr⟩ := Rd.of_own (A := some ⟨g, 0, none⟩) h
    intro i u hu
    exact ⟨⟨g, 0, none⟩, rfl, h.cells rfl i u hu⟩

theorem own_rd {w : World} {base : Nat} {e : TypeId} {A : Option Addr} {n c : Nat} {vs : List Value} (h : w.ownsRow base e 1 (.slice A n c) n vs) : Rd w A vs := by
  obtain ⟨A', c', hv, _, _, _, hr⟩ := own_slice h
  injection hv with h1
  subst h1
  exact hr

/-- Behind a callee that keeps all that lay: the old cells and marks read as before (two rules for the walk). -/
theorem bcell {W w1 : World} (hb : Below W.heap.size W w1) : (∀ b o, b < W.heap.size → w1.cell? ⟨b, o, none⟩ = W.cell? ⟨b, o, none⟩) ∧ (∀ b o, b < W.heap.size → w1.frozen? ⟨b, o, none⟩ = W.frozen? ⟨b, o, none⟩) :=
  ⟨fun b o h => hb.cell (p := ⟨b, o, none⟩) h, fun b o h => hb.frozen (p := ⟨b, o, none⟩) h⟩

theorem bdrewN {B : Nat} {a w : World} (h : Below B a w) (n : Nat) : Below B a (w.drewN n) := ⟨h.os, h.tape, h.output, h.size, h.block⟩

/-- A block that is known whole: two rules for the walk. -/
theorem box_rules {w : World} {b : Nat} {t : TypeId} {cs : Array Value} (h : w.heap[b]? = some (.cells cs t (0, 0))) : (∀ i, w.cell? ⟨b, i, none⟩ = cs[i]?) ∧ (∀ i, w.frozen? ⟨b, i, none⟩ = false) :=
  ⟨fun i => cell_of_row w b i cs t (0, 0) h, fun i => by simp [World.frozen?, h]⟩
theorem box_lt {w : World} {b : Nat} {o : Obj} (h : w.heap[b]? = some o) : b < w.heap.size := (Array.getElem?_eq_some_iff.1 h).1
theorem box_keep {w w1 : World} {b : Nat} {o : Obj} (h : w.heap[b]? = some o) (hb : Below w.heap.size w w1) : w1.heap[b]? = some o := (hb.block b (box_lt h)).trans h
theorem box_new {w w1 : World} {o : Obj} (hb : Below (w.alloc o).heap.size (w.alloc o) w1) : w1.heap[w.heap.size]? = some o := box_keep (heap_alloc_new w o) hb
theorem box_set {w : World} {b i : Nat} {t : TypeId} {cs : Array Value} (h : w.heap[b]? = some (.cells cs t (0, 0))) (u : Value) : (w.setCell ⟨b, i, none⟩ u).heap[b]? = some (.cells (cs.setIfInBounds i u) t (0, 0)) := by
  simp [World.setCell, Array.getElem?_modify, h]
theorem box_far {w : World} {b : Nat} {o : Obj} (h : w.heap[b]? = some o) {p : Addr} (hp : b ≠ p.block) (u : Value) : (w.setCell p u).heap[b]? = some o := (Below.heap_setCell w p u b hp).trans h
theorem box_alloc {w : World} {b : Nat} {o : Obj} (h : w.heap[b]? = some o) (o' : Obj) : (w.alloc o').heap[b]? = some o := (Below.heap_alloc w o' b (box_lt h)).trans h

theorem cell_set_far {w : World} {p q : Addr} {x : Value} (h : w.cell? q = some x) (hne : p ≠ q) (u : Value) : (w.setCell p u).cell? q = some x := (World.cell?_setCell_other w p q u hne).trans h
/-- The cell may be written. -/
def Wr (w : World) (p : Addr) : Prop := (∃ v, w.cell? p = some v) ∧ w.frozen? p = false
theorem Wr.set {w : World} {p : Addr} (h : Wr w p) (q : Addr) (u : Value) : Wr (w.setCell q u) p := by
  obtain ⟨⟨v, hv⟩, hf⟩ := h
  refine ⟨?_, by rw [World.frozen?_setCell]; exact hf⟩
  by_cases e : q = p
  · subst e
    exact ⟨u, World.cell?_setCell_same' w q u (by rw [hv]; rfl)⟩
  · exact ⟨v, cell_set_far hv e u⟩
theorem heap_new_at {w : World} {n : Nat} (o : Obj) (h : w.heap.size = n) : (w.alloc o).heap[n]? = some o := by subst h; exact heap_alloc_new w o
/-- The world at hand, under one name. -/
theorem name_world {P : Program} {c : Code} {Q : Exit → Act → World → Prop} {a : Act} {w : World} (h : ∀ W, W = w → c.wp P Q a W) : c.wp P Q a w := h w rfl

theorem undrew {w w' : World} (h : Below w.drew.heap.size w.drew w') : Below w.heap.size w w' := ⟨h.os, h.tape, h.output, h.size, h.block⟩
theorem undrewN {w w' : World} {n : Nat} (h : Below (w.drewN n).heap.size (w.drewN n) w') : Below w.heap.size w w' := ⟨h.os, h.tape, h.output, h.size, h.block⟩

/-- 't' is a slice type whose elements 'e' take one cell. -/
structure SlT (P : Program) (t e : TypeId) (z : Value) (bytes : Nat) : Prop where
  ht : P.underlying t = some (.slice e)
  hi : ∃ i, P.info? e = some i ∧ i.zero = some z ∧ i.size = 1 ∧ i.bytes = bytes
  hz : z.cells.size = 1

theorem SlT.mk' {P : Program} {t e : TypeId} {z : Value} {bytes : Nat} (ht : P.underlying t = some (.slice e)) (h : (P.info? e).map (fun i => (i.zero, i.size, i.bytes)) = some (some z, 1, bytes)) (hz : z.cells.size = 1) : SlT P t e z bytes :=
  ⟨ht, info_parts h, hz⟩

section
variable {P : Program} {w : World}

/-- append(out, x): out is the call's own row, x lies in a block by itself. -/
theorem wp_app1 {ops : Array Oper} {rest : List Oper} {o : Oper} {a : Act} {Q : Exit → Act → World → Prop} (hgd : o.guard = none) (s x : Operand) {t e : TypeId} {z : Value} {bytes : Nat}
    (T : SlT P t e z bytes) (hb : bytes ≤ 64) (ho : o.op = .call { callee := .builtin .append, args := #[s, x], argTypes := #[t, t] })
    {base : Nat} {v : Value} {n : Nat} {xs : List Value} (hown : w.ownsRow base e 1 v n xs) (hs : a.eval s = v) (hn : n ≤ 1099511627776) (hbase : base ≤ w.heap.size)
    (g : Nat) (u : Value) (hx : a.eval x = .slice (some ⟨g, 0, none⟩) 1 1) (hc : w.cell? ⟨g, 0, none⟩ = some u) (h1 : u.oneCell' = true)
    (h : ∀ A c w', w'.ownsRow base e 1 (.slice A (n + 1) c) (n + 1) (xs ++ [u]) → Below base w w' → wpList P ops Q rest (a.put o.dst (.slice A (n + 1) c)) w') : wpList P ops Q (o :: rest) a w := by
  obtain ⟨i, hi, hz, hs1, hby⟩ := T.hi
  refine wpList_append_own w hgd s x t ho base e i z 1 bytes T.ht hi hz hs1 hby T.hz (by decide) v n xs hs hown ⟨g, 0, none⟩ 1 1 [u] hx rfl ?_ ?_ ?_ ?_ hbase ?_
  · intro j u' hu
    cases j with
    | zero => simp at hu; subst hu; rw [add_zero_lit]; exact hc
    | succ j => simp at hu
  · intro u' hu; simp at hu; subst hu; exact h1
  · unfold maxLen; omega
  · calc (n + 1) * bytes ≤ (n + 1) * 64 := Nat.mul_le_mul_left _ hb
      _ ≤ _ := by omega
  · intro v' w' hown' hg _
    obtain ⟨A, c, rfl, _⟩ := own_slice hown'
    refine h A c w' hown' ((Below.refl base w).grown hg hbase ?_)
    intro k hk
    exact (hown.lt k hk).1

/-- The same, and it tells that only the row's own block may have turned. -/
theorem wp_app1g {ops : Array Oper} {rest : List Oper} {o : Oper} {a : Act} {Q : Exit → Act → World → Prop} (hgd : o.guard = none) (s x : Operand) {t e : TypeId} {z : Value} {bytes : Nat}
    (T : SlT P t e z bytes) (hb : bytes ≤ 64) (ho : o.op = .call { callee := .builtin .append, args := #[s, x], argTypes := #[t, t] })
    {base : Nat} {v : Value} {n : Nat} {xs : List Value} (hown : w.ownsRow base e 1 v n xs) (hs : a.eval s = v) (hn : n ≤ 1099511627776) (hbase : base ≤ w.heap.size)
    (g : Nat) (u : Value) (hx : a.eval x = .slice (some ⟨g, 0, none⟩) 1 1) (hc : w.cell? ⟨g, 0, none⟩ = some u) (h1 : u.oneCell' = true)
    (h : ∀ A c w', w'.ownsRow base e 1 (.slice A (n + 1) c) (n + 1) (xs ++ [u]) → w.grownBy w' v.ownBlock → ((Value.slice A (n + 1) c).ownBlock = v.ownBlock ∨ (Value.slice A (n + 1) c).ownBlock = some w.heap.size) → wpList P ops Q rest (a.put o.dst (.slice A (n + 1) c)) w') : wpList P ops Q (o :: rest) a w := by
  obtain ⟨i, hi, hz, hs1, hby⟩ := T.hi
  have hnews : ∀ j u', [u][j]? = some u' → w.cell? ((⟨g, 0, none⟩ : Addr).add j) = some u' := by
    intro j u' hu
    cases j with
    | zero => simp at hu; subst hu; rw [add_zero_lit]; exact hc
    | succ j => simp at hu
  have h1' : ∀ u' ∈ [u], u'.oneCell' = true := by intro u' hu; simp at hu; subst hu; exact h1
  have h63 : n + 1 ≤ maxLen := by unfold maxLen; omega
  have hbt : (n + 1) * bytes ≤ 140737488355328 := by
    calc (n + 1) * bytes ≤ (n + 1) * 64 := Nat.mul_le_mul_left _ hb
      _ ≤ _ := by omega
  obtain ⟨v', w', hrun, hown', hg, _, hat⟩ := run_append_own_at (P := P) w base t o.type e i z 1 bytes T.ht hi hz hs1 hby T.hz (by decide) v n xs hown ⟨g, 0, none⟩ 1 1 [u] rfl hnews h1' h63 hbt hbase
  obtain ⟨A, c, rfl, _⟩ := own_slice hown'
  refine wpList_plain hgd fun K hK => ?_
  unfold Oper.wp execOp
  simp only [ho, resolve, invoke, builtin, Sem.run_bind, Sem.run_pure, Result.andThen_ok, List.map_toArray, List.map_cons, List.map_nil, hs, hx, hrun]
  exact hK _ _ (h A c w' hown' hg hat)

/-- append(out, xs...): out is the call's own row, xs whatever slice (nil too). -/
theorem wp_appN {ops : Array Oper} {rest : List Oper} {o : Oper} {a : Act} {Q : Exit → Act → World → Prop} (hgd : o.guard = none) (s x : Operand) {t e : TypeId} {z : Value} {bytes : Nat}
    (T : SlT P t e z bytes) (hb : bytes ≤ 64) (ho : o.op = .call { callee := .builtin .append, args := #[s, x], argTypes := #[t, t] })
    {base : Nat} {v : Value} {n : Nat} {xs : List Value} (hown : w.ownsRow base e 1 v n xs) (hs : a.eval s = v) (hbase : base ≤ w.heap.size)
    (A : Option Addr) (c : Nat) (vs : List Value) (hx : a.eval x = .slice A vs.length c) (hr : Rd w A vs) (h1 : ∀ u ∈ vs, u.oneCell' = true) (hn : n + vs.length ≤ 1099511627776)
    (h : ∀ A c w', w'.ownsRow base e 1 (.slice A (n + vs.length) c) (n + vs.length) (xs ++ vs) → Below base w w' → wpList P ops Q rest (a.put o.dst (.slice A (n + vs.length) c)) w') : wpList P ops Q (o :: rest) a w := by
  obtain ⟨i, hi, hz, hs1, hby⟩ := T.hi
  rcases A with _ | ad
  · have hv : vs = [] := by
      cases vs with
      | nil => rfl
      | cons y ys => obtain ⟨a', ha, _⟩ := hr 0 y rfl; cases ha
    subst hv
    refine wpList_plain hgd fun K hK => ?_
    unfold Oper.wp execOp
    have hrun : (Builtin.append_ #[t, t] o.type #[v, .slice none 0 c]).run P w = .ok v w := by
      rcases hown.2 with ⟨rfl, rfl⟩ | ⟨g, cap, cur, rfl, _, _, hnc, _⟩
      · simp [Builtin.append_, run_underlying T.ht, sizeOf, typeInfo, hi, Builtin.lenOf, Builtin.firstCells]
      · simp [Builtin.append_, run_underlying T.ht, sizeOf, typeInfo, hi, Builtin.lenOf, Builtin.firstCells, hnc, storeCells]
    simp only [List.length_nil] at hx
    simp only [ho, resolve, invoke, builtin, Sem.run_bind, Sem.run_pure, Result.andThen_ok, List.map_toArray, List.map_cons, List.map_nil, hs, hx, hrun]
    obtain ⟨A', c', hv', _⟩ := own_slice hown
    subst hv'
    exact hK _ _ (h A' c' w (by simpa using hown) (Below.refl _ _))
  · refine wpList_append_own w hgd s x t ho base e i z 1 bytes T.ht hi hz hs1 hby T.hz (by decide) v n xs hs hown ad vs.length c vs hx (by simp) ?_ h1 ?_ ?_ hbase ?_
    · intro j u hu
      obtain ⟨a', ha, hc⟩ := hr j u hu
      cases ha; exact hc
    · unfold maxLen; omega
    · calc (n + vs.length) * bytes ≤ (n + vs.length) * 64 := Nat.mul_le_mul_left _ hb
        _ ≤ _ := by omega
    · intro v' w' hown' hg _
      obtain ⟨A, c', rfl, _⟩ := own_slice hown'
      refine h A c' w' hown' ((Below.refl base w).grown hg hbase ?_)
      intro k hk
      exact (hown.lt k hk).1
end

theorem ints_one {k : IntKind} (xs : List Int) : ∀ u ∈ xs.map (Value.int k), u.oneCell' = true := by
  intro u hu
  obtain ⟨x, _, rfl⟩ := List.mem_map.1 hu
  rfl

theorem own_nil (w : World) (base : Nat) (e : TypeId) : w.ownsRow base e 1 (.slice none 0 0) 0 [] := ⟨rfl, .inl ⟨rfl, rfl⟩⟩
/-- An empty block of the call's own ('[]T{}'). -/
theorem own_empty (w : World) (e : TypeId) {base : Nat} (hb : base ≤ w.heap.size) : (w.alloc (.cells #[] e)).ownsRow base e 1 (.slice (some ⟨w.heap.size, 0, none⟩) 0 0) 0 [] :=
  World.ownsRow_made w #[] 0 hb (by unfold maxLen; omega) (by simp)
theorem own_mono {w : World} {base base' : Nat} {e : TypeId} {v : Value} {n : Nat} {vs : List Value} (h : w.ownsRow base e 1 v n vs) (hb : base' ≤ base) : w.ownsRow base' e 1 v n vs := by
  refine ⟨h.1, ?_⟩
  rcases h.2 with h2 | ⟨g, cap, cur, h1, h2, h3⟩
  · exact .inl h2
  · exact .inr ⟨g, cap, cur, h1, Nat.le_trans hb h2, h3⟩
theorem own_below {w w' : World} {base : Nat} {e : TypeId} {v : Value} {n : Nat} {vs : List Value} (h : w.ownsRow base e 1 v n vs) (hb : Below w.heap.size w w') : w'.ownsRow base e 1 v n vs := by
  refine ⟨h.1, ?_⟩
  rcases h.2 with h2 | ⟨g, cap, cur, h1, h2, h3, h4⟩
  · exact .inl h2
  · exact .inr ⟨g, cap, cur, h1, h2, by rw [hb.block g (Array.getElem?_eq_some_iff.1 h3).1]; exact h3, h4⟩

theorem ret_int {k : IntKind} {a b : Int} (h : a = b) : Ending.returned (.int k a) = .returned (.int k b) := by rw [h]
theorem ret_bool {a b : Bool} (h : a = b) : Ending.returned (.bool a) = .returned (.bool b) := by rw [h]

end Go.Proofs.YtpncbkodhojicaaDoor

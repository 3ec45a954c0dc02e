/- Ranges over functions whose caller appends faults to a row of its own: what a round keeps. No premise of its own. -/
import Derived.Test.YtgampofpabllbaaVetH
import Derived.Test.YtgampofpabllbaaKeepL
import Derived.Maps.OwnIn
namespace Go.Proofs.Ytgampofpabllbaa
open Go.RowKit Go.Shelf

/-- The block of the row that the box b2 tells. -/
def rbA (b2 : Nat) (W : World) : Option Nat := match W.heap[b2]? with
  | some (.cells cs _ _) => (match cs[0]? with | some v => v.ownBlock | none => none)
  | _ => none
theorem rbA_same {b2 : Nat} {W W' : World} (h : W'.heap[b2]? = W.heap[b2]?) : rbA b2 W' = rbA b2 W := by unfold rbA; rw [h]
theorem rbA_box {b2 : Nat} {W : World} {v : Value} {t : TypeId} {z : Nat × Nat} (h : W.heap[b2]? = some (.cells #[v] t z)) : rbA b2 W = v.ownBlock := by unfold rbA; rw [h]; rfl
/-- What lay below nA stands, and whatever cells and maps lie from nB on, but the row of faults that b2 tells. -/
structure KeepsFt (b2 nA nB : Nat) (W W' : World) : Prop where
  below : Below nA W W'
  same : ∀ (k : Nat) (o : Obj), nB ≤ k → W.heap[k]? = some o → (o.isCells = true ∨ o.isWalk = true) → ((∃ cs z, o = .cells cs 51 z) → rbA b2 W ≠ some k) → W'.heap[k]? = some o
  row : rbA b2 W' = rbA b2 W ∨ ∃ g, rbA b2 W' = some g ∧ W.heap.size ≤ g ∧ g < W'.heap.size
theorem KeepsFt.refl {b2 nA nB : Nat} (W : World) : KeepsFt b2 nA nB W W := ⟨Below.refl _ _, fun _ _ _ h _ _ => h, .inl rfl⟩
theorem KeepsFt.ne {b2 nA nB : Nat} {A B : World} (h : KeepsFt b2 nA nB A B) {k : Nat} (hk : k < A.heap.size) (hne : rbA b2 A ≠ some k) : rbA b2 B ≠ some k := fun e => by
  rcases h.row with h1 | ⟨g, h1, h2, _⟩
  · exact hne (by rw [← h1]; exact e)
  · rw [h1] at e
    injection e with e
    omega
theorem KeepsFt.trans {b2 nA nB : Nat} {A B C : World} (h : KeepsFt b2 nA nB A B) (k : KeepsFt b2 nA nB B C) : KeepsFt b2 nA nB A C :=
  ⟨h.below.trans k.below, fun i o hi ho hc hn => k.same i o hi (h.same i o hi ho hc hn) hc (fun hf => h.ne (Array.getElem?_eq_some_iff.1 ho).1 (hn hf)), by
    have s1 := h.below.size
    have s2 := k.below.size
    rcases k.row with h1 | ⟨g, h1, h2, h3⟩
    · rcases h.row with h4 | ⟨g, h4, h5, h6⟩
      · exact .inl (h1.trans h4)
      · exact .inr ⟨g, h1.trans h4, h5, by omega⟩
    · exact .inr ⟨g, h1, by omega, h3⟩⟩
theorem KeepsFt.alloc {b2 nA nB : Nat} {W W' : World} (h : KeepsFt b2 nA nB W W') (ha : nA ≤ W'.heap.size) (hb : b2 < W'.heap.size) (o : Obj) : KeepsFt b2 nA nB W (W'.alloc o) :=
  ⟨h.below.alloc ha o, fun k o' hk h' hc hn => by
    have := h.same k o' hk h' hc hn
    exact (Below.heap_alloc W' o k (Array.getElem?_eq_some_iff.1 this).1).trans this, by
    rw [rbA_same (Below.heap_alloc W' o b2 hb)]
    rcases h.row with h1 | ⟨g, h1, h2, h3⟩
    · exact .inl h1
    · exact .inr ⟨g, h1, h2, by simp; omega⟩⟩
theorem KeepsFt.put {b2 nA nB n : Nat} (hn : nA ≤ n) (hb : b2 < n) : ∀ (W : World) (l : Nat) (o o' : Obj), n ≤ l → W.heap[l]? = some o → o.isCells = false → o.isWalk = false → KeepsFt b2 nA nB W (W.putObj l o') := by
  intro W l o o' hl ho hc hw
  refine ⟨(Below.refl nA W).grown (grownBy_putObj' W l o') (by have := (Array.getElem?_eq_some_iff.1 ho).1; omega) (fun k e => by cases e; omega), fun k x _ hx hcw _ => ?_, .inl (rbA_same (World.putObj_heap_other (by omega)))⟩
  by_cases e : k = l
  · subst e
    rw [ho] at hx
    injection hx with hx
    subst hx
    rcases hcw with h | h
    · rw [hc] at h; cases h
    · rw [hw] at h; cases h
  · exact (World.putObj_heap_other e).trans hx
theorem KeepsFt.cells {b2 nA nB : Nat} {W W' : World} (h : KeepsFt b2 nA nB W W') {b : Nat} (hb : nB ≤ b) {cs : Array Value} {t : TypeId} {z : Nat × Nat} (hc : W.heap[b]? = some (.cells cs t z)) (ht : t ≠ 51) : W'.heap[b]? = some (.cells cs t z) :=
  h.same b _ hb hc (.inl rfl) (fun ⟨_, _, e⟩ => by injection e with _ e; exact absurd e ht)
theorem KeepsFt.cellsN {b2 nA nB : Nat} {W W' : World} (h : KeepsFt b2 nA nB W W') {b : Nat} (hb : nB ≤ b) {cs : Array Value} {t : TypeId} {z : Nat × Nat} (hc : W.heap[b]? = some (.cells cs t z)) (hn : rbA b2 W ≠ some b) : W'.heap[b]? = some (.cells cs t z) :=
  h.same b _ hb hc (.inl rfl) (fun _ => hn)
/-- One fault more in the row. -/
theorem KeepsFt.app {b2 nA nB n c c4 : Nat} {P P4 : Option Addr} {W w4 : World} {o : Obj} {t : TypeId} (hb : nA ≤ b2) (hb2 : b2 < nB) (hs : nB ≤ W.heap.size) (hbox : W.heap[b2]? = some (.cells #[.slice P n c] t (0, 0)))
    (hP : ∀ g, (Value.slice P n c).ownBlock = some g → nA ≤ g ∧ g ≠ b2 ∧ ∃ cur, W.heap[g]? = some (.cells cur 51 (0, 0))) (hg : (W.alloc o).grownBy w4 (Value.slice P n c).ownBlock) (hat : (Value.slice P4 (n + 1) c4).ownBlock = (Value.slice P n c).ownBlock ∨ (Value.slice P4 (n + 1) c4).ownBlock = some (W.alloc o).heap.size) (hlt : ∀ g, (Value.slice P4 (n + 1) c4).ownBlock = some g → g < w4.heap.size) :
    KeepsFt b2 nA nB W (w4.setCell ⟨b2, 0, none⟩ (.slice P4 (n + 1) c4)) := by
  have hbw : b2 < (W.alloc o).heap.size := by simp; omega
  have hbx4 : w4.heap[b2]? = some (.cells #[.slice P n c] t (0, 0)) := (hg.block b2 hbw (fun e => (hP b2 e.symm).2.1 rfl)).trans (box_alloc hbox o)
  have hrb : rbA b2 W = (Value.slice P n c).ownBlock := rbA_box hbox
  refine ⟨?_, fun k o' hk h' hc hn => ?_, ?_⟩
  · exact ((((Below.refl nA W).alloc (by omega) o).grown hg (by simp; omega) (fun g e => (hP g e).1)).setCell (p := ⟨b2, 0, none⟩) hb _)
  · refine (Below.heap_setCell w4 ⟨b2, 0, none⟩ _ k (by show k ≠ b2; omega)).trans ?_
    have hk2 := (Array.getElem?_eq_some_iff.1 h').1
    refine (hg.block k (by simp; omega) (fun e => ?_)).trans (box_alloc h' o)
    obtain ⟨_, _, cur, hcur⟩ := hP k e.symm
    rw [h'] at hcur
    injection hcur with hcur
    exact hn ⟨_, _, hcur⟩ (by rw [hrb]; exact e.symm)
  · have h5 := box_set (i := 0) hbx4 (Value.slice P4 (n + 1) c4)
    have h6 : rbA b2 (w4.setCell ⟨b2, 0, none⟩ (.slice P4 (n + 1) c4)) = (Value.slice P4 (n + 1) c4).ownBlock := rbA_box h5
    rw [h6, hrb]
    rcases hat with h | h
    · exact .inl h
    · refine .inr ⟨_, h, by simp, ?_⟩
      have := hlt _ h
      simpa [World.setCell] using this
theorem own_ownsF {w w' : World} {b2 nA nB base : Nat} {e : TypeId} {k : Nat} {v : Value} {n : Nat} {vs : List Value} (h : w.ownsRow base e k v n vs) (hk : KeepsFt b2 nA nB w w') (hb : nB ≤ base) (he : e ≠ 51) : w'.ownsRow base e k v n vs :=
  own_keptK h fun g hg => by
    obtain ⟨h1, _, cur, hc⟩ := own_blockK h hg
    rw [hc]
    exact hk.cells (by omega) hc he
theorem MapB.ownF {w w' : World} {b2 nA nB b n : Nat} {l : List Int} (h : MapB w b n l) (hk : KeepsFt b2 nA nB w w') (hb : nB ≤ b) : MapB w' b n l := by
  obtain ⟨o, ho, hw⟩ := h.walk
  exact h.same (by rw [hk.same b o hb ho (.inr hw) (fun ⟨_, _, e⟩ => by subst e; cases hw), ho])
theorem LkI.ownF {w0 W w w' : World} {b2 Bc nB : Nat} {cs : Array Value} (h : LkI w0 W w Bc cs) (hk : KeepsFt b2 w0.heap.size nB w w') (hB : nB ≤ Bc) : LkI w0 W w' Bc cs := ⟨hk.cells hB h.box (by decide), h.low.trans hk.below, Nat.le_trans h.size hk.below.size⟩
/-- An iterator's contract: what its rounds keep. -/
def IterF {α : Type} (P : Program) (g : Nat) (lb : Array Value) (encs : α → Array Value) (b2 nA nB : Nat) (S Sp : List α → Prop) (N : Nat) (w : World) : Prop :=
  SeqStopsK Fence.wide 8 P g lb encs (KeepsFt b2 nA nB) S Sp N w
/-- append(out, x) in a round: where the row lies. -/
theorem wpI_appKat {F : Fence} {mm : Nat} {P : Program} {w : World} {ops : Array Oper} {rest : List Oper} {o : Oper} {a : Act} {Q : Exit → Act → World → Prop} (hgd : o.guard = none) (s x : Operand) {t e : TypeId} {k bytes : Nat}
    (T : SlK P t e k bytes) (hb : bytes ≤ 128) (ho : o.op = .call { callee := .builtin .append, args := #[s, x], argTypes := #[t, t] })
    {base : Nat} {v : Value} {n : Nat} {xs : List Value} (hown : w.ownsRow base e k v n xs) (hs : a.eval s = v) (hn : n ≤ 1099511627775) (hbase : base ≤ w.heap.size)
    (g : Nat) (us : List Value) (hx : a.eval x = .slice (some ⟨g, 0, none⟩) 1 1) (hl : us.length = k) (hc : ∀ j u, us[j]? = some u → w.cell? ⟨g, j, none⟩ = some u) (h1 : us.all (fun u => u.oneCell') = true)
    (h : ∀ A c w', w'.ownsRow base e k (.slice A (n + 1) c) (n + 1) (xs ++ us) → w.grownBy w' v.ownBlock → ((Value.slice A (n + 1) c).ownBlock = v.ownBlock ∨ (Value.slice A (n + 1) c).ownBlock = some w.heap.size) → wpListIn F mm P ops Q rest (a.put o.dst (.slice A (n + 1) c)) w') : wpListIn F mm P ops Q (o :: rest) a w := by
  obtain ⟨i, z, hi, hz, hs1, hby, hzs⟩ := T.hi
  refine wpListIn_append_own_at w hgd s x t ho base e i z k bytes T.ht hi hz hs1 hby hzs T.h0 v n xs hs hown ⟨g, 0, none⟩ 1 1 us hx (by rw [hl, Nat.one_mul]) ?_ (List.all_eq_true.1 h1) ?_ ?_ hbase ?_
  · intro j u' hu
    rw [add_zero_lit, Nat.zero_add]; exact hc j u' hu
  · unfold maxLen; omega
  · calc (n + 1) * bytes ≤ (n + 1) * 128 := Nat.mul_le_mul_left _ hb
      _ ≤ _ := by omega
  · intro v' w' hown' hg _ hat
    obtain ⟨A, c, rfl, _⟩ := own_sliceK hown'
    exact h A c w' hown' hg hat
end Go.Proofs.Ytgampofpabllbaa

/- Ranges over functions whose caller writes its own boxes and a row of its own: what a round keeps. No premise of its own. -/
import Derived.Test.YtiblpnadninmbaaGreatDoorRange
import Derived.Test.YtiblpnadninmbaaGreatDoorKitK
namespace Go.Proofs.YtiblpnadninmbaaGreatDoor
open Go.RowKit Go.Shelf

/-- What lay below nA stands, and all cells and maps below n1 but those named. -/
structure KeepsLow (nA n1 : Nat) (out : List Nat) (W W' : World) : Prop where
  below : Below nA W W'
  same : ∀ (k : Nat) (o : Obj), k < n1 → k ∉ out → W.heap[k]? = some o → (o.isCells = true ∨ o.isWalk = true) → W'.heap[k]? = some o
theorem KeepsLow.refl {nA n1 : Nat} {out : List Nat} (W : World) : KeepsLow nA n1 out W W := ⟨Below.refl _ _, fun _ _ _ _ h _ => h⟩
theorem KeepsLow.trans {nA n1 : Nat} {out : List Nat} {A B C : World} (h : KeepsLow nA n1 out A B) (k : KeepsLow nA n1 out B C) : KeepsLow nA n1 out A C :=
  ⟨h.below.trans k.below, fun i o hi hn ho hc => k.same i o hi hn (h.same i o hi hn ho hc) hc⟩
theorem KeepsLow.alloc {nA n1 : Nat} {out : List Nat} {W W' : World} (h : KeepsLow nA n1 out W W') (ha : nA ≤ W'.heap.size) (o : Obj) : KeepsLow nA n1 out W (W'.alloc o) :=
  ⟨h.below.alloc ha o, fun k o' hi hk h' hc => by
    have := h.same k o' hi hk h' hc
    exact (Below.heap_alloc W' o k (Array.getElem?_eq_some_iff.1 this).1).trans this⟩
theorem KeepsLow.set {nA n1 : Nat} {out : List Nat} {W W' : World} (h : KeepsLow nA n1 out W W') {p : Addr} (h1 : nA ≤ p.block) (h2 : p.block ∈ out ∨ n1 ≤ p.block) (u : Value) : KeepsLow nA n1 out W (W'.setCell p u) :=
  ⟨h.below.setCell h1 u, fun k o hi hk h' hc => by
    have := h.same k o hi hk h' hc
    refine (Below.heap_setCell W' p u k (fun e => ?_)).trans this
    rcases h2 with h2 | h2
    · exact hk (e ▸ h2)
    · omega⟩
theorem KeepsLow.grown {nA n1 : Nat} {row : Option Nat} {out : List Nat} {W W' w2 : World} (h : KeepsLow nA n1 out W W') (hg : W'.grownBy w2 row) (ha : nA ≤ W'.heap.size) (h1 : ∀ b, row = some b → nA ≤ b ∧ (b ∈ out ∨ n1 ≤ b)) : KeepsLow nA n1 out W w2 :=
  ⟨h.below.grown hg ha (fun k e => (h1 k e).1), fun k o hi hk h' hc => by
    have := h.same k o hi hk h' hc
    refine (hg.block k (Array.getElem?_eq_some_iff.1 this).1 (fun e => ?_)).trans this
    rcases (h1 k e.symm).2 with h2 | h2
    · exact hk h2
    · omega⟩
theorem KeepsLow.drewN {nA n1 : Nat} {out : List Nat} {W W' : World} (h : KeepsLow nA n1 out W W') (n : Nat) : KeepsLow nA n1 out W (W'.drewN n) := ⟨bdrewN h.below n, h.same⟩
theorem KeepsLow.call {nA n1 : Nat} {out : List Nat} {W W' w2 : World} (h : KeepsLow nA n1 out W W') (hb : Below W'.heap.size W' w2) (ha : nA ≤ W'.heap.size) : KeepsLow nA n1 out W w2 :=
  ⟨h.below.trans (hb.mono ha), fun k o hi hk h' hc => by
    have := h.same k o hi hk h' hc
    exact (hb.block k (Array.getElem?_eq_some_iff.1 this).1).trans this⟩
theorem KeepsLow.put {nA n1 n : Nat} {out : List Nat} (hn : nA ≤ n) : ∀ (W : World) (l : Nat) (o o' : Obj), n ≤ l → W.heap[l]? = some o → o.isCells = false → o.isWalk = false → KeepsLow nA n1 out W (W.putObj l o') := by
  intro W l o o' hl ho hc hw
  refine ⟨(Below.refl nA W).grown (grownBy_putObj' W l o') (by have := (Array.getElem?_eq_some_iff.1 ho).1; omega) (fun k e => by cases e; omega), fun k x _ _ hx hcw => ?_⟩
  by_cases e : k = l
  · subst e
    rw [ho] at hx
    injection hx with hx
    subst hx
    rcases hcw with h | h
    · rw [hc] at h; cases h
    · rw [hw] at h; cases h
  · exact (World.putObj_heap_other e).trans hx
theorem KeepsLow.box {nA n1 : Nat} {out : List Nat} {W W' : World} (h : KeepsLow nA n1 out W W') {b : Nat} (hi : b < n1) (hb : b ∉ out) {cs : Array Value} {t : TypeId} {z : Nat × Nat} (hc : W.heap[b]? = some (.cells cs t z)) : W'.heap[b]? = some (.cells cs t z) := h.same b _ hi hb hc (.inl rfl)
theorem letsOut_ownG {α : Type} {B : Nat} {Kp : World → World → Prop} {I : List α → World → Prop} {Ix : Code → List α → World → Prop} {xs : List α} {W : World} : ¬ LetsOut (ownPostG B Kp I Ix xs W) := fun ⟨_, _, hq⟩ => hq
/-- append(out, x) in a round: out is the call's own row of structs, x a struct in a block by itself. -/
theorem wpI_appK {F : Fence} {mm : Nat} {P : Program} {w : World} {ops : Array Oper} {rest : List Oper} {o : Oper} {a : Act} {Q : Exit → Act → World → Prop} (hgd : o.guard = none) (s x : Operand) {t e : TypeId} {k bytes : Nat}
    (T : SlK P t e k bytes) (hb : bytes ≤ 128) (ho : o.op = .call { callee := .builtin .append, args := #[s, x], argTypes := #[t, t] })
    {base : Nat} {v : Value} {n : Nat} {xs : List Value} (hown : w.ownsRow base e k v n xs) (hs : a.eval s = v) (hn : n ≤ 1099511627775) (hbase : base ≤ w.heap.size)
    (g : Nat) (us : List Value) (hx : a.eval x = .slice (some ⟨g, 0, none⟩) 1 1) (hl : us.length = k) (hc : ∀ j u, us[j]? = some u → w.cell? ⟨g, j, none⟩ = some u) (h1 : us.all (fun u => u.oneCell') = true)
    (h : ∀ A c w', w'.ownsRow base e k (.slice A (n + 1) c) (n + 1) (xs ++ us) → w.grownBy w' v.ownBlock → wpListIn F mm P ops Q rest (a.put o.dst (.slice A (n + 1) c)) w') : wpListIn F mm P ops Q (o :: rest) a w := by
  obtain ⟨i, z, hi, hz, hs1, hby, hzs⟩ := T.hi
  refine wpListIn_append_own w hgd s x t ho base e i z k bytes T.ht hi hz hs1 hby hzs T.h0 v n xs hs hown ⟨g, 0, none⟩ 1 1 us hx (by rw [hl, Nat.one_mul]) ?_ (List.all_eq_true.1 h1) ?_ ?_ hbase ?_
  · intro j u' hu
    rw [add_zero_lit, Nat.zero_add]; exact hc j u' hu
  · unfold maxLen; omega
  · calc (n + 1) * bytes ≤ (n + 1) * 128 := Nat.mul_le_mul_left _ hb
      _ ≤ _ := by omega
  · intro v' w' hown' hg _
    obtain ⟨A, c, rfl, _⟩ := own_sliceK hown'
    exact h A c w' hown' hg
theorem ownFrom_row {β : Type} {B : Nat} (f : β → Value) (n : β → Nat) (vs : β → List Value) {base : Nat} {e : TypeId} {k : Nat} : OwnFrom B (fun (s : β) W => W.ownsRow base e k (f s) (n s) (vs s)) := fun s W W' row hs hg hr =>
  own_keptK hs fun g hg' => by
    obtain ⟨_, hlt, cur, hc⟩ := own_blockK hs hg'
    refine hg.block g hlt (fun e => ?_)
    obtain ⟨_, o, ho, hcc⟩ := hr g e.symm
    rw [hc] at ho
    cases ho
    cases hcc
theorem ko_step {w w3 : World} {o : Obj} {v : Value} {base : Nat} {e : TypeId} {k n : Nat} {vs : List Value} (h : w.ownsRow base e k v n vs) (hg : (w.alloc o).grownBy w3 v.ownBlock) : KeepsOthers w w3 :=
  ⟨Nat.le_trans (by simp) hg.size, fun j ob hj hc => (hg.block j (by have := box_lt hj; simp; omega) (fun e => by
    obtain ⟨_, _, cur, hcur⟩ := own_blockK h e.symm
    rw [hj] at hcur
    cases hcur
    cases hc)).trans (box_alloc hj o)⟩
theorem KeepsLow.step {nA n1 : Nat} {out : List Nat} {w w3 : World} {o : Obj} {v : Value} {base : Nat} {e : TypeId} {k n : Nat} {vs : List Value} (h : w.ownsRow base e k v n vs) (hg : (w.alloc o).grownBy w3 v.ownBlock) (ha : nA ≤ w.heap.size) (h1 : nA ≤ base) (h2 : n1 ≤ base) : KeepsLow nA n1 out w w3 :=
  ((KeepsLow.refl w).alloc ha o).grown hg (by simp; omega) fun b e => by
    have := (own_blockK h e).1
    exact ⟨by omega, .inr (by omega)⟩
end Go.Proofs.YtiblpnadninmbaaGreatDoor

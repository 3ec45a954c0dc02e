/- Ranges over functions that make memory of their own: what a round keeps; sets of numbers in a map. No premise of its own. -/
import Derived.Test.YtgampofpabllbaaRange
import Derived.Test.YtgampofpabllbaaKitK
import Derived.Maps.Own
import Derived.Maps.Views
namespace Go.Proofs.Ytgampofpabllbaa
open Go.RowKit Go.Shelf

/-- What lay below nA stands, and whatever cells and maps lie from nB on. -/
structure KeepsOwn (nA nB : Nat) (W W' : World) : Prop where
  below : Below nA W W'
  same : ∀ (k : Nat) (o : Obj), nB ≤ k → W.heap[k]? = some o → (o.isCells = true ∨ o.isWalk = true) → W'.heap[k]? = some o
theorem KeepsOwn.refl {nA nB : Nat} (W : World) : KeepsOwn nA nB W W := ⟨Below.refl _ _, fun _ _ _ h _ => h⟩
theorem KeepsOwn.trans {nA nB : Nat} {A B C : World} (h : KeepsOwn nA nB A B) (k : KeepsOwn nA nB B C) : KeepsOwn nA nB A C :=
  ⟨h.below.trans k.below, fun i o hi ho hc => k.same i o hi (h.same i o hi ho hc) hc⟩
theorem KeepsOwn.alloc {nA nB : Nat} {W W' : World} (h : KeepsOwn nA nB W W') (ha : nA ≤ W'.heap.size) (o : Obj) : KeepsOwn nA nB W (W'.alloc o) :=
  ⟨h.below.alloc ha o, fun k o' hk h' hc => by
    have := h.same k o' hk h' hc
    exact (Below.heap_alloc W' o k (Array.getElem?_eq_some_iff.1 this).1).trans this⟩
theorem KeepsOwn.set {nA nB : Nat} {W W' : World} (h : KeepsOwn nA nB W W') {p : Addr} (h1 : nA ≤ p.block) (h2 : p.block < nB) (u : Value) : KeepsOwn nA nB W (W'.setCell p u) :=
  ⟨h.below.setCell h1 u, fun k o hk h' hc => by
    have := h.same k o hk h' hc
    exact (Below.heap_setCell W' p u k (by omega)).trans this⟩
theorem KeepsOwn.drew {nA nB : Nat} {W W' : World} (h : KeepsOwn nA nB W W') : KeepsOwn nA nB W W'.drew := ⟨h.below.drew, h.same⟩
theorem KeepsOwn.put {nA nB n : Nat} (hn : nA ≤ n) : ∀ (W : World) (l : Nat) (o o' : Obj), n ≤ l → W.heap[l]? = some o → o.isCells = false → o.isWalk = false → KeepsOwn nA nB W (W.putObj l o') := by
  intro W l o o' hl ho hc hw
  refine ⟨(Below.refl nA W).grown (grownBy_putObj' W l o') (by have := (Array.getElem?_eq_some_iff.1 ho).1; omega) (fun k e => by cases e; omega), fun k x _ hx hcw => ?_⟩
  by_cases e : k = l
  · subst e
    rw [ho] at hx
    injection hx with hx
    subst hx
    rcases hcw with h | h
    · rw [hc] at h; cases h
    · rw [hw] at h; cases h
  · exact (World.putObj_heap_other e).trans hx
theorem KeepsOwn.cells {nA nB : Nat} {W W' : World} (h : KeepsOwn nA nB W W') {b : Nat} (hb : nB ≤ b) {cs : Array Value} {t : TypeId} {z : Nat × Nat} (hc : W.heap[b]? = some (.cells cs t z)) : W'.heap[b]? = some (.cells cs t z) := h.same b _ hb hc (.inl rfl)

variable {P : Program}
/-- An iterator's contract: what its rounds keep. -/
def IterK {α : Type} (P : Program) (g : Nat) (lb : Array Value) (encs : α → Array Value) (nA nB : Nat) (S Sp : List α → Prop) (N : Nat) (w : World) : Prop :=
  SeqStopsK Fence.wide 8 P g lb encs (KeepsOwn nA nB) S Sp N w

/-- Block b is a map of at most n numbers: those of l. -/
def MapB (w : World) (b n : Nat) (l : List Int) : Prop :=
  ∃ D : DataW Unit, w.ownsMap Try.prog 3 (plainElem Try.prog 4) b n D ∧ Maps.IsMap D ∧ ∀ p, (Lit.int .i64 p).wf = true → D.atKey (.int .i64 p) (.lit (.bool false)) = .lit (.bool (decide (p ∈ l)))
theorem MapB.made (w : World) : MapB (w.alloc (.map #[] 0)) w.heap.size 0 [] :=
  ⟨.map [], World.ownsMap_made w _ _ _, Maps.isMap_empty, fun _ _ => rfl⟩
theorem MapB.lt {w : World} {b n : Nat} {l : List Int} (h : MapB w b n l) : b < w.heap.size := by
  obtain ⟨D, h1, _⟩ := h
  exact h1.lt
theorem MapB.walk {w : World} {b n : Nat} {l : List Int} (h : MapB w b n l) : ∃ o : Obj, w.heap[b]? = some o ∧ o.isWalk = true := by
  obtain ⟨D, ⟨es, clock, hb, _⟩, _⟩ := h
  exact ⟨_, hb, rfl⟩
theorem MapB.kept {w w' : World} {row : Option Nat} {b n : Nat} {l : List Int} (h : MapB w b n l) (hg : w.grownBy w' row) (hne : some b ≠ row) : MapB w' b n l := by
  obtain ⟨D, h1, h2⟩ := h
  exact ⟨D, h1.kept hg hne, h2⟩
theorem MapB.same {w w' : World} {b n : Nat} {l : List Int} (h : MapB w b n l) (hb : w'.heap[b]? = w.heap[b]?) : MapB w' b n l := by
  obtain ⟨D, ⟨es, clock, h1, h3⟩, h2⟩ := h
  exact ⟨D, ⟨es, clock, hb.trans h1, h3⟩, h2⟩
theorem MapB.own {w w' : World} {nA nB b n : Nat} {l : List Int} (h : MapB w b n l) (hk : KeepsOwn nA nB w w') (hb : nB ≤ b) : MapB w' b n l := by
  obtain ⟨o, ho, hw⟩ := h.walk
  exact h.same (by rw [hk.same b o hb ho (.inr hw), ho])
theorem MapB.mono {w : World} {b n n' : Nat} {l : List Int} (h : MapB w b n l) (hn : n ≤ n') : MapB w b n' l := by
  obtain ⟨D, h1, h2⟩ := h
  exact ⟨D, h1.mono hn, h2⟩
theorem int_wf {p : Int} (h : -9223372036854775808 ≤ p ∧ p ≤ 9223372036854775807) : (Lit.int .i64 p).wf = true := by
  have : wrap64 p = p := by unfold wrap64; omega
  have h2 := wrap64_wf p
  rwa [this] at h2
theorem zero_bool (w : World) : (zeroValue 4).run Try.prog w = .ok (.bool false) w := by
  have h : (Try.prog.info? 4).map (fun i => i.zero) = some (some (.bool false)) := by kernel_rfl
  obtain ⟨i, hi, hz⟩ := Option.map_eq_some_iff.1 h
  simp [zeroValue, typeInfo, hi, hz]
theorem MapB.look {w : World} {b n : Nat} {l : List Int} (h : MapB w b n l) {p : Int} (hp : -9223372036854775808 ≤ p ∧ p ≤ 9223372036854775807) :
    (Instr.lookup 99 (.map (some b)) (.int .i64 p) false).run Try.prog w = .ok (.bool (decide (p ∈ l))) w := by
  obtain ⟨D, h1, _, h2⟩ := h
  obtain ⟨v, ps, hrun, hv⟩ := h1.lookup (Maps.int_keyed Try.underlying3) Try.underlying99 (z := .bool false) (zero_bool w) (plainElem_bool Try.underlying4 false) (Maps.keyOf_int_mk Try.underlying3 (int_wf hp))
  rw [h2 p (int_wf hp)] at hv
  have hb := plainElem_bool (H := Unit) Try.underlying4
  cases v with
  | bool x =>
    rw [hb x] at hv
    simp at hv
    rw [hrun, hv.1]
  | _ => simp [plainElem, Try.underlying4] at hv
theorem MapB.put {w : World} {b n : Nat} {l : List Int} (h : MapB w b n l) (hn : n < maxLen) {p : Int} (hp : -9223372036854775808 ≤ p ∧ p ≤ 9223372036854775807) :
    ∃ w', (Instr.mapUpdate 99 (.map (some b)) (.int .i64 p) (.bool true)).run Try.prog w = .ok () w' ∧ MapB w' b (n + 1) (p :: l) ∧ w.grownBy w' (some b) := by
  obtain ⟨D, h1, h3, h2⟩ := h
  obtain ⟨w', hrun, ho, hg⟩ := h1.update (Maps.int_keyed Try.underlying3) Try.underlying99 hn (Maps.keyOf_int_mk Try.underlying3 (int_wf hp)) (plainElem_bool Try.underlying4 true)
  refine ⟨w', hrun, ⟨_, ho, h3.put _ _, fun q hq => ?_⟩, hg⟩
  by_cases e : q = p
  · subst e
    rw [Maps.atKey_put_same h3 (by trivial)]
    simp
  · rw [Maps.atKey_put_other (by intro x; injection x with _ x; exact e x), h2 q hq]
    simp [e]
end Go.Proofs.Ytgampofpabllbaa

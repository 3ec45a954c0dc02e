/- A map of integers that a call owns, as a function: looked up, stored, deleted, counted. No premise of its own. -/
import Derived.Test.YtiblpnadninmbaaGreatDoorTn
import Derived.Test.YtiblpnadninmbaaGreatDoorRange
import Derived.Maps.Own
import Derived.Maps.OwnSet
import Derived.Maps.Views
namespace Go.Proofs.YtiblpnadninmbaaGreatDoor
open Go.RowKit

def I64N (p : Int) : Prop := -9223372036854775808 ≤ p ∧ p ≤ 9223372036854775807
theorem i64_wf {p : Int} (h : I64N p) : (Lit.int .i64 p).wf = true := by
  unfold I64N at h
  have : wrap64 p = p := by unfold wrap64; omega
  have h2 := wrap64_wf p
  rwa [this] at h2
/-- t is a map type from ints to ints. -/
structure MapT (P : Program) (t k e : TypeId) : Prop where
  ht : P.underlying t = some (.map k e)
  hk : P.underlying k = some (.int .i64)
  he : P.underlying e = some (.int .i64)
  hz : (P.info? e).map (fun i => i.zero) = some (some (.int .i64 0))
/-- Block b is the map M, of so many entries. -/
def MapN (P : Program) (k e : TypeId) (w : World) (b : Nat) (M : Int → Option Int) (sz : Nat) : Prop :=
  ∃ D : DataW Unit, w.ownsMap P k (plainElem P e) b sz D ∧ Maps.size D = sz ∧ ∀ p, I64N p → Maps.has D (.int .i64 p) = (M p).isSome ∧ D.atKey (.int .i64 p) (.lit (.int .i64 0)) = .lit (.int .i64 ((M p).getD 0))
section
variable {P : Program} {t k e : TypeId} {w w' : World} {b sz : Nat} {M : Int → Option Int}
theorem owns_tight {n : Nat} {D : DataW Unit} {R : Value → Option (DataW Unit × List MemPlace)} (h : w.ownsMap P k R b n D) : w.ownsMap P k R b (Maps.size D) D := by
  obtain ⟨es, clock, hb, F, hs, rfl⟩ := h
  exact ⟨es, clock, hb, F, by simp [Maps.size, length_sorted], rfl⟩
theorem MapN.made (P : Program) (k e : TypeId) (w : World) : MapN P k e (w.alloc (.map #[] 0)) w.heap.size (fun _ => none) 0 :=
  ⟨.map [], World.ownsMap_made w _ _ _, rfl, fun _ _ => ⟨rfl, rfl⟩⟩
theorem MapN.lt (h : MapN P k e w b M sz) : b < w.heap.size := by
  obtain ⟨D, h1, _⟩ := h
  exact h1.lt
theorem MapN.walk (h : MapN P k e w b M sz) : ∃ o : Obj, w.heap[b]? = some o ∧ o.isWalk = true ∧ o.isCells = false := by
  obtain ⟨D, ⟨es, clock, hb, _⟩, _⟩ := h
  exact ⟨_, hb, rfl, rfl⟩
theorem MapN.same (h : MapN P k e w b M sz) (hb : w'.heap[b]? = w.heap[b]?) : MapN P k e w' b M sz := by
  obtain ⟨D, ⟨es, clock, h1, h3⟩, h2⟩ := h
  exact ⟨D, ⟨es, clock, hb.trans h1, h3⟩, h2⟩
theorem MapN.tn {F : List Nat} (h : MapN P k e w b M sz) (ht : Tn F w w') (hf : b ∉ F) : MapN P k e w' b M sz := h.same (ht.block b h.lt hf)
theorem MapN.below (h : MapN P k e w b M sz) (hb : Below w.heap.size w w') : MapN P k e w' b M sz := h.same (hb.block b h.lt)
theorem MapN.drewN (h : MapN P k e w b M sz) (n : Nat) : MapN P k e (w.drewN n) b M sz := h
theorem MapN.drew (h : MapN P k e w b M sz) : MapN P k e w.drew b M sz := h
theorem MapN.set (h : MapN P k e w b M sz) {p : Addr} (hp : b ≠ p.block) (v : Value) : MapN P k e (w.setCell p v) b M sz := h.same (Below.heap_setCell w p v b hp)
theorem MapN.alloc (h : MapN P k e w b M sz) (o : Obj) : MapN P k e (w.alloc o) b M sz := h.same (Below.heap_alloc w o b h.lt)
theorem MapN.congr {M' : Int → Option Int} (h : MapN P k e w b M sz) (hM : ∀ p, M p = M' p) : MapN P k e w b M' sz := by
  obtain rfl : M = M' := funext hM
  exact h
theorem MapT.zero (T : MapT P t k e) (w : World) : (zeroValue e).run P w = .ok (.int .i64 0) w := by
  obtain ⟨i, hi, hz⟩ := Option.map_eq_some_iff.1 T.hz
  simp [zeroValue, typeInfo, hi, hz]
theorem MapN.look_ok (T : MapT P t k e) (h : MapN P k e w b M sz) {p : Int} (hp : I64N p) :
    (Instr.lookup t (.map (some b)) (.int .i64 p) true).run P w = .ok (.tuple #[.int .i64 ((M p).getD 0), .bool (M p).isSome]) w := by
  obtain ⟨D, h1, _, h2⟩ := h
  obtain ⟨g1, g2⟩ := h2 p hp
  obtain ⟨v, ps, hrun, hv⟩ := h1.look_ok (Maps.int_keyed T.hk) T.ht (T.zero w) (plainElem_int T.he (by decide)) (Maps.keyOf_int_mk T.hk (i64_wf hp))
  rw [g2] at hv
  obtain ⟨a, ha, hz, _⟩ := plainElem_int_inv T.he hv
  rw [hrun, ha, g1]
  simp only [Prod.mk.injEq] at hz
  have := hz.1
  injection this with this
  injection this with _ this
  rw [this]
theorem MapN.look (T : MapT P t k e) (h : MapN P k e w b M sz) {p : Int} (hp : I64N p) :
    (Instr.lookup t (.map (some b)) (.int .i64 p) false).run P w = .ok (.int .i64 ((M p).getD 0)) w := by
  obtain ⟨D, h1, _, h2⟩ := h
  obtain ⟨g1, g2⟩ := h2 p hp
  obtain ⟨v, ps, hrun, hv⟩ := h1.lookup (Maps.int_keyed T.hk) T.ht (T.zero w) (plainElem_int T.he (by decide)) (Maps.keyOf_int_mk T.hk (i64_wf hp))
  rw [g2] at hv
  obtain ⟨a, ha, hz, _⟩ := plainElem_int_inv T.he hv
  rw [hrun, ha]
  simp only [Prod.mk.injEq] at hz
  have := hz.1
  injection this with this
  injection this with _ this
  rw [this]
theorem MapN.len (T : MapT P t k e) (h : MapN P k e w b M sz) (ty : TypeId) : (Builtin.len_ #[t] ty #[.map (some b)]).run P w = .ok (.int .i64 sz) w := by
  obtain ⟨D, h1, h3, _⟩ := h
  rw [h1.len T.ht ty, h3]
theorem MapN.put (T : MapT P t k e) (h : MapN P k e w b M sz) (hn : sz < 9223372036854775807) {p v : Int} (hp : I64N p) (hv : I64N v) :
    ∃ w', (Instr.mapUpdate t (.map (some b)) (.int .i64 p) (.int .i64 v)).run P w = .ok () w' ∧ MapN P k e w' b (fun x => if x = p then some v else M x) (if (M p).isSome then sz else sz + 1) ∧ w.grownBy w' (some b) := by
  obtain ⟨D, h1, h3, h2⟩ := h
  have ht := h1.tidy (Maps.int_keyed T.hk)
  obtain ⟨w', hrun, ho, hg⟩ := h1.update (Maps.int_keyed T.hk) T.ht (by unfold maxLen; omega) (Maps.keyOf_int_mk T.hk (i64_wf hp)) (plainElem_int T.he (i64_wf hv))
  have hs : Maps.size (D.put (.int .i64 p) (.lit (.int .i64 v))) = if (M p).isSome then sz else sz + 1 := by
    rw [Maps.size_put ht, (h2 p hp).1, h3]
  refine ⟨w', hrun, ⟨_, by rw [← hs]; exact owns_tight ho, hs, fun q hq => ?_⟩, hg⟩
  by_cases e' : q = p
  · subst e'
    rw [Maps.atKey_put_same ht.isMap (by trivial), Maps.has_put_same ht.isMap (by trivial)]
    dsimp only
    rw [if_pos rfl]
    exact ⟨rfl, rfl⟩
  · rw [Maps.atKey_put_other (by intro x; injection x with _ x; exact e' x), Maps.has_put_other (by intro x; injection x with _ x; exact e' x)]
    dsimp only
    rw [if_neg e']
    exact h2 q hq
theorem MapN.del (T : MapT P t k e) (h : MapN P k e w b M sz) {p : Int} (hp : I64N p) (ty : TypeId) :
    ∃ w', (Builtin.delete_ #[t, k] ty #[.map (some b), .int .i64 p]).run P w = .ok (.tuple #[]) w' ∧ MapN P k e w' b (fun x => if x = p then none else M x) (if (M p).isSome then sz - 1 else sz) ∧ w.grownBy w' (some b) := by
  obtain ⟨D, h1, h3, h2⟩ := h
  have ht := h1.tidy (Maps.int_keyed T.hk)
  obtain ⟨w', hrun, ho, hg⟩ := h1.drop (Maps.int_keyed T.hk) T.ht (Maps.keyOf_int_mk T.hk (i64_wf hp)) ty
  have hs : Maps.size (D.del (.int .i64 p)) = if (M p).isSome then sz - 1 else sz := by
    have := Maps.size_del (k := .int .i64 p) ht
    rw [(h2 p hp).1, h3] at this
    split <;> simp_all <;> omega
  refine ⟨w', hrun, ⟨_, by rw [← hs]; exact owns_tight ho, hs, fun q hq => ?_⟩, hg.grown⟩
  by_cases e' : q = p
  · subst e'
    rw [Maps.atKey_del_same, Maps.has_del_same]
    dsimp only
    rw [if_pos rfl]
    exact ⟨rfl, rfl⟩
  · rw [Maps.atKey_del_other (by intro x; injection x with _ x; exact e' x), Maps.has_del_other (by intro x; injection x with _ x; exact e' x)]
    dsimp only
    rw [if_neg e']
    exact h2 q hq
end
end Go.Proofs.YtiblpnadninmbaaGreatDoor

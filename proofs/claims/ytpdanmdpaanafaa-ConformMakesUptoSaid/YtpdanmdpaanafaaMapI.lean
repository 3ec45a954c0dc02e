/- A map of numbers by numbers, made by the call. No premise of its own. -/
import Derived.Test.YtpdanmdpaanafaaConA
import Derived.Maps.OwnSet
namespace Go.Proofs.Ytpdanmdpaanafaa
open Go.RowKit Go.Shelf

/-- Block b is a map of at most n numbers by numbers: f. -/
def MapI (w : World) (b n : Nat) (f : Int → Option Int) : Prop :=
  ∃ D : DataW Unit, w.ownsMap Try.prog 3 (plainElem Try.prog 2) b n D ∧ Maps.IsMap D ∧ ∀ p, (Lit.int .i64 p).wf = true → Maps.has D (.int .i64 p) = (f p).isSome ∧ D.atKey (.int .i64 p) (.lit (.int .i64 0)) = .lit (.int .i64 ((f p).getD 0))
theorem MapI.made (w : World) : MapI (w.alloc (.map #[] 0)) w.heap.size 0 (fun _ => none) :=
  ⟨.map [], World.ownsMap_made w _ _ _, Maps.isMap_empty, fun _ _ => ⟨rfl, rfl⟩⟩
theorem MapI.lt {w : World} {b n : Nat} {l : Int → Option Int} (h : MapI w b n l) : b < w.heap.size := by
  obtain ⟨D, h1, _⟩ := h
  exact h1.lt
theorem MapI.walk {w : World} {b n : Nat} {l : Int → Option Int} (h : MapI w b n l) : ∃ o : Obj, w.heap[b]? = some o ∧ o.isWalk = true := by
  obtain ⟨D, ⟨es, clock, hb, _⟩, _⟩ := h
  exact ⟨_, hb, rfl⟩
theorem MapI.kept {w w' : World} {row : Option Nat} {b n : Nat} {l : Int → Option Int} (h : MapI w b n l) (hg : w.grownBy w' row) (hne : some b ≠ row) : MapI w' b n l := by
  obtain ⟨D, h1, h2⟩ := h
  exact ⟨D, h1.kept hg hne, h2⟩
theorem MapI.same {w w' : World} {b n : Nat} {l : Int → Option Int} (h : MapI w b n l) (hb : w'.heap[b]? = w.heap[b]?) : MapI w' b n l := by
  obtain ⟨D, ⟨es, clock, h1, h3⟩, h2⟩ := h
  exact ⟨D, ⟨es, clock, hb.trans h1, h3⟩, h2⟩
theorem MapI.own {w w' : World} {nA nB b n : Nat} {l : Int → Option Int} (h : MapI w b n l) (hk : KeepsOwn nA nB w w') (hb : nB ≤ b) : MapI w' b n l := by
  obtain ⟨o, ho, hw⟩ := h.walk
  exact h.same (by rw [hk.same b o hb ho (.inr hw), ho])
theorem MapI.mono {w : World} {b n n' : Nat} {l : Int → Option Int} (h : MapI w b n l) (hn : n ≤ n') : MapI w b n' l := by
  obtain ⟨D, h1, h2⟩ := h
  exact ⟨D, h1.mono hn, h2⟩
theorem zero_i64 (w : World) : (zeroValue 2).run Try.prog w = .ok (.int .i64 0) w := by
  have h : (Try.prog.info? 2).map (fun i => i.zero) = some (some (.int .i64 0)) := by kernel_rfl
  obtain ⟨i, hi, hz⟩ := Option.map_eq_some_iff.1 h
  simp [zeroValue, typeInfo, hi, hz]
theorem MapI.look {w : World} {b n : Nat} {f : Int → Option Int} (h : MapI w b n f) {p : Int} (hp : I64 p) :
    (Instr.lookup 127 (.map (some b)) (.int .i64 p) true).run Try.prog w = .ok (.tuple #[.int .i64 ((f p).getD 0), .bool (f p).isSome]) w := by
  obtain ⟨D, h1, _, h2⟩ := h
  obtain ⟨v, ps, hrun, hv⟩ := h1.look_ok (Maps.int_keyed Try.underlying3) Try.underlying127 (z := .int .i64 0) (zero_i64 w) (plainElem_int Try.underlying2 (by decide)) (Maps.keyOf_int_mk Try.underlying3 (int_wf hp))
  obtain ⟨k1, k2⟩ := h2 p (int_wf hp)
  obtain ⟨c, rfl, hc, _⟩ := plainElem_int_inv Try.underlying2 hv
  rw [k2] at hc
  simp at hc
  rw [hrun, k1, hc.1]
theorem MapI.put {w : World} {b n : Nat} {f : Int → Option Int} (h : MapI w b n f) (hn : n < maxLen) {p v : Int} (hp : I64 p) (hv : I64 v) :
    ∃ w', (Instr.mapUpdate 127 (.map (some b)) (.int .i64 p) (.int .i64 v)).run Try.prog w = .ok () w' ∧ MapI w' b (n + 1) (fun q => if q = p then some v else f q) ∧ w.grownBy w' (some b) := by
  obtain ⟨D, h1, h3, h2⟩ := h
  obtain ⟨w', hrun, ho, hg⟩ := h1.update (Maps.int_keyed Try.underlying3) Try.underlying127 hn (Maps.keyOf_int_mk Try.underlying3 (int_wf hp)) (plainElem_int Try.underlying2 (int_wf hv))
  refine ⟨w', hrun, ⟨_, ho, h3.put _ _, fun q hq => ?_⟩, hg⟩
  by_cases e : q = p
  · subst e
    rw [Maps.atKey_put_same h3 (by trivial), Maps.has_put_same h3 (by trivial)]
    simp
  · have hne : (Lit.int .i64 q) ≠ (Lit.int .i64 p) := by intro x; injection x with _ x; exact e x
    rw [Maps.atKey_put_other hne, Maps.has_put_other hne, (h2 q hq).1, (h2 q hq).2]
    simp [e]
end Go.Proofs.Ytpdanmdpaanafaa

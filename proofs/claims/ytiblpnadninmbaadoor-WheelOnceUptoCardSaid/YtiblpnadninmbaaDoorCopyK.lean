/- copy within a row of one's own, of structs of k cells; two rows of one type. No premise of its own. -/
import Derived.Test.YtiblpnadninmbaaDoorKitK
import Derived.Test.YtiblpnadninmbaaDoorTn
import Derived.Laws.CopyOwn
namespace Go.Proofs.YtiblpnadninmbaaDoor
open Go.RowKit
section
variable {P : Program}
theorem run_copy_rowK (w : World) (dT sT ty elem : TypeId) (g o dLen dCap k : Nat) (a : Addr) (sLen sCap : Nat) (cur : Array Value) (t : TypeId) (cs : List Value)
    (hu : P.underlying dT = some (.slice elem)) (hs : (P.info? elem).map (·.size) = some k)
    (hg : w.heap[g]? = some (.cells cur t (0, 0))) (hn : cs.length = Nat.min sLen dLen * k)
    (hsrc : ∀ j v, cs[j]? = some v → w.cell? (a.add j) = some v) (hfit : o + cs.length ≤ cur.size) (h1 : ∀ v ∈ cs, v.oneCell' = true) :
    (Builtin.copy_ #[dT, sT] ty #[.slice (some ⟨g, o, none⟩) dLen dCap, .slice (some a) sLen sCap]).run P w =
      .ok (goInt (Nat.min sLen dLen)) (w.setRow g (cur.toList.take o ++ cs ++ cur.toList.drop (o + cs.length)).toArray) := by
  have hl := run_loadCells_list (P := P) w a cs hsrc
  have hst := run_storeCells_at P g o t cs 0 cur w hg (by simpa using hfit) h1
  cases hq : P.info? elem with
  | none => simp [hq] at hs
  | some i =>
    have hi : i.size = k := by simpa [hq] using hs
    simp [Builtin.copy_, run_underlying hu, Builtin.lenOf, Builtin.firstCells, sizeOf, typeInfo, hq, hi, ← hn, hl, hst]
theorem run_copy_noneK (w : World) (dT sT ty elem : TypeId) (d a : Option Addr) (dLen dCap sLen sCap k : Nat) (hu : P.underlying dT = some (.slice elem)) (hs : (P.info? elem).map (·.size) = some k) (hn : Nat.min sLen dLen = 0) :
    (Builtin.copy_ #[dT, sT] ty #[.slice d dLen dCap, .slice a sLen sCap]).run P w = .ok (goInt 0) w := by
  cases hq : P.info? elem with
  | none => simp [hq] at hs
  | some i =>
    have hi : i.size = k := by simpa [hq] using hs
    have hl : ∀ a, (loadCells a 0).run P w = .ok #[] w := fun a => by
      have := run_loadCells_list (P := P) w a [] (by simp)
      simpa using this
    cases a <;> cases d <;> simp [Builtin.copy_, run_underlying hu, Builtin.lenOf, Builtin.firstCells, sizeOf, typeInfo, hq, hn, hl, storeCells]
/-- A row with cells laid over it. -/
theorem own_splice {w : World} {base e k n g c : Nat} {vs cs : List Value} {off : Nat} {cur : Array Value} (h : w.ownsRow base e k (.slice (some ⟨g, 0, none⟩) n c) n vs) (hg : w.heap[g]? = some (.cells cur e (0, 0))) (hfit : off + cs.length ≤ vs.length) :
    (w.setRow g (cur.toList.take off ++ cs ++ cur.toList.drop (off + cs.length)).toArray).ownsRow base e k (.slice (some ⟨g, 0, none⟩) n c) n (splice vs off cs) ∧ off + cs.length ≤ cur.size := by
  rcases h.2 with ⟨h1, _⟩ | ⟨g', cap, cur', h1, h2, h3, h4, h5, h6, h7⟩
  · cases h1
  · injection h1 with h1 h8 h9
    injection h1 with h1
    injection h1 with h1
    subst h1 h9
    rw [hg] at h3
    injection h3 with h3
    injection h3 with h3
    subst h3
    have hv := h.1
    have hnc : n * k ≤ c * k := Nat.mul_le_mul_right _ h4
    have hcs : cur.size = c * k := by simpa using h6
    refine ⟨⟨by rw [length_splice _ _ _ hfit]; exact hv, .inr ⟨g, c, (cur.toList.take off ++ cs ++ cur.toList.drop (off + cs.length)).toArray, rfl, h2, setRow_heap w g cur _ e _ hg, h4, h5, ?_, ?_⟩⟩, by omega⟩
    · simp; omega
    · obtain ⟨r, hr⟩ : ∃ r, cur.toList = vs ++ r := ⟨cur.toList.drop (n * k), by rw [← h7, List.take_append_drop]⟩
      show List.take (n * k) (List.take off cur.toList ++ cs ++ List.drop (off + cs.length) cur.toList) = _
      have e0 : List.take off (vs ++ r) = List.take off vs := List.take_append_of_le_length (by omega)
      have e2 : List.drop (off + cs.length) (vs ++ r) = List.drop (off + cs.length) vs ++ r := List.drop_append_of_le_length (by omega)
      rw [hr, e0, e2]
      have e1 : List.take off vs ++ cs ++ (List.drop (off + cs.length) vs ++ r) = splice vs off cs ++ r := by unfold splice; simp
      rw [e1, List.take_append_of_le_length (by rw [length_splice _ _ _ hfit]; omega), List.take_of_length_le (by rw [length_splice _ _ _ hfit]; omega)]
theorem tn_setRow (w : World) (g : Nat) (cs : Array Value) : Tn [g] w (w.setRow g cs) :=
  ⟨rfl, rfl, rfl, by simp [World.setRow], fun k _ hk => setRow_other w g k cs (by simpa using hk)⟩
theorem own_heap {w w0 : World} {base e k n : Nat} {v : Value} {vs : List Value} (h : w0.ownsRow base e k v n vs) (hh : w.heap = w0.heap) : w.ownsRow base e k v n vs := own_keptK h (fun g _ => by rw [hh])
theorem Tn.heap {F : List Nat} {w w0 w' : World} (h : Tn F w w') (h0 : w.heap = w0.heap) (h1 : w.os = w0.os) (h2 : w.tape = w0.tape) (h3 : w.output = w0.output) : Tn F w0 w' :=
  ⟨h.os.trans h1, h.tape.trans h2, h.output.trans h3, by rw [← h0]; exact h.size, fun k hk hf => by rw [h.block k (by rw [h0]; exact hk) hf, h0]⟩
/-- copy within a row of one's own, as a step of a drawn region. -/
theorem step_copyK {ops : Array Oper} {o : Oper} {a : Act} {w : World} {K : Act → World → Prop} {Q : Exit → Act → World → Prop} {E : Prop} (hgd : o.guard = none) (d s : Operand) (dT sT : TypeId)
    (ho : o.op = .call { callee := .builtin .copy, args := #[d, s], argTypes := #[dT, sT] }) {e k bytes : Nat} (T : SlK P dT e k bytes)
    (dp sp : Option Addr) (dLen dCap sLen sCap : Nat) (hd : a.eval d = .slice dp dLen dCap) (hs : a.eval s = .slice sp sLen sCap)
    {base n g c : Nat} {vs : List Value} {w0 : World} (hown0 : w0.ownsRow base e k (.slice (some ⟨g, 0, none⟩) n c) n vs) (hh : w.heap = w0.heap ∧ w.os = w0.os ∧ w.tape = w0.tape ∧ w.output = w0.output) (off : Nat) (cs : List Value) (hn : cs.length = Nat.min sLen dLen * k)
    (hpos : 0 < Nat.min sLen dLen → dp = some ⟨g, off, none⟩ ∧ ∃ ad, sp = some ad ∧ ∀ j v, cs[j]? = some v → w0.cell? (ad.add j) = some v)
    (hfit : off + cs.length ≤ vs.length) (h1 : ∀ v ∈ cs, v.oneCell' = true)
    (h : ∀ w', w'.ownsRow base e k (.slice (some ⟨g, 0, none⟩) n c) n (splice vs off cs) → Tn [g] w0 w' → K (a.put o.dst (goInt (Nat.min sLen dLen))) w') :
    if Region.wanted o (yielded ops a.tmps) = true then Oper.wp P o a w K Q else E := by
  have hw : Region.wanted o (yielded ops a.tmps) = true := by simp [Region.wanted, hgd]
  rw [if_pos hw]
  have hown := own_heap hown0 hh.1
  have hcell : ∀ p, w.cell? p = w0.cell? p := fun p => World.cell?_of_block (by rw [hh.1])
  have hTn : ∀ {w'}, Tn [g] w w' → Tn [g] w0 w' := fun h9 => h9.heap hh.1 hh.2.1 hh.2.2.1 hh.2.2.2
  obtain ⟨i, z, hi, hz, hs1, hby, hzs⟩ := T.hi
  have hsz : (P.info? e).map (·.size) = some k := by rw [hi]; simpa using hs1
  by_cases h0 : Nat.min sLen dLen = 0
  · have hcs : cs = [] := List.eq_nil_of_length_eq_zero (by rw [hn, h0, Nat.zero_mul])
    subst hcs
    have hrun := run_copy_noneK (P := P) w dT sT o.type e dp sp dLen dCap sLen sCap k T.ht hsz h0
    unfold Oper.wp
    simp [execOp, ho, resolve, invoke, builtin, hd, hs, hrun, Result.andThen]
    have h9 := h w (by simpa [splice] using hown) (hTn (Tn.refl _ _))
    rwa [h0] at h9
  · obtain ⟨rfl, ad, rfl, hsrc⟩ := hpos (by omega)
    obtain ⟨_, _, cur, hg⟩ := own_blockK hown rfl
    obtain ⟨g1, g2⟩ := own_splice hown hg hfit
    have hrun := run_copy_rowK (P := P) w dT sT o.type e g off dLen dCap k ad sLen sCap cur e cs T.ht hsz hg hn (fun j v hj => (hcell _).trans (hsrc j v hj)) g2 h1
    unfold Oper.wp
    simp [execOp, ho, resolve, invoke, builtin, hd, hs, hrun, Result.andThen]
    have h9 := h _ g1 (hTn (tn_setRow w g _))
    rw [List.append_assoc] at h9
    exact h9
end
theorem own_cell {w : World} {base e k n c g : Nat} {vs : List Value} (h : w.ownsRow base e k (.slice (some ⟨g, 0, none⟩) n c) n vs) (j : Nat) (u : Value) :
    (w.setCell ⟨g, j, none⟩ u).ownsRow base e k (.slice (some ⟨g, 0, none⟩) n c) n (vs.set j u) := by
  refine ⟨by rw [List.length_set]; exact h.1, ?_⟩
  rcases h.2 with ⟨h1, _⟩ | ⟨g', cap, cur, h1, h2, h3, h4, h5, h6, h7⟩
  · cases h1
  · injection h1 with h1 h8 h9
    injection h1 with h1
    injection h1 with h1
    subst h1 h9
    refine .inr ⟨g, _, cur.setIfInBounds j u, rfl, h2, box_set (i := j) h3 u, h4, h5, by simpa using h6, ?_⟩
    rw [Array.toList_setIfInBounds, List.take_set, h7]
/-- Two rows of one type, apart. -/
def Apt (v u : Value) : Prop := ∀ g, v.ownBlock = some g → u.ownBlock ≠ some g
theorem Apt.symm {v u : Value} (h : Apt v u) : Apt u v := fun g h1 h2 => h g h2 h1
theorem apt_nil (u : Value) (n c : Nat) : Apt (.slice none n c) u := fun g h => by cases h
theorem two_app {w w3 : World} {o : Obj} {base' e' k' n' : Nat} {v u v3 : Value} {us : List Value} (h2 : w.ownsRow base' e' k' u n' us) (ha : Apt v u)
    (hg : (w.alloc o).grownBy w3 v.ownBlock) (hat : v3.ownBlock = v.ownBlock ∨ v3.ownBlock = some (w.alloc o).heap.size) : w3.ownsRow base' e' k' u n' us ∧ Apt v3 u := by
  refine ⟨own_grownK hg (own_allocK h2 o) (fun g hg1 hg2 => ha g hg2 hg1), fun g hg1 hg2 => ?_⟩
  rcases hat with h | h
  · exact ha g (h ▸ hg1) hg2
  · have h3 := (own_blockK h2 hg2).2.1
    rw [h] at hg1
    injection hg1 with hg1
    simp at hg1; omega
end Go.Proofs.YtiblpnadninmbaaDoor

/- A region that draws its order: reads, then one operation, then reads of what it brought: one walk in the text's order serves, outside a round and in one. No premise of its own. -/
import Derived.Test.YtpncbkodhojicaaDoorRound
import Derived.Deep.QuietTactic
namespace Go.Proofs.YtpncbkodhojicaaDoor
open Go.RowKit Go.Shelf

section
variable {P : Program} {md : Region.Mode} {ops : Array Oper}
def midT (md : Region.Mode) (ops : Array Oper) (n : Nat) (listed : Array Bool) : Bool := decide (Region.ready md ops listed = [n]) && Region.lexFrom md ops (ops.size - n - 1) (n + 1) (listed.setIfInBounds n true)
def headM (md : Region.Mode) (ops : Array Oper) (n : Nat) : Nat → Nat → Array Bool → Bool
  | 0, _, listed => midT md ops n listed
  | f + 1, k, listed => (Region.ready md ops listed).contains k && Region.free md ops listed k && headM md ops n f (k + 1) (listed.setIfInBounds k true)
/-- What stands behind n waits for n, at last. -/
def lateB (md : Region.Mode) (ops : Array Oper) (n : Nat) : Bool := (List.range ops.size).all fun t => decide (t ≤ n) || (List.range t).any fun u => decide (n ≤ u) && Region.waitsFor md ops t u
def midB (md : Region.Mode) (ops : Array Oper) (n : Nat) : Bool :=
  Region.noSelect ops && decide (n < ops.size) && Region.sinkB md ops n && lateB md ops n && headM md ops n n 0 (Array.replicate ops.size false)
/-- Where n has come up, all ahead of it is listed. -/
theorem sink_listed {n : Nat} {listed : Array Bool} (hs : Region.sinkB md ops n = true) (hn : n < ops.size) (inv : HeadInv md ops n listed) (hr : n ∈ Region.ready md ops listed) : ∀ d i, n - i = d → i < n → listed.getD i false = true := by
  obtain ⟨_, on, hon, hall⟩ := mem_ready.1 hr
  intro d
  induction d using Nat.strongRecOn with
  | _ d ih =>
    intro i hd hi
    obtain ⟨j, hj, hj2⟩ := List.any_eq_true.1 (List.all_eq_true.1 hs i (List.mem_range.2 hi))
    have hjn := List.mem_range.1 hj
    simp only [Bool.and_eq_true, decide_eq_true_eq] at hj2
    obtain ⟨oj, hoj, e, he, hb, rfl⟩ := Region.waitsFor_spec hj2.2
    by_cases hjn2 : j = n
    · subst hjn2
      rw [hon] at hoj
      cases hoj
      exact hall e he hb
    · exact inv.closed j oj hoj (ih (n - j) (by omega) j rfl (by omega)) e he hb
theorem late_waits {n : Nat} {listed : Array Bool} (hs : Region.sinkB md ops n = true) (hc : lateB md ops n = true) (hn : n < ops.size) (inv : HeadInv md ops n listed) {i : Nat} (hi : i < n) (hu : listed.getD i true = false) : ∀ t ∈ Region.ready md ops listed, t < n := by
  intro t hr
  apply Classical.byContradiction
  intro hge
  obtain ⟨_, ot, hot, hall⟩ := mem_ready.1 hr
  have hlt : t < ops.size := (Array.getElem?_eq_some_iff.1 hot).1
  by_cases htn : t = n
  · subst htn
    have h1 := sink_listed hs hn inv hr _ i rfl hi
    rw [getD_both hu] at h1
    cases h1
  · have h1 := List.all_eq_true.1 hc t (List.mem_range.2 hlt)
    simp only [Bool.or_eq_true, decide_eq_true_eq] at h1
    obtain ⟨u, hu1, hu2⟩ := List.any_eq_true.1 (h1.resolve_left (by omega))
    have hut := List.mem_range.1 hu1
    simp only [Bool.and_eq_true, decide_eq_true_eq] at hu2
    obtain ⟨o', ho', e, he, hb, rfl⟩ := Region.waitsFor_spec hu2.2
    rw [hot] at ho'
    cases ho'
    have h2 := hall e he hb
    rw [getD_both (inv.tail _ hu2.1 (by omega))] at h2
    cases h2
/-- A read that is ready may be taken first. -/
theorem first_mid {w : World} {n i : Nat} {oi : Oper} {v : Value} {L : Array Bool → Act → Prop} (hi : ops[i]? = some oi) (hsel : ∀ (j : Nat) (o : Oper) cs b, ops[j]? = some o → o.op ≠ .select cs b)
    (hw : ∀ listed, HeadInv md ops n listed → listed.getD i true = false → ∀ t ∈ Region.ready md ops listed, t < n) (hdone : ∀ listed a, L listed a → ∀ j ∈ Region.ready md ops listed, n ≤ j) (f : Nat) :
    ∀ (listed : Array Bool) (a : Act), HeadInv md ops n listed → (∀ j oj, ops[j]? = some oj → j ≠ i → listed.getD j true = false → (∀ e ∈ oj.after, Region.binds md e = true → e.on ≠ i) → oi.apart ops oj = true) →
      i ∈ Region.ready md ops listed → YieldsAt P ops w oi v a → wpAnyL P md ops w n L f (listed.setIfInBounds i true) (a.put oi.dst v) → wpAnyL P md ops w n L (f + 1) listed a := by
  induction f with
  | zero =>
    intro listed a inv _ hr hy H
    have hlt := hw listed inv (mem_ready.1 hr).1
    refine ⟨List.ne_nil_of_mem hr, fun j hj => ⟨hlt j hj, ?_⟩⟩
    rcases Classical.em (j = i) with rfl | hji
    · exact hy.stOp hi H
    · exact absurd (hdone _ _ H j (ready_mono hj hji)) (Nat.not_le.2 (hlt j hj))
  | succ f ih =>
    intro listed a inv hap hr hy H
    have hu := (mem_ready.1 hr).1
    have hlt := hw listed inv hu
    refine ⟨List.ne_nil_of_mem hr, fun j hj => ⟨hlt j hj, ?_⟩⟩
    rcases Classical.em (j = i) with rfl | hji
    · exact hy.stOp hi H
    · obtain ⟨hju, oj, hoj, hall⟩ := mem_ready.1 hj
      have hno : ∀ e ∈ oj.after, Region.binds md e = true → e.on ≠ i := by
        rintro e he hb rfl
        have := hall e he hb
        rw [getD_both hu] at this
        cases this
      refine stOp_mono (fun a' h3 => ih _ a' (inv.set hj (hlt j hj)) (fun k ok hk hki hun hn => hap k ok hk hki ?_ hn) (ready_mono hr (Ne.symm hji)) h3.1 ?_) (stOp_put hoj (hap j oj hoj hji hju hno) (fun cs b => hsel i oi cs b hi) (fun cs b => hsel j oj cs b hoj) hy (H.2 j (ready_mono hj hji)).2)
      · rcases Classical.em (j = k) with rfl | hjk
        · exact hju
        · rwa [getD_set_ne true hjk] at hun
      · rw [Array.setIfInBounds_comm _ _ hji]
        exact h3.2
theorem midT_ready {n : Nat} {listed : Array Bool} (h : midT md ops n listed = true) : ∀ j ∈ Region.ready md ops listed, n ≤ j := by
  intro j hj
  unfold midT at h
  simp only [Bool.and_eq_true, decide_eq_true_eq] at h
  rw [h.1] at hj
  have : j = n := by simpa using hj
  omega
theorem wpAnyL_mid {w : World} {n : Nat} {Lq : Act → Prop} (hsel : Region.noSelect ops = true) (hs : Region.sinkB md ops n = true) (hc : lateB md ops n = true) (hn : n < ops.size) :
    ∀ (l : List Oper) (k : Nat) (listed : Array Bool) (a : Act), (∀ j, j < l.length → l[j]? = ops[k + j]?) → k + l.length = n → HeadInv md ops n listed →
    headM md ops n l.length k listed = true → wpStill P ops w Lq l a →
    wpAnyL P md ops w n (fun listed' a' => midT md ops n listed' = true ∧ Lq a') l.length listed a
  | [], k, listed, a, _, _, _, hB, h => ⟨by simpa [headM] using hB, h⟩
  | o :: l, k, listed, a, hl, hk, inv, hB, h => by
    have h0 : ops[k]? = some o := by simpa using (hl 0 (by simp)).symm
    simp only [List.length_cons, headM, Bool.and_eq_true] at hB
    obtain ⟨⟨hr, hf⟩, hB'⟩ := hB
    have hkn : k < n := by simp only [List.length_cons] at hk; omega
    have hr' : k ∈ Region.ready md ops listed := by simpa using hr
    have hst : stOp P ops w k (wpStill P ops w Lq l) a := by unfold stOp; simp only [h0]; exact h
    obtain ⟨v, hy, hK⟩ := yieldsAt_of_stOp h0 hst
    exact first_mid h0 (Region.noSelect_spec hsel) (fun listed inv' hu => late_waits hs hc hn inv' hkn hu) (fun listed' a' hL => midT_ready hL.1) l.length listed a inv (Region.free_spec h0 hf) hr' hy
      (wpAnyL_mid hsel hs hc hn l (k + 1) _ _ (fun j hj => by have := hl (j + 1) (by simp; omega); simpa [Nat.add_assoc, Nat.add_comm 1 j] using this) (by simp only [List.length_cons] at hk; omega) (inv.set hr' hkn) hB' hK)
/-- What is to be shown behind the operation. -/
def midK (P : Program) (ops : Array Oper) (Q : Exit → Act → World → Prop) (rest : List Oper) (a : Act) (w : World) : Prop :=
  wpQuiet P ops (fun X => ∃ k, X = w.drewN k) (fun a' => ∀ X, (∃ k, X = w.drewN k) → Q .normal a' X) rest a
theorem wpAny_mid {Q : Exit → Act → World → Prop} {l : List Oper} {a : Act} {w : World} (n : Nat) (o : Oper) (ho : l[n]? = some o) (hB : midB .any l.toArray n = true)
    (h : wpStill P l.toArray w.drew (fun a' => ∀ K : Act → World → Prop, (∀ a'' w'', midK P l.toArray Q (l.drop (n + 1)) a'' w'' → K a'' w'') → Region.wanted o (yielded l.toArray a'.tmps) = true ∧ o.wp P a' w.drew K Q) (l.take n) a) :
    wpAny P .any l.toArray Q l.toArray.size (Array.replicate l.toArray.size false) a w.drew := by
  simp only [midB, Bool.and_eq_true, decide_eq_true_eq] at hB
  obtain ⟨⟨⟨⟨hsel, hn⟩, hs⟩, hc⟩, hlex⟩ := hB
  have hn' : n < l.length := by simpa using hn
  have htl : (l.take n).length = n := by simp; omega
  have hdl : (l.drop (n + 1)).length = l.toArray.size - n - 1 := by simp; omega
  have inv0 : HeadInv .any l.toArray n (Array.replicate l.toArray.size false) :=
    ⟨by simp, fun j oj _ hl => (by rw [getD_replicate_false] at hl; cases hl), fun t _ ht => getD_in (by simpa using ht) (getD_replicate_false _ _)⟩
  have H := wpAnyL_mid (md := .any) hsel hs hc hn (l.take n) 0 _ a (fun j hj => by
    have hj' : j < n := by rw [htl] at hj; exact hj
    simp [hj']) (by simpa using htl) inv0 (by rw [htl]; exact hlex) h
  have := wpAny_of_head (Q' := Q) (g := l.toArray.size - n) (fun listed a' hL => by
    obtain ⟨h1, h2⟩ := hL
    simp only [midT, Bool.and_eq_true, decide_eq_true_eq] at h1
    rw [show l.toArray.size - n = (l.toArray.size - n - 1) + 1 by omega]
    refine ⟨fun h9 => (by rw [h1.1] at h9; cases h9), fun i hi => ?_⟩
    rw [h1.1] at hi
    have hin : i = n := by simpa using hi
    subst hin
    have h3 := h2 (fun a'' w'' => wpAny P .any l.toArray Q (l.toArray.size - i - 1) (listed.setIfInBounds i true) a'' w'') (fun a'' w'' hq => by
      have h4 := wpAnyQ_lex (C := fun X => ∃ k, X = w''.drewN k) (md := .any) hsel (l.drop (i + 1)) (i + 1) (listed.setIfInBounds i true) a'' (fun j => by simp [List.getElem?_drop]) (by rw [hdl]; exact h1.2) hq
      rw [hdl] at h4
      exact wpAny_of_quiet (C := fun X => ∃ k, X = w''.drewN k) (Q := fun a' => ∀ X, (∃ k, X = w''.drewN k) → Q .normal a' X) (fun _ w' hw' h => h w' hw') _ _ _ _ ⟨0, rfl⟩ h4)
    unfold wpOp
    have h0 : l.toArray[i]? = some o := by simpa using ho
    simp only [h0]
    rw [if_pos h3.1]
    exact .inl h3.2) _ _ _ H
  rw [htl, show n + (l.toArray.size - n) = l.toArray.size by omega] at this
  exact this
theorem wp_mid {id : Nat} {Q : Exit → Act → World → Prop} {a : Act} {w : World} {l : List Oper} (n : Nat) (o : Oper) (ho : l[n]? = some o) (hm : P.follows .mixedOrders = true) (hB : midB .any l.toArray n = true)
    (h : wpStill P l.toArray w.drew (fun a' => ∀ K : Act → World → Prop, (∀ a'' w'', midK P l.toArray Q (l.drop (n + 1)) a'' w'' → K a'' w'') → Region.wanted o (yielded l.toArray a'.tmps) = true ∧ o.wp P a' w.drew K Q) (l.take n) a) : (Code.region id l.toArray true).wp P Q a w :=
  wp_region_any hm (wpAny_mid n o ho hB h)
theorem round_mid {lr nn id : Nat} {Q : Exit → Act → World → Prop} {a : Act} {w : World} {l : List Oper} (n : Nat) (o : Oper) (ho : l[n]? = some o) (hq : ¬ LetsOut Q) (hd : noDefer l = true) (hm : P.follows .mixedOrders = true) (hB : midB .any l.toArray n = true)
    (h : wpStill P l.toArray w.drew (fun a' => ∀ K : Act → World → Prop, (∀ a'' w'', midK P l.toArray Q (l.drop (n + 1)) a'' w'' → K a'' w'') → Region.wanted o (yielded l.toArray a'.tmps) = true ∧ o.wp P a' w.drew K Q) (l.take n) a) : (Code.region id l.toArray true).wpIn (Fence.wide.inRound lr) nn P Q a w :=
  wpIn_region_any hm (wpAnyIn_of hq (by simpa using hd) _ _ _ _ (wpAny_mid n o ho hB h))
end
end Go.Proofs.YtpncbkodhojicaaDoor

/- Package irq: Unmask, plain; what stays where a mark is put or taken. No premise of its own. -/
import Derived.Test.YtpncbkodhojicaaDoorQdBIc
namespace Go.Proofs.YtpncbkodhojicaaDoor
open Go.RowKit Go.Shelf
variable {Bs : Nat → Prop}
def stepU (now : Int) (r : Qs × List Int) (i : Nat) : Qs × List Int := if ((r.1.ln i).look now).full = true then (r.1.put i ((r.1.ln i).look now), r.2) else (r.1.put i { (r.1.ln i).look now with masked := false }, r.2 ++ [(i : Int)])
theorem bits_in {s : Qs} (h : s.ls.length ≤ 64) : bitsOf (mB s) = bitsTo (mB s) s.ls.length := by
  unfold bitsOf
  exact bits_stop (n := s.ls.length) (fun i h1 _ => by rw [mB_any h, ln_out (by omega)]; rfl) h
theorem freed_succ (s : Qs) (now : Int) (k : Nat) : freed s now (k + 1) = if (s.ln k).masked = true ∧ ¬ ((s.ln k).look now).full = true then freed s now k ++ [k] else freed s now k := by
  unfold freed
  rw [List.range_succ, List.filter_append]
  by_cases hc : (s.ln k).masked = true ∧ ¬ ((s.ln k).look now).full = true
  · rw [if_pos hc, List.filter_cons_of_pos (by simp [hc.1, hc.2])]; rfl
  · rw [if_neg hc, List.filter_cons_of_neg (by
      intro h9
      simp only [Bool.and_eq_true, Bool.not_eq_true'] at h9
      exact hc ⟨h9.1, by rw [h9.2]; simp⟩)]
    simp
theorem unm_fold {s : Qs} (h : s.ls.length ≤ 64) (now : Int) (k : Nat) : k ≤ s.ls.length → (bitsTo (mB s) k).foldl (stepU now) (s.at' now, []) = (⟨(s.ls.take k).map (unmaskL now) ++ s.ls.drop k, s.bs, now⟩, (freed s now k).map fun i : Nat => (i : Int)) := by
  induction k with
  | zero => intro _; simp [bitsTo, freed, Qs.at']
  | succ k ih =>
    intro hk
    have hkl : k < s.ls.length := by omega
    have hlen : ((s.ls.take k).map (unmaskL now)).length = k := by rw [List.length_map, List.length_take]; omega
    have hdr : s.ls.drop k = s.ls[k] :: s.ls.drop (k + 1) := List.drop_eq_getElem_cons hkl
    have hln : s.ln k = s.ls[k] := ln_get hkl
    have hrln : Qs.ln ⟨(s.ls.take k).map (unmaskL now) ++ s.ls.drop k, s.bs, now⟩ k = s.ln k := by
      rw [hln]
      unfold Qs.ln
      dsimp only
      rw [List.getD_eq_getElem?_getD, List.getElem?_append_right (by omega), hlen, Nat.sub_self, hdr]; rfl
    have hset : ∀ y : Lq, ((s.ls.take k).map (unmaskL now) ++ s.ls.drop k).set k y = (s.ls.take k).map (unmaskL now) ++ y :: s.ls.drop (k + 1) := fun y => by
      rw [List.set_append_right _ _ (by omega), hlen, Nat.sub_self, hdr, List.set_cons_zero]
    have htk : (s.ls.take (k + 1)).map (unmaskL now) ++ s.ls.drop (k + 1) = (s.ls.take k).map (unmaskL now) ++ unmaskL now (s.ln k) :: s.ls.drop (k + 1) := by
      rw [List.take_succ_eq_append_getElem hkl, List.map_append, List.append_assoc, hln]; rfl
    rw [bitsTo_succ, mB_any h, List.foldl_append, ih (by omega), htk, freed_succ]
    cases hm : (s.ln k).masked with
    | false =>
      have e : unmaskL now (s.ln k) = s.ls[k] := by unfold unmaskL; rw [hm, if_neg (by decide), hln]
      simp only [Bool.false_eq_true, false_and, if_false, List.foldl_nil]
      rw [e, ← hdr]
    | true =>
      simp only [if_true, List.foldl_cons, List.foldl_nil]
      unfold stepU
      dsimp only
      rw [hrln]
      by_cases hf : ((s.ln k).look now).full = true
      · have e : unmaskL now (s.ln k) = (s.ln k).look now := by unfold unmaskL; rw [if_pos hm, if_pos hf]
        rw [if_pos hf, if_neg (show ¬ (True ∧ ¬ ((s.ln k).look now).full = true) from fun h9 => h9.2 hf), e]
        unfold Qs.put
        dsimp only
        rw [hset]
      · have e : unmaskL now (s.ln k) = { (s.ln k).look now with masked := false } := by unfold unmaskL; rw [if_pos hm, if_neg hf]
        rw [if_neg hf, if_pos (show True ∧ ¬ ((s.ln k).look now).full = true from ⟨trivial, hf⟩), e]
        unfold Qs.put
        dsimp only
        rw [hset, List.map_append]; rfl
theorem unm_all {s : Qs} (h : s.ls.length ≤ 64) (now : Int) : (bitsOf (mB s)).foldl (stepU now) (s.at' now, []) = (unmaskS s now, (freed s now s.ls.length).map fun i : Nat => (i : Int)) := by
  rw [bits_in h, unm_fold h now _ (Nat.le_refl _), List.take_length, List.drop_length, List.append_nil]; rfl
/-- What holds while lines are unmasked. -/
structure UmG (n : Nat) (s1 r : Qs) : Prop where
  qi : QI n r
  len : r.ls.length = s1.ls.length
  last : r.last = s1.last
theorem UmG.look {n : Nat} {s1 r : Qs} (h : UmG n s1 r) {i : Nat} (hi : i < s1.ls.length) : UmG n s1 (r.put i ((r.ln i).look s1.last)) :=
  ⟨h.qi.put (by rw [h.len]; exact hi) ((h.qi.line (by rw [h.len]; exact hi)).look _) rfl, by rw [put_len]; exact h.len, h.last⟩
theorem UmG.free {n : Nat} {s1 r : Qs} (h : UmG n s1 r) {i : Nat} (hi : i < s1.ls.length) : UmG n s1 (r.put i { (r.ln i).look s1.last with masked := false }) :=
  ⟨h.qi.put (by rw [h.len]; exact hi) (by have g := (h.qi.line (i := i) (by rw [h.len]; exact hi)).look s1.last; exact ⟨g.prio, g.many, g.window, g.len, g.sort, g.range, g.lost, g.served, g.top, g.bottom⟩) rfl, by rw [put_len]; exact h.len, h.last⟩
theorem UmG.step {n : Nat} {s1 : Qs} {r : Qs × List Int} (h : UmG n s1 r.1) {i : Nat} (hi : i < s1.ls.length) : UmG n s1 (stepU s1.last r i).1 := by
  unfold stepU
  split
  · exact h.look hi
  · exact h.free hi
theorem UmG.fold {n : Nat} {s1 : Qs} : ∀ (l : List Nat) (r : Qs × List Int), UmG n s1 r.1 → (∀ i ∈ l, i < s1.ls.length) → UmG n s1 (l.foldl (stepU s1.last) r).1
  | [], _, h, _ => h
  | i :: l, r, h, hl => UmG.fold l (stepU s1.last r i) (h.step (hl i (by simp))) fun j hj => hl j (List.mem_cons_of_mem _ hj)
theorem stepU_len (now : Int) : ∀ (l : List Nat) (r : Qs × List Int), (l.foldl (stepU now) r).2.length ≤ r.2.length + l.length
  | [], _ => by simp
  | i :: l, r => by
    have h := stepU_len now l (stepU now r i)
    have h2 : (stepU now r i).2.length ≤ r.2.length + 1 := by unfold stepU; split <;> simp
    rw [List.foldl_cons, List.length_cons]
    omega
section
variable {w w' : World} {f : IqF} {s : Qs} {pA : Option Addr} {pc : Nat} {tA : Option Addr} {tc : Nat}
theorem IqR.cells (h : IqR Bs w f s pA pc tA tc) : ∀ k ∈ qL f s, ∃ cs t, w.heap[k]? = some (.cells cs t (0, 0)) := fun k hk => by
  rcases mem_qL.1 hk with rfl | ⟨a, ha, rfl⟩ | ⟨a, ha, rfl⟩ | ⟨x, hx, rfl⟩ | ⟨x, hx, rfl⟩
  · exact ⟨_, _, h.box⟩
  · obtain ⟨_, _, cur, hc⟩ := own_blockK h.ll (g := a.block) (by rw [ha]; rfl)
    exact ⟨_, _, hc⟩
  · obtain ⟨_, _, cur, hc⟩ := own_blockK h.sl (g := a.block) (by rw [ha]; rfl)
    exact ⟨_, _, hc⟩
  · obtain ⟨_, _, _, _, _, _, _, hm⟩ := h.ms x hx
    exact ⟨_, _, hm.box⟩
  · obtain ⟨_, _, _, _, _, _, _, hm⟩ := h.ms x hx
    exact ⟨_, _, hm.rng⟩
theorem rd_cells {A : Option Addr} {vs : List Value} (h : Rd w A vs) (h0 : 0 < vs.length) {a : Addr} (ha : A = some a) : ∃ o : Obj, w.heap[a.block]? = some o ∧ o.isCells = true := by
  obtain ⟨b, hb, hc⟩ := h.get h0
  rw [ha] at hb; cases hb
  obtain ⟨o, ho, hi⟩ := cells_of_cell hc
  rw [add_block] at ho
  exact ⟨o, ho, hi⟩
/-- Where a block that is no cells turns, the lines stay. -/
theorem IqM.mark {r : Nat} {o : Obj} (h : IqM Bs w f s) (ht : Tn [r] w w') (hr : w.heap[r]? = some o) (ho : o.isCells = false) : IqM Bs w' f s := by
  obtain ⟨pA, pc, tA, tc, h⟩ := h
  have hne : ∀ (k : Nat) (o' : Obj), w.heap[k]? = some o' → o'.isCells = true → k ∉ [r] := fun k o' hk hc hm => by
    rw [List.mem_singleton.1 hm, hr] at hk
    cases hk
    rw [ho] at hc; cases hc
  refine ⟨pA, pc, tA, tc, h.tn ht (fun k hk => ?_) (fun a ha => ?_) (fun a ha hb => ?_)⟩
  · obtain ⟨cs, t, hc⟩ := h.cells k hk
    exact hne k _ hc rfl
  · have h0 : (qIC s).prio.length = qN s := qPrio_len s
    have h1 : 1 ≤ qN s := by unfold qN; split <;> omega
    obtain ⟨o', h1, h2⟩ := rd_cells h.rp (by rw [List.length_map]; omega) ha
    exact hne _ _ h1 h2
  · obtain ⟨o', h1, h2⟩ := rd_cells h.rt (by rw [List.length_map]; show 0 < (s.bs.map _).length; rw [List.length_map]; exact List.length_pos_iff.2 hb) ha
    exact hne _ _ h1 h2
end
end Go.Proofs.YtpncbkodhojicaaDoor

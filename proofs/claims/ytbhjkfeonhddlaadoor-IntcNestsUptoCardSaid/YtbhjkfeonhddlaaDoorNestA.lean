/- Package intc, plain law: whatever happens to a right controller, it stays right, of the same priorities and threshold; the next line is the most urgent that waits. Conditions: none but that it is right. -/
import Derived.Test.YtbhjkfeonhddlaaDoorAgainA
namespace Go.Proofs.YtbhjkfeonhddlaaDoor
open Go.RowKit Go.Shelf

/-- Right, and of the same lines and threshold. -/
structure IC.Keeps (d x : IC) : Prop where
  ok : x.ok
  fits : x.Fits
  prio : x.prio = d.prio
  t : x.t = d.t
theorem IC.Keeps.refl {d : IC} (h : d.ok) (hf : d.Fits) : d.Keeps d := ⟨h, hf, rfl, rfl⟩
theorem IC.Keeps.trans {d x y : IC} (h : d.Keeps x) (h' : x.Keeps y) : d.Keeps y := ⟨h'.ok, h'.fits, h'.prio.trans h.prio, h'.t.trans h.t⟩

theorem on_keeps {d : IC} (hk : d.ok) (hf : d.Fits) (line : Int) (f : Nat → IC × Int) (h : ∀ n, n < d.prio.length → d.Keeps (f n).1) : d.Keeps (d.on line f).1 := by
  by_cases hl : 0 ≤ line ∧ line < d.prio.length
  · obtain ⟨n, rfl⟩ := Int.eq_ofNat_of_zero_le hl.1
    rw [IC.on_in hk hl.2]
    exact h n (by omega)
  · rw [IC.on_out hk hl]
    exact IC.Keeps.refl hk hf
theorem raise_keeps {d : IC} (hk : d.ok) (hf : d.Fits) (n : Nat) (hn : n < d.prio.length) : d.Keeps (d.raiseF n).1 := by
  have hn64 : n < 64 := by have := hk.len2; omega
  have hP : ∀ i, d.prio.length ≤ i → i < 64 → (setB d.p n true).testBit i = false := fun i a b => setB_off hn true a b (hk.sets i a b).1
  have hR : ∀ i, d.prio.length ≤ i → i < 64 → (setB d.r n true).testBit i = false := fun i a b => setB_off hn true a b (hk.sets i a b).2.2.1
  refine ⟨?_, fits_raise hf n, ?_, ?_⟩
  · unfold IC.raiseF
    by_cases hg : d.g.testBit n = true
    · rw [if_pos hg]
      split
      · exact hk
      · exact IC.ok_sets hk _ d.e d.r (fun i a b => ⟨hP i a b, (hk.sets i a b).2.1, (hk.sets i a b).2.2.1⟩) hk.rg
    · rw [if_neg hg]
      refine IC.ok_sets hk _ d.e _ (fun i a b => ⟨?_, (hk.sets i a b).2.1, hR i a b⟩) (fun i h64 hi => ?_)
      · show (if _ then _ else _ : Nat).testBit i = false
        split
        · exact (hk.sets i a b).1
        · exact hP i a b
      · rw [setB_bit _ _ _ h64] at hi
        by_cases he : i = n
        · subst he; simpa using hg
        · rw [if_neg he] at hi; exact hk.rg i h64 hi
  · unfold IC.raiseF; split <;> first | rfl | (split <;> rfl)
  · unfold IC.raiseF; split <;> first | rfl | (split <;> rfl)
theorem lower_keeps {d : IC} (hk : d.ok) (hf : d.Fits) (n : Nat) (hn : n < d.prio.length) : d.Keeps (d.lowerF n).1 := by
  have hn64 : n < 64 := by have := hk.len2; omega
  refine ⟨?_, fits_lower hf n, ?_, ?_⟩
  · unfold IC.lowerF
    split
    · exact hk
    · refine IC.ok_sets hk _ d.e _ (fun i a b => ⟨setB_off hn false a b (hk.sets i a b).1, (hk.sets i a b).2.1, setB_off hn false a b (hk.sets i a b).2.2.1⟩) (fun i h64 hi => ?_)
      rw [setB_bit _ _ _ h64] at hi
      split at hi
      · cases hi
      · exact hk.rg i h64 hi
  · unfold IC.lowerF; split <;> rfl
  · unfold IC.lowerF; split <;> rfl
theorem enable_keeps {d : IC} (hk : d.ok) (hf : d.Fits) (on : Bool) (n : Nat) (hn : n < d.prio.length) : d.Keeps (d.enableF on n).1 :=
  ⟨IC.ok_sets hk d.p _ d.r (fun i a b => ⟨(hk.sets i a b).1, setB_off hn on a b (hk.sets i a b).2.1, (hk.sets i a b).2.2.1⟩) hk.rg, fits_enable hf on n, rfl, rfl⟩
theorem ack_keeps {d : IC} (hk : d.ok) (hf : d.Fits) : d.Keeps (d.three d.ackF).1 := by
  have hfit := fits_ack' hf
  rw [IC.three_ok hk] at hfit ⊢
  by_cases h64 : d.best = 64
  · unfold IC.ackF; rw [if_pos h64]; exact IC.Keeps.refl hk hf
  · obtain ⟨n, hn, hbn, hlv, _⟩ := (d.best_or hk).resolve_left h64
    have e : d.ackF = ({ d with p := setB d.p n false, stack := d.stack ++ [(n : Int)] }, (n : Int), 0) := by unfold IC.ackF; rw [if_neg h64, hbn]; rfl
    rw [e] at hfit ⊢
    exact ⟨IC.ok_push hk hn hlv, hfit, rfl, rfl⟩
theorem IC.ok_pop {d : IC} (h : d.ok) : ({ d with stack := d.stack.dropLast } : IC).ok := by
  refine ⟨h.len1, h.len2, h.prio, h.sets, h.rg, h.t0, h.t1, ?_⟩
  intro i hi
  have hi' : i < d.stack.length - 1 := by
    have : ({ d with stack := d.stack.dropLast } : IC).stack.length = d.stack.length - 1 := List.length_dropLast
    omega
  have hst : ∀ j, j < d.stack.length - 1 → d.stack.dropLast.getD j 0 = d.st j := by
    intro j hj
    unfold IC.st
    simp only [List.getD]
    rw [List.dropLast_eq_take, List.getElem?_take, if_pos hj]
  have hg := h.stack i (by omega)
  unfold IC.good at hg ⊢
  have e1 : IC.st { d with stack := d.stack.dropLast } i = d.st i := hst i hi'
  have e2 : IC.ahead { d with stack := d.stack.dropLast } i = d.ahead i := by
    cases i with
    | zero => rfl
    | succ i =>
      show d.pr (d.stack.dropLast.getD i 0) = d.pr (d.st i)
      rw [hst i (by omega)]
  rw [e1, e2]
  exact hg
theorem end_keeps {d : IC} (hk : d.ok) (hf : d.Fits) : d.Keeps (d.three d.endF).1 := by
  have hfit := fits_end hf
  rw [IC.three_ok hk] at hfit ⊢
  by_cases h0 : d.stack = []
  · unfold IC.endF; rw [if_pos h0]; exact IC.Keeps.refl hk hf
  · obtain ⟨m, hm⟩ : ∃ m, d.stack.length = m + 1 := ⟨d.stack.length - 1, by have := List.length_pos_iff.2 h0; omega⟩
    have hg := hk.stack m (by omega)
    obtain ⟨n, hn⟩ := Int.eq_ofNat_of_zero_le hg.1
    have e : d.endF = ({ d with p := if d.r.testBit n = true then setB d.p n true else d.p, stack := d.stack.dropLast }, (n : Int), 0) := by
      unfold IC.endF; rw [if_neg h0, hm, Nat.add_sub_cancel, hn]; rfl
    rw [e] at hfit ⊢
    refine ⟨?_, hfit, rfl, rfl⟩
    have hp := IC.ok_pop hk
    refine IC.ok_sets hp _ d.e d.r (fun i a b => ⟨?_, (hk.sets i a b).2.1, (hk.sets i a b).2.2.1⟩) hk.rg
    split
    · exact setB_off (len := d.prio.length) (by have := hg.2.1; omega) true a b (hk.sets i a b).1
    · exact (hk.sets i a b).1

/-- What is served is no more urgent than the level. -/
theorem stack_le_top {d : IC} (hk : d.ok) : ∀ m, m < d.stack.length → ∀ i, i ≤ m → d.pr (d.st i) ≤ d.pr (d.st m)
  | 0, _, i, hi => by obtain rfl : i = 0 := by omega
                      exact Int.le_refl _
  | m + 1, hm, i, hi => by
    by_cases he : i = m + 1
    · subst he; exact Int.le_refl _
    · have h1 := stack_le_top hk m (by omega) i (by omega)
      obtain ⟨_, _, h2⟩ := hk.stack (m + 1) hm
      have : d.pr (d.st m) < d.pr (d.st (m + 1)) := h2
      omega
theorem stack_le {d : IC} (hk : d.ok) {i : Nat} (hi : i < d.stack.length) : d.pr (d.st i) ≤ d.level := by
  have h := stack_le_top hk (d.stack.length - 1) (by omega) i (by omega)
  unfold IC.level
  rw [if_neg (by omega)]
  omega
theorem IC.pick_max (d : IC) : ∀ (l : List Nat) (s : Int × Int), s.2 ≤ (d.pick l s).2 ∧ (∀ n ∈ l, d.pr n ≤ (d.pick l s).2)
  | [], s => ⟨Int.le_refl _, fun _ h => by cases h⟩
  | n :: l, s => by
    unfold IC.pick
    by_cases h : s.2 < d.pr n
    · rw [if_pos h]
      obtain ⟨h1, h2⟩ := d.pick_max l ((n : Int), d.pr n)
      refine ⟨by have : d.pr n ≤ _ := h1; omega, fun m hm => ?_⟩
      rcases List.mem_cons.1 hm with rfl | hm
      · exact h1
      · exact h2 m hm
    · rw [if_neg h]
      obtain ⟨h1, h2⟩ := d.pick_max l s
      refine ⟨h1, fun m hm => ?_⟩
      rcases List.mem_cons.1 hm with rfl | hm
      · omega
      · exact h2 m hm
/-- No line that waits, more urgent than the level, is more urgent than the next one. -/
theorem best_max {d : IC} (hk : d.ok) {k : Nat} (hl : k < d.prio.length) (hp : d.p.testBit k = true) (he : d.e.testBit k = true) (hv : d.level < d.pr k) : d.best ≠ 64 ∧ d.pr k ≤ d.pr d.best := by
  have h64 : k < 64 := by have := hk.len2; omega
  have hns : (ofList d.stack).testBit k = false := by
    rw [Bool.eq_false_iff]
    intro h
    obtain ⟨i, hi, e⟩ := (seen_bit (l := d.stack) h64 rfl).1 h
    have := stack_le hk hi
    have e2 : d.st i = (k : Int) := e
    rw [e2] at this
    omega
  have hw : d.waits.testBit k = true := by rw [d.waits_bit h64, hp, he, hns]; rfl
  obtain ⟨h1, h2⟩ := d.pick_max (bitsOf d.waits) (64, d.level)
  have h3 := h2 k (mem_bitsOf.2 ⟨h64, hw⟩)
  unfold IC.best
  rcases d.pick_or (bitsOf d.waits) (64, d.level) with e | ⟨n, hn, e, _⟩
  · rw [e] at h3
    exact absurd h3 (by show ¬ d.pr k ≤ d.level; omega)
  · rw [e] at h3 ⊢
    have hn64 := (mem_bitsOf.1 hn).1
    exact ⟨by show (n : Int) ≠ 64; omega, h3⟩
end Go.Proofs.YtbhjkfeonhddlaaDoor

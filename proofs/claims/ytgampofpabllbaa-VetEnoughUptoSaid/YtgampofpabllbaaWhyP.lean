/- What a right configuration is, from why it is not: plain laws, no program in sight. -/
import Derived.Test.YtgampofpabllbaaVetS
import Derived.Test.YtgampofpabllbaaVetB
namespace Go.Proofs.Ytgampofpabllbaa
open Go.RowKit

theorem first_zero : ∀ {l : List Fl}, (firstOf l).1.why = 0 → ∀ f ∈ l, f.why = 0
  | [], _, _, hf => by cases hf
  | g :: l, h, f, hf => by
    by_cases hg : g.why = 0
    · rw [firstOf_cons, if_neg (by simp [hg])] at h
      rcases List.mem_cons.1 hf with rfl | hf
      · exact hg
      · exact first_zero h f hf
    · rw [firstOf_hit hg] at h
      exact absurd h hg
theorem numb_has {p : Int} : ∀ {l : List Int} {i : Nat} {y : Int}, y ∈ l → ∃ f ∈ numb p i l, f.why = y
  | z :: l, i, y, h => by
    rcases List.mem_cons.1 h with rfl | h
    · exact ⟨⟨p, i, y⟩, by simp [numb], rfl⟩
    · obtain ⟨f, hf, e⟩ := numb_has (p := p) (i := i + 1) h
      exact ⟨f, by simp [numb, hf], e⟩
theorem prWhys_zero : ∀ {s l : List Int}, (∀ y ∈ prWhys s l, y = 0) → l.Nodup ∧ ∀ p ∈ l, p ∉ s
  | _, [], _ => ⟨List.nodup_nil, fun _ h => by cases h⟩
  | s, p :: l, h => by
    have h0 : (if p ∈ s then (12 : Int) else 0) = 0 := h _ (by simp [prWhys])
    obtain ⟨h1, h2⟩ := prWhys_zero (s := p :: s) (l := l) (fun y hy => h y (by simp [prWhys, hy]))
    have hp : p ∉ s := fun hm => by rw [if_pos hm] at h0; cases h0
    refine ⟨List.nodup_cons.2 ⟨fun hm => h2 p hm (by simp), h1⟩, fun q hq => ?_⟩
    rcases List.mem_cons.1 hq with rfl | hq
    · exact hp
    · exact fun hs => h2 q hq (by simp [hs])
/-- A task that is right. -/
structure TkIn (t : Tk) (ch : Int) : Prop where
  kind : t.kind = 1 ∨ t.kind = 2
  prio : 0 ≤ t.prio ∧ t.prio ≤ 63
  room : 1 ≤ t.room ∧ t.room ≤ 16
  lock : t.lock < 16
  period : 1 ≤ t.period ∧ t.period ≤ 1099511627776
  offset : 0 ≤ t.offset ∧ t.offset ≤ 1099511627776
  deadline : 1 ≤ t.deadline ∧ t.deadline ≤ t.period
  spor : t.kind = 2 → t.offset ≤ 0
  cost : 1 ≤ t.cost ∧ t.cost ≤ t.deadline
  late : ch ≤ t.deadline - t.cost
  held : 0 ≤ t.lock → 0 ≤ t.lo ∧ t.lo < t.hi ∧ t.hi ≤ t.cost
theorem inB_yes {n a b : Int} (h : ¬ inB n a b = false) : a ≤ n ∧ n ≤ b := inB_true.1 (by simpa using h)
theorem tkIn_of {t : Tk} {ch : Int} (h : tkWhy t ch = 0) : TkIn t ch := by
  unfold tkWhy at h
  split at h
  · cases h
  split at h
  · cases h
  split at h
  · cases h
  split at h
  · cases h
  split at h
  · cases h
  split at h
  · cases h
  split at h
  · cases h
  rename_i h1 h2 h3 h4 h5 h6 h7
  have a1 := inB_yes (fun x => h2 (.inl x))
  have a2 := inB_yes (fun x => h2 (.inr (.inl x)))
  have a3 : ¬ 16 ≤ t.lock := fun x => h2 (.inr (.inr x))
  have b1 := inB_yes (fun x => h3 (.inl x))
  have b2 := inB_yes (fun x => h3 (.inr (.inl x)))
  have b3 := inB_yes (fun x => h3 (.inr (.inr x)))
  have c1 := inB_yes (fun x => h6 (.inl x))
  have c2 : ¬ t.deadline - t.cost < ch := fun x => h6 (.inr x)
  refine ⟨by omega, a1, a2, by omega, b1, b2, ⟨b3.1, by omega⟩, fun hk => by omega, c1, by omega, fun hl => ?_⟩
  refine ⟨?_, ?_, ?_⟩
  · exact Int.not_lt.1 fun x => h7 ⟨hl, .inl x⟩
  · exact Int.not_le.1 fun x => h7 ⟨hl, .inr (.inl x)⟩
  · exact Int.not_lt.1 fun x => h7 ⟨hl, .inr (.inr x)⟩
structure LnIn (x : Ln) : Prop where
  many : 1 ≤ x.many ∧ x.many ≤ 64
  window : 1 ≤ x.window ∧ x.window ≤ 1099511627776
  top : 1 ≤ x.top ∧ x.top ≤ 1099511627776
  prio : 1 ≤ x.prio ∧ x.prio ≤ 15
  all : x.many * x.top ≤ 1099511627776
theorem lnIn_of {x : Ln} (h : lnWhy x = 0) : LnIn x := by
  unfold lnWhy at h
  split at h
  · rename_i h1
    split at h
    · cases h
    · rename_i h2
      unfold lnOk at h1
      simp only [Bool.and_eq_true, decide_eq_true_eq] at h1
      exact ⟨h1.1.1.1, h1.1.1.2, h1.1.2, h1.2, by omega⟩
  · cases h
structure ThIn (x : Th) : Prop where
  budget : 1 ≤ x.budget ∧ x.budget ≤ x.period
  period : x.period ≤ 1099511627776
  prio : 0 ≤ x.prio ∧ x.prio ≤ 63
  depth : 1 ≤ x.depth ∧ x.depth ≤ 64
theorem thIn_of {x : Th} (h : thWhy x = 0) : ThIn x := by
  unfold thWhy at h
  split at h
  · rename_i h1
    unfold thOk at h1
    simp only [Bool.and_eq_true, decide_eq_true_eq] at h1
    exact ⟨⟨h1.1.1.1, h1.1.1.2.1⟩, h1.1.1.2.2, h1.1.2, h1.2⟩
  · cases h
/-- A configuration that is right. -/
structure CfIn' (c : Cf) : Prop where
  mn : 1 ≤ c.mn
  mx : c.mx < 2147483648
  mm : 2 * c.mn ≤ c.mx
  sw : 0 ≤ c.sw ∧ c.sw ≤ 1099511627776
  nt : 1 ≤ c.ts.length ∧ c.ts.length ≤ 32
  nl : c.ls.length ≤ 64
  nh : c.hs.length = c.ls.length
  ts : ∀ t ∈ c.ts, TkIn t c.sw
  ls : ∀ x ∈ c.ls, LnIn x
  hs : ∀ x ∈ c.hs, ThIn x
  nodup : c.prios.Nodup
theorem cfIn_of {c : Cf} (h : c.why = 0) : CfIn' c := by
  have hz := first_zero h
  have h1 := hz ⟨1, 0, tmWhy c.mn c.mx⟩ (by simp [Cf.looks, Cf.heads])
  have h2 := hz ⟨2, 0, chWhy c.sw⟩ (by simp [Cf.looks, Cf.heads])
  have h3 := hz ⟨3, 0, mnWhy c.ts.length c.ls.length c.hs.length⟩ (by simp [Cf.looks, Cf.heads])
  dsimp only at h1 h2 h3
  unfold tmWhy at h1
  unfold chWhy at h2
  unfold mnWhy at h3
  split at h1
  · cases h1
  rename_i g1
  have g2 : inB c.sw 0 1099511627776 = true := by
    by_cases e : inB c.sw 0 1099511627776 = true
    · exact e
    · rw [if_neg e] at h2; cases h2
  have g3 : 1 ≤ c.ts.length ∧ c.ts.length ≤ 32 ∧ c.ls.length ≤ 64 ∧ c.hs.length = c.ls.length := by
    apply Classical.byContradiction
    intro e
    rw [if_neg e] at h3; cases h3
  refine ⟨by omega, by omega, by omega, inB_true.1 g2, ⟨g3.1, g3.2.1⟩, g3.2.2.1, g3.2.2.2, fun t ht => ?_, fun x hx => ?_, fun x hx => ?_, ?_⟩
  · obtain ⟨f, hf, e⟩ := numb_has (p := 4) (i := 0) (l := c.ts.map fun t => tkWhy t c.sw) (List.mem_map.2 ⟨t, ht, rfl⟩)
    exact tkIn_of (by rw [← e]; exact hz f (by unfold Cf.looks; simp [hf]))
  · obtain ⟨f, hf, e⟩ := numb_has (p := 5) (i := 0) (l := c.ls.map lnWhy) (List.mem_map.2 ⟨x, hx, rfl⟩)
    exact lnIn_of (by rw [← e]; exact hz f (by unfold Cf.looks; simp [hf]))
  · obtain ⟨f, hf, e⟩ := numb_has (p := 6) (i := 0) (l := c.hs.map thWhy) (List.mem_map.2 ⟨x, hx, rfl⟩)
    exact thIn_of (by rw [← e]; exact hz f (by unfold Cf.looks; simp [hf]))
  · refine (prWhys_zero (s := []) fun y hy => ?_).1
    obtain ⟨f, hf, e⟩ := numb_has (p := 7) (i := 0) hy
    rw [← e]
    exact hz f (by unfold Cf.looks; simp [hf])
theorem getD_mem {α : Type} {l : List α} {k : Nat} {d : α} (h : k < l.length) : l.getD k d ∈ l := by
  have e : l.getD k d = l[k] := by simp [List.getD, h]
  rw [e]; exact List.getElem_mem h
end Go.Proofs.Ytgampofpabllbaa

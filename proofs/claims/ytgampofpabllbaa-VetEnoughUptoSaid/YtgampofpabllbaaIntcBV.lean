/- Package intc: the walk of Check: OK just where the controller is right. Conditions: the argument's lists read as they are said to. -/
import Derived.Test.YtgampofpabllbaaIntcAV
namespace Go.Proofs.Ytgampofpabllbaa
open Go.RowKit

/-- The fields of a controller's value. -/
def icv (d : IC) (pA : Option Addr) (pc : Nat) (sA : Option Addr) (sc : Nat) : Value :=
  .agg #[.int .u64 d.p, .int .u64 d.e, .int .u64 d.r, .int .u64 d.g, .slice pA d.prio.length pc, .int .i64 d.t, .slice sA d.stack.length sc]

theorem lines_any (p e r g n : Nat) (A : Option Addr) (c : Nat) (t : Int) (sv : Value) (w : World) (hn : n ≤ 549755813888) :
    Calls Try.prog 26 #[.agg #[.int .u64 p, .int .u64 e, .int .u64 r, .int .u64 g, .slice A n c, .int .i64 t, sv]] w fun e w' => e = .returned (.int .u64 ((mk fun i => decide (i < n) : Nat) : Int)) ∧ Below w.heap.size w w' := by
  have f1 := Lib.hid (fun w => between_any 0 ((n : Int) - 1) w (by omega) (by omega))
  have hm : (mk fun i => decide ((0 : Int) ≤ i) && decide ((i : Int) ≤ (n : Int) - 1)) = mk fun i => decide (i < n) := by
    apply mk_congr; intro i _; rw [Bool.eq_iff_iff]; simp; omega
  rw [hm] at f1
  clear hm
  go_enter Try.func26, Try.ntmps26
  go_wp2_with fail
  refine (f1.out _).mono ?_
  rintro e' w' ⟨rfl, rfl⟩
  go_wp2_with fail
  go_ret
  exact ⟨rfl, (Below.refl _ _).alloc (Nat.le_refl _) _⟩

theorem sets_bit {d : IC} (hf : d.Fits) {t : Bool}
    (h : (bits .andNot .u64 (bits .or .u64 (bits .or .u64 (bits .or .u64 (d.p : Int) d.e) d.r) d.g) ((mk fun i => decide (i < d.prio.length) : Nat) : Int) != 0) = t) :
    (t = true ∧ ∃ i, d.prio.length ≤ i ∧ i < 64 ∧ (d.p.testBit i = true ∨ d.e.testBit i = true ∨ d.r.testBit i = true ∨ d.g.testBit i = true)) ∨
    (t = false ∧ ∀ i, d.prio.length ≤ i → i < 64 → d.p.testBit i = false ∧ d.e.testBit i = false ∧ d.r.testBit i = false ∧ d.g.testBit i = false) := by
  have h1 : d.p ||| d.e < 2 ^ 64 := Nat.or_lt_two_pow hf.p hf.e
  have h2 : d.p ||| d.e ||| d.r < 2 ^ 64 := Nat.or_lt_two_pow h1 hf.r
  have h3 : d.p ||| d.e ||| d.r ||| d.g < 2 ^ 64 := Nat.or_lt_two_pow h2 hf.g
  rw [u64_or_nat _ _ hf.p hf.e, u64_or_nat _ _ h1 hf.r, u64_or_nat _ _ h2 hf.g, u64_andNot_nat _ _ h3 (mk_lt _)] at h
  have key : ∀ i, ((d.p ||| d.e ||| d.r ||| d.g) &&& (18446744073709551615 - mk fun i => decide (i < d.prio.length))).testBit i = (decide (i < 64) && decide (d.prio.length ≤ i) && (d.p.testBit i || d.e.testBit i || d.r.testBit i || d.g.testBit i)) := by
    intro i
    rw [Nat.testBit_and]
    by_cases hi : i < 64
    · rw [compl_bit (mk_lt _) i hi, mk_bit, Nat.testBit_or, Nat.testBit_or, Nat.testBit_or]
      by_cases hl : i < d.prio.length
      · have : ¬ d.prio.length ≤ i := by omega
        simp [hi, hl, this]
      · have : d.prio.length ≤ i := by omega
        simp [hi, hl, this]
    · rw [bit_high h3 hi]; simp [hi]
  generalize hx : (d.p ||| d.e ||| d.r ||| d.g) &&& (18446744073709551615 - mk fun i => decide (i < d.prio.length)) = x at *
  by_cases h0 : x = 0
  · subst h0
    right
    refine ⟨by simpa using h.symm, fun i h4 h5 => ?_⟩
    have := key i
    simp [h4, h5] at this
    exact ⟨this.1.1.1, this.1.1.2, this.1.2, this.2⟩
  · left
    obtain ⟨i, hi⟩ := Nat.exists_testBit_of_ne_zero h0
    rw [key i] at hi
    simp at hi
    refine ⟨by rw [← h]; simp; omega, i, hi.1.2, hi.1.1, ?_⟩
    have := hi.2
    simp only [or_assoc] at this
    exact this

theorem rg_bit {r g : Nat} (hr : r < 18446744073709551616) (hg : g < 18446744073709551616) {t : Bool} (h : (bits .and .u64 (r : Int) (g : Int) != 0) = t) :
    (t = true ∧ ∃ i, i < 64 ∧ r.testBit i = true ∧ g.testBit i = true) ∨ (t = false ∧ ∀ i, i < 64 → r.testBit i = true → g.testBit i = false) := by
  rw [u64_and_nat _ _ hr hg] at h
  by_cases h0 : r &&& g = 0
  · right
    rw [h0] at h
    refine ⟨by simpa using h.symm, fun i _ h1 => ?_⟩
    have : (r &&& g).testBit i = false := by rw [h0]; simp
    rw [Nat.testBit_and, h1] at this
    simpa using this
  · left
    obtain ⟨i, hi⟩ := Nat.exists_testBit_of_ne_zero h0
    rw [Nat.testBit_and] at hi
    simp at hi
    refine ⟨by rw [← h]; simp; omega, i, ?_, hi.1, hi.2⟩
    apply Classical.byContradiction
    intro hn
    rw [bit_high hr hn] at hi
    simp at hi

set_option maxHeartbeats 1000000 in
theorem check_any (d : IC) (hf : d.Fits) (pA : Option Addr) (pc : Nat) (sA : Option Addr) (sc : Nat) (w : World) (hp : Rd w pA (d.prio.map (.int .i64))) (hs : Rd w sA (d.stack.map (.int .i64))) :
    Calls Try.prog 27 #[icv d pA pc sA sc] w fun e w' => (∃ z : Int, e = .returned (.int .i64 z) ∧ ((d.ok ∧ z = 0) ∨ (¬ d.ok ∧ z = 2))) ∧ Below w.heap.size w w' := by
  unfold icv
  obtain ⟨t1, ht1⟩ : ∃ t, (t = true ∧ ∃ i, i < d.prio.length ∧ oddP (d.prio.getD i 0) = true) ∨ (t = false ∧ ∀ i, i < d.prio.length → oddP (d.prio.getD i 0) = false) := by
    by_cases h : ∃ i, i < d.prio.length ∧ oddP (d.prio.getD i 0) = true
    · exact ⟨true, .inl ⟨rfl, h⟩⟩
    · refine ⟨false, .inr ⟨rfl, fun i hi => ?_⟩⟩
      cases h' : oddP (d.prio.getD i 0) with
      | false => rfl
      | true => exact absurd ⟨i, hi, h'⟩ h
  generalize ht2 : (bits .andNot .u64 (bits .or .u64 (bits .or .u64 (bits .or .u64 (d.p : Int) d.e) d.r) d.g) ((mk fun i => decide (i < d.prio.length) : Nat) : Int) != 0) = t2
  generalize ht3 : (bits .and .u64 (d.r : Int) (d.g : Int) != 0) = t3
  have H2 := Lib.hid (sets_bit hf ht2)
  have H3 := Lib.hid (rg_bit hf.r hf.g ht3)
  have H1 := Lib.hid ht1
  have HK : Hid (d.ok → t1 = false ∧ t2 = false ∧ t3 = false ∧ 1 ≤ d.prio.length ∧ d.prio.length ≤ 64 ∧ 0 ≤ d.t ∧ d.t ≤ 15) := by
    intro h
    refine ⟨?_, ?_, ?_, h.len1, h.len2, h.t0, h.t1⟩
    · rcases ht1 with ⟨_, i, hi, ho⟩ | ⟨h', _⟩
      · rw [h.prio i hi] at ho; cases ho
      · exact h'
    · rcases H2.out with ⟨_, i, h1, h2, h3⟩ | ⟨h', _⟩
      · obtain ⟨a, b, c, e⟩ := h.sets i h1 h2
        rw [a, b, c, e] at h3; simp at h3
      · exact h'
    · rcases H3.out with ⟨_, i, h1, h2, h3⟩ | ⟨h', _⟩
      · rw [h.rg i h1 h2] at h3; cases h3
      · exact h'
  have hpl := hf.prio
  have hsl := hf.stack
  have f1 := Lib.hid (fun w hr => containsOdd_yes pA d.prio pc w hpl hr t1 ht1)
  have f2 := Lib.hid (fun w => lines_any d.p d.e d.r d.g d.prio.length pA pc d.t (.slice sA d.stack.length sc) w hpl)
  have Hp := Lib.hid hp; clear hp
  have Hs := Lib.hid hs; clear hs
  clear ht1
  go_enter Try.func27, Try.ntmps27
  go_wp2_with (first | (go_at_call 24; refine (f1.out _ (Hp.out.alloc _)).mono ?_; rintro e w' ⟨rfl, rfl⟩) | (go_at_call 26; refine (f2.out _).mono ?_; rintro e w1 ⟨rfl, hb⟩; obtain ⟨hc, hf⟩ := bcell hb))
  all_goals first
    | (go_ret; refine ⟨⟨2, rfl, .inr ⟨fun h => ?_, rfl⟩⟩, by first | exact (Below.refl _ _).alloc (Nat.le_refl _) _ | exact ((Below.refl _ _).alloc (Nat.le_refl _) _).trans (hb.mono (by simp))⟩; obtain ⟨rfl, rfl, rfl, l1, l2, l3, l4⟩ := HK.out h; first | omega | (simp_all; done) | (simp_all; omega))
    | skip
  have hlen : 1 ≤ d.prio.length := by
    cases hx : d.prio with
    | nil => exact absurd hx (by assumption)
    | cons a b => simp
  have hlen2 : (d.prio.length : Int) ≤ 64 := by assumption
  have hT : 0 ≤ d.t ∧ d.t ≤ 15 := by assumption
  have ht1 : t1 = false := by have h : (((d.prio.length : Int) == 0) = false ∧ (d.prio.length : Int) ≤ 64) ∧ t1 = false := by assumption
                              exact h.2
  have ht2 : ¬ t2 = true := by assumption
  have ht3 : ¬ t3 = true := by assumption
  have HO : Hid ((∀ j, j < d.stack.length → d.good j) → d.ok) := by
    intro hg
    refine ⟨hlen, by omega, ?_, ?_, ?_, hT.1, hT.2, hg⟩
    · rcases H1.out with ⟨h, _⟩ | ⟨_, h⟩
      · rw [ht1] at h; cases h
      · exact h
    · rcases H2.out with ⟨h, _⟩ | ⟨_, h⟩
      · exact absurd h ht2
      · exact h
    · rcases H3.out with ⟨h, _⟩ | ⟨_, h⟩
      · exact absurd h ht3
      · exact h
  have hB : Below w.heap.size w w1 := ((Below.refl _ _).alloc (Nat.le_refl _) _).trans (hb.mono (by simp))
  have Hp1 := Lib.hid (Hp.out.below hB)
  have Hs1 := Lib.hid (Hs.out.below hB)
  clear hlen hT ht1 ht2 ht3 H1 H2 H3 HK
  go_loop [5, 63] (fun a i => ∃ k : Nat, k ≤ d.stack.length ∧ i = .int .i64 k ∧ a = .int .i64 (d.ahead k) ∧ Hid (∀ j, j < k → d.good j)) (fun _ i => d.stack.length - (intOf i).toNat)
  case atStart => exact ⟨0, by omega, rfl, rfl, fun j hj => absurd hj (Nat.not_lt_zero _)⟩
  case round =>
    obtain ⟨k, hk, rfl, rfl, hj⟩ := hrel
    by_cases hlt : k < d.stack.length
    · obtain ⟨a, rfl, h1⟩ := Hs1.out.int hlt
      have Hg : Hid (d.good k ↔ 0 ≤ d.stack.getD k 0 ∧ d.stack.getD k 0 < d.prio.length ∧ d.ahead k < d.prio.getD (d.stack.getD k 0).toNat 0) := Iff.rfl
      have Ha : Hid (d.ahead (k + 1) = d.prio.getD (d.stack.getD k 0).toNat 0) := rfl
      generalize d.stack.getD k 0 = n at *
      generalize d.ahead k = ah at *
      have bad : ¬ d.good k → ¬ d.ok := fun h h' => h (h'.stack k hlt)
      have Bad := Lib.hid bad; clear bad
      by_cases h0 : 0 ≤ n
      · by_cases h2 : n < d.prio.length
        · obtain ⟨m, rfl⟩ := Int.eq_ofNat_of_zero_le h0
          obtain ⟨b, rfl, hm⟩ := Hp1.out.int (i := m) (by omega)
          rw [Int.toNat_natCast] at Hg Ha
          generalize hq : d.prio.getD m 0 = q at *
          have Hq := Lib.hid hq; clear hq
          by_cases h3 : ah < q
          · go_wp2
            go_round
            case rel =>
              refine ⟨k + 1, by omega, by go_num, by rw [Ha.out], fun j hj' => ?_⟩
              by_cases he : j = k
              · subst he; exact Hg.out.2 ⟨h0, h2, h3⟩
              · exact hj.out j (by omega)
            case measure => simp [intOf]; omega
          · go_wp2
            go_ret
            exact ⟨⟨2, rfl, .inr ⟨Bad.out fun h => by have := (Hg.out.1 h).2.2; omega, rfl⟩⟩, hB⟩
        · go_wp2
          go_ret
          exact ⟨⟨2, rfl, .inr ⟨Bad.out fun h => by have := (Hg.out.1 h).2.1; omega, rfl⟩⟩, hB⟩
      · go_wp2
        go_ret
        exact ⟨⟨2, rfl, .inr ⟨Bad.out fun h => by have := (Hg.out.1 h).1; omega, rfl⟩⟩, hB⟩
    · obtain rfl : k = d.stack.length := by omega
      go_wp2
      go_ret
      exact ⟨⟨0, rfl, .inl ⟨HO.out hj.out, rfl⟩⟩, hB⟩
end Go.Proofs.Ytgampofpabllbaa

/- Package intc: what is right of a controller, and the walks of slices.Clone, of Check and of what it calls. Conditions: sets below 2^64, lists of at most 2^40 numbers, as the arguments read. -/
import Derived.Test.YtpncbkodhojicaaDoorEachI
import Derived.RangeFuncBox
namespace Go.Proofs.YtpncbkodhojicaaDoor
open Go.RowKit

/-- A controller's data. -/
structure IC where
  p : Nat
  e : Nat
  r : Nat
  g : Nat
  prio : List Int
  t : Int
  stack : List Int

/-- Words below 2^64, lists that can lie in memory. -/
structure IC.Fits (d : IC) : Prop where
  p : d.p < 18446744073709551616
  e : d.e < 18446744073709551616
  r : d.r < 18446744073709551616
  g : d.g < 18446744073709551616
  prio : d.prio.length ≤ 549755813888
  stack : d.stack.length ≤ 549755813888

def IC.pr (d : IC) (n : Int) : Int := d.prio.getD n.toNat 0
def IC.st (d : IC) (i : Nat) : Int := d.stack.getD i 0
/-- what the i-th one that is served was to be more urgent than -/
def IC.ahead (d : IC) : Nat → Int
  | 0 => 0
  | i + 1 => d.pr (d.st i)
def IC.good (d : IC) (i : Nat) : Prop := 0 ≤ d.st i ∧ d.st i < d.prio.length ∧ d.ahead i < d.pr (d.st i)
def oddP (p : Int) : Bool := decide (p < 1) || decide (15 < p)
/-- A right controller. -/
structure IC.ok (d : IC) : Prop where
  len1 : 1 ≤ d.prio.length
  len2 : d.prio.length ≤ 64
  prio : ∀ i, i < d.prio.length → oddP (d.prio.getD i 0) = false
  sets : ∀ i, d.prio.length ≤ i → i < 64 → d.p.testBit i = false ∧ d.e.testBit i = false ∧ d.r.testBit i = false ∧ d.g.testBit i = false
  rg : ∀ i, i < 64 → d.r.testBit i = true → d.g.testBit i = false
  t0 : 0 ≤ d.t
  t1 : d.t ≤ 15
  stack : ∀ i, i < d.stack.length → d.good i

theorem odd_any (p : Int) (w : World) : Calls Tryd.prog 63 #[.int .i64 p] w fun e w' => e = .returned (.bool (oddP p)) ∧ w = w' := by
  by_cases h : p < 1
  · go_enter Tryd.func63, Tryd.ntmps63
    go_wp2
    go_ret
    exact ⟨ret_bool (by simp [oddP, h]), rfl⟩
  · go_enter Tryd.func63, Tryd.ntmps63
    go_wp2
    go_ret
    exact ⟨ret_bool (by simp [oddP]; omega), rfl⟩

theorem indexOdd_any (A : Option Addr) (xs : List Int) (c : Nat) (w : World) (hl : xs.length ≤ 549755813888) (hr : Rd w A (xs.map (.int .i64))) :
    Calls Tryd.prog 69 #[.slice A xs.length c, .func (.func 63) #[] #[]] w fun e w' => (∃ z : Int, e = .returned (.int .i64 z) ∧ ((0 ≤ z ∧ ∃ i, i < xs.length ∧ oddP (xs.getD i 0) = true) ∨ (z = -1 ∧ ∀ i, i < xs.length → oddP (xs.getD i 0) = false))) ∧ w = w' := by
  have Hr := Lib.hid hr; clear hr
  go_enter Tryd.func69, Tryd.ntmps69
  go_wp2
  go_loop [8] (fun i => ∃ k : Nat, k ≤ xs.length ∧ i = .int .i64 k ∧ Hid (∀ j, j < k → oddP (xs.getD j 0) = false)) (fun i => xs.length - (intOf i).toNat)
  case atStart => exact ⟨0, by omega, rfl, fun j hj => absurd hj (Nat.not_lt_zero _)⟩
  case round =>
    obtain ⟨k, hk, rfl, hj⟩ := hrel
    by_cases hlt : k < xs.length
    · obtain ⟨a, rfl, h1⟩ := Hr.out.int hlt
      have f1 := Lib.hid (fun w => odd_any (xs.getD k 0) w)
      have HX : Hid (∀ t, oddP (xs.getD k 0) = t → oddP (xs.getD k 0) = t) := fun t h => h
      generalize ho : oddP (xs.getD k 0) = t at f1
      have Ho := Lib.hid ho; clear ho HX
      generalize hx : xs.getD k 0 = x at *
      have Hx := Lib.hid hx; clear hx
      cases t with
      | true =>
        go_wp2_with (refine (f1.out _).mono ?_; rintro e w' ⟨rfl, rfl⟩)
        go_ret
        exact ⟨⟨k, rfl, .inl ⟨by omega, k, hlt, by rw [Hx.out]; exact Ho.out⟩⟩, rfl⟩
      | false =>
        go_wp2_with (refine (f1.out _).mono ?_; rintro e w' ⟨rfl, rfl⟩)
        go_round
        case rel =>
          refine ⟨k + 1, by omega, by go_num, fun j hj' => ?_⟩
          by_cases he : j = k
          · subst he; rw [Hx.out]; exact Ho.out
          · exact hj.out j (by omega)
        case measure => simp [intOf]; omega
    · obtain rfl : k = xs.length := by omega
      go_wp2
      go_ret
      exact ⟨⟨-1, rfl, .inr ⟨rfl, hj.out⟩⟩, rfl⟩

theorem containsOdd_yes (A : Option Addr) (xs : List Int) (c : Nat) (w : World) (hl : xs.length ≤ 549755813888) (hr : Rd w A (xs.map (.int .i64))) (t : Bool)
    (ht : (t = true ∧ ∃ i, i < xs.length ∧ oddP (xs.getD i 0) = true) ∨ (t = false ∧ ∀ i, i < xs.length → oddP (xs.getD i 0) = false)) :
    Calls Tryd.prog 64 #[.slice A xs.length c, .func (.func 63) #[] #[]] w fun e w' => e = .returned (.bool t) ∧ w = w' := by
  have f1 := Lib.hid (fun w hr => indexOdd_any A xs c w hl hr)
  have Hr := Lib.hid hr; clear hr
  have Ht := Lib.hid ht; clear ht
  go_enter Tryd.func64, Tryd.ntmps64
  go_wp2_with fail
  refine (f1.out _ Hr.out).mono ?_
  rintro e w' ⟨⟨z, rfl, hz⟩, rfl⟩
  have Hz := Lib.hid hz; clear hz
  go_wp2_with fail
  go_ret
  refine ⟨ret_bool ?_, rfl⟩
  rcases Ht.out with ⟨rfl, i, hi, ho⟩ | ⟨rfl, h⟩
  · rcases Hz.out with ⟨h0, _⟩ | ⟨_, h⟩
    · simp [h0]
    · rw [h i hi] at ho; cases ho
  · rcases Hz.out with ⟨_, i, hi, ho⟩ | ⟨rfl, _⟩
    · rw [h i hi] at ho; cases ho
    · rfl

theorem clone_vs (A : Option Addr) (vs : List Value) (c : Nat) (w : World) (hl : vs.length ≤ 549755813888) (hr : Rd w A vs) (h1 : ∀ u ∈ vs, u.oneCell' = true) :
    Calls Tryd.prog 45 #[.slice A vs.length c] w fun e w' => ∃ A' c', e = .returned (.slice A' vs.length c') ∧ w'.ownsRow w.heap.size 3 1 (.slice A' vs.length c') vs.length vs ∧ Below w.heap.size w w' := by
  have q : ∀ (w : World) (a : Option Addr) (n c n' c' : Nat), (binOp .eql 53 (.slice a n c) (.slice none n' c')).run Tryd.prog w = .ok (.bool a.isNone) w := fun w a n c n' c' => Lib.run_eql_slice_nil w _ _ a n c n' c' Tryd.underlying53
  rcases A with _ | ad
  · have hx : vs = [] := by
      cases vs with
      | nil => rfl
      | cons y ys => obtain ⟨a', ha, _⟩ := hr 0 _ rfl; cases ha
    subst hx
    go_enter Tryd.func45, Tryd.ntmps45
    go_wp2
    go_ret
    exact ⟨none, 0, rfl, own_nil _ _ _, Below.refl _ _⟩
  · have Hr := Lib.hid hr; clear hr
    have Hone := Lib.hid h1; clear h1
    go_enter Tryd.func45, Tryd.ntmps45
    go_wp2_with (at_builtin; refine wp_appN rfl _ _ sl_int (by decide) rfl (own_empty w _ (Nat.le_refl _)) rfl (by simp) (some ad) c vs rfl (Hr.out.alloc _) Hone.out (by omega) ?_; intro A' c' w1 hown' hB'; rw [List.nil_append, Nat.zero_add] at hown'; rw [Nat.zero_add])
    go_ret
    exact ⟨A', c', rfl, hown', ((Below.refl _ _).alloc (Nat.le_refl _) _).trans hB'⟩

/-- slices.Clone at []int: a slice of its own. -/
theorem clone_any (A : Option Addr) (xs : List Int) (c : Nat) (w : World) (hl : xs.length ≤ 549755813888) (hr : Rd w A (xs.map (.int .i64))) :
    Calls Tryd.prog 45 #[.slice A xs.length c] w fun e w' => ∃ A' c', e = .returned (.slice A' xs.length c') ∧ w'.ownsRow w.heap.size 3 1 (.slice A' xs.length c') xs.length (xs.map (.int .i64)) ∧ Below w.heap.size w w' := by
  have h := clone_vs A (xs.map (.int .i64)) c w (by simpa using hl) hr (ints_one xs)
  simpa only [List.length_map] using h
end Go.Proofs.YtpncbkodhojicaaDoor
/- Package intc: the walk of Check: OK just where the controller is right. Conditions: the argument's lists read as they are said to. -/
namespace Go.Proofs.YtpncbkodhojicaaDoor
open Go.RowKit

/-- The fields of a controller's value. -/
def icv (d : IC) (pA : Option Addr) (pc : Nat) (sA : Option Addr) (sc : Nat) : Value :=
  .agg #[.int .u64 d.p, .int .u64 d.e, .int .u64 d.r, .int .u64 d.g, .slice pA d.prio.length pc, .int .i64 d.t, .slice sA d.stack.length sc]

theorem lines_any (p e r g n : Nat) (A : Option Addr) (c : Nat) (t : Int) (sv : Value) (w : World) (hn : n ≤ 549755813888) :
    Calls Tryd.prog 46 #[.agg #[.int .u64 p, .int .u64 e, .int .u64 r, .int .u64 g, .slice A n c, .int .i64 t, sv]] w fun e w' => e = .returned (.int .u64 ((mk fun i => decide (i < n) : Nat) : Int)) ∧ Below w.heap.size w w' := by
  have f1 := Lib.hid (fun w => between_any 0 ((n : Int) - 1) w (by omega) (by omega))
  have hm : (mk fun i => decide ((0 : Int) ≤ i) && decide ((i : Int) ≤ (n : Int) - 1)) = mk fun i => decide (i < n) := by
    apply mk_congr; intro i _; rw [Bool.eq_iff_iff]; simp; omega
  rw [hm] at f1
  clear hm
  go_enter Tryd.func46, Tryd.ntmps46
  go_wp2_with fail
  refine (f1.out _).mono ?_
  rintro e' w' ⟨rfl, rfl⟩
  go_wp2_with fail
  go_ret
  exact ⟨rfl, (Below.refl _ _).alloc (Nat.le_refl _) _⟩

theorem sets_bit {d : IC} (hf : d.Fits) {t : Bool}
    (h : (bits .andNot .u64 (bits .or .u64 (bits .or .u64 (bits .or .u64 (d.p : Int) d.e) d.r) d.g) ((mk fun i => decide (i < d.prio.length) : Nat) : Int) != 0) = t) :
    (t = true ∧ ∃ i, d.prio.length ≤ i ∧ i < 64 ∧ (d.p.testBit i = true ∨ d.e.testBit i = true ∨ d.r.testBit i = true ∨ d.g.testBit i = true)) ∨
    (t = false ∧ ∀ i, d.prio.length ≤ i → i < 64 → d.p.testBit i = false ∧ d.e.testBit i = false ∧ d.r.testBit i = false ∧ d.g.testBit i = false) := by
  have h1 : d.p ||| d.e < 2 ^ 64 := Nat.or_lt_two_pow hf.p hf.e
  have h2 : d.p ||| d.e ||| d.r < 2 ^ 64 := Nat.or_lt_two_pow h1 hf.r
  have h3 : d.p ||| d.e ||| d.r ||| d.g < 2 ^ 64 := Nat.or_lt_two_pow h2 hf.g
  rw [u64_or_nat _ _ hf.p hf.e, u64_or_nat _ _ h1 hf.r, u64_or_nat _ _ h2 hf.g, u64_andNot_nat _ _ h3 (mk_lt _)] at h
  have key : ∀ i, ((d.p ||| d.e ||| d.r ||| d.g) &&& (18446744073709551615 - mk fun i => decide (i < d.prio.length))).testBit i = (decide (i < 64) && decide (d.prio.length ≤ i) && (d.p.testBit i || d.e.testBit i || d.r.testBit i || d.g.testBit i)) := by
    intro i
    rw [Nat.testBit_and]
    by_cases hi : i < 64
    · rw [compl_bit (mk_lt _) i hi, mk_bit, Nat.testBit_or, Nat.testBit_or, Nat.testBit_or]
      by_cases hl : i < d.prio.length
      · have : ¬ d.prio.length ≤ i := by omega
        simp [hi, hl, this]
      · have : d.prio.length ≤ i := by omega
        simp [hi, hl, this]
    · rw [bit_high h3 hi]; simp [hi]
  generalize hx : (d.p ||| d.e ||| d.r ||| d.g) &&& (18446744073709551615 - mk fun i => decide (i < d.prio.length)) = x at *
  by_cases h0 : x = 0
  · subst h0
    right
    refine ⟨by simpa using h.symm, fun i h4 h5 => ?_⟩
    have := key i
    simp [h4, h5] at this
    exact ⟨this.1.1.1, this.1.1.2, this.1.2, this.2⟩
  · left
    obtain ⟨i, hi⟩ := Nat.exists_testBit_of_ne_zero h0
    rw [key i] at hi
    simp at hi
    refine ⟨by rw [← h]; simp; omega, i, hi.1.2, hi.1.1, ?_⟩
    have := hi.2
    simp only [or_assoc] at this
    exact this

theorem rg_bit {r g : Nat} (hr : r < 18446744073709551616) (hg : g < 18446744073709551616) {t : Bool} (h : (bits .and .u64 (r : Int) (g : Int) != 0) = t) :
    (t = true ∧ ∃ i, i < 64 ∧ r.testBit i = true ∧ g.testBit i = true) ∨ (t = false ∧ ∀ i, i < 64 → r.testBit i = true → g.testBit i = false) := by
  rw [u64_and_nat _ _ hr hg] at h
  by_cases h0 : r &&& g = 0
  · right
    rw [h0] at h
    refine ⟨by simpa using h.symm, fun i _ h1 => ?_⟩
    have : (r &&& g).testBit i = false := by rw [h0]; simp
    rw [Nat.testBit_and, h1] at this
    simpa using this
  · left
    obtain ⟨i, hi⟩ := Nat.exists_testBit_of_ne_zero h0
    rw [Nat.testBit_and] at hi
    simp at hi
    refine ⟨by rw [← h]; simp; omega, i, ?_, hi.1, hi.2⟩
    apply Classical.byContradiction
    intro hn
    rw [bit_high hr hn] at hi
    simp at hi

set_option maxHeartbeats 1000000 in
theorem check_any (d : IC) (hf : d.Fits) (pA : Option Addr) (pc : Nat) (sA : Option Addr) (sc : Nat) (w : World) (hp : Rd w pA (d.prio.map (.int .i64))) (hs : Rd w sA (d.stack.map (.int .i64))) :
    Calls Tryd.prog 47 #[icv d pA pc sA sc] w fun e w' => (∃ z : Int, e = .returned (.int .i64 z) ∧ ((d.ok ∧ z = 0) ∨ (¬ d.ok ∧ z = 2))) ∧ Below w.heap.size w w' := by
  unfold icv
  obtain ⟨t1, ht1⟩ : ∃ t, (t = true ∧ ∃ i, i < d.prio.length ∧ oddP (d.prio.getD i 0) = true) ∨ (t = false ∧ ∀ i, i < d.prio.length → oddP (d.prio.getD i 0) = false) := by
    by_cases h : ∃ i, i < d.prio.length ∧ oddP (d.prio.getD i 0) = true
    · exact ⟨true, .inl ⟨rfl, h⟩⟩
    · refine ⟨false, .inr ⟨rfl, fun i hi => ?_⟩⟩
      cases h' : oddP (d.prio.getD i 0) with
      | false => rfl
      | true => exact absurd ⟨i, hi, h'⟩ h
  generalize ht2 : (bits .andNot .u64 (bits .or .u64 (bits .or .u64 (bits .or .u64 (d.p : Int) d.e) d.r) d.g) ((mk fun i => decide (i < d.prio.length) : Nat) : Int) != 0) = t2
  generalize ht3 : (bits .and .u64 (d.r : Int) (d.g : Int) != 0) = t3
  have H2 := Lib.hid (sets_bit hf ht2)
  have H3 := Lib.hid (rg_bit hf.r hf.g ht3)
  have H1 := Lib.hid ht1
  have HK : Hid (d.ok → t1 = false ∧ t2 = false ∧ t3 = false ∧ 1 ≤ d.prio.length ∧ d.prio.length ≤ 64 ∧ 0 ≤ d.t ∧ d.t ≤ 15) := by
    intro h
    refine ⟨?_, ?_, ?_, h.len1, h.len2, h.t0, h.t1⟩
    · rcases ht1 with ⟨_, i, hi, ho⟩ | ⟨h', _⟩
      · rw [h.prio i hi] at ho; cases ho
      · exact h'
    · rcases H2.out with ⟨_, i, h1, h2, h3⟩ | ⟨h', _⟩
      · obtain ⟨a, b, c, e⟩ := h.sets i h1 h2
        rw [a, b, c, e] at h3; simp at h3
      · exact h'
    · rcases H3.out with ⟨_, i, h1, h2, h3⟩ | ⟨h', _⟩
      · rw [h.rg i h1 h2] at h3; cases h3
      · exact h'
  have hpl := hf.prio
  have hsl := hf.stack
  have f1 := Lib.hid (fun w hr => containsOdd_yes pA d.prio pc w hpl hr t1 ht1)
  have f2 := Lib.hid (fun w => lines_any d.p d.e d.r d.g d.prio.length pA pc d.t (.slice sA d.stack.length sc) w hpl)
  have Hp := Lib.hid hp; clear hp
  have Hs := Lib.hid hs; clear hs
  clear ht1
  go_enter Tryd.func47, Tryd.ntmps47
  go_wp2_with (first | (go_at_call 64; refine (f1.out _ (Hp.out.alloc _)).mono ?_; rintro e w' ⟨rfl, rfl⟩) | (go_at_call 46; refine (f2.out _).mono ?_; rintro e w1 ⟨rfl, hb⟩; obtain ⟨hc, hf⟩ := bcell hb))
  all_goals first
    | (go_ret; refine ⟨⟨2, rfl, .inr ⟨fun h => ?_, rfl⟩⟩, by first | exact (Below.refl _ _).alloc (Nat.le_refl _) _ | exact ((Below.refl _ _).alloc (Nat.le_refl _) _).trans (hb.mono (by simp))⟩; obtain ⟨rfl, rfl, rfl, l1, l2, l3, l4⟩ := HK.out h; first | omega | (simp_all; done) | (simp_all; omega))
    | skip
  have hlen : 1 ≤ d.prio.length := by
    cases hx : d.prio with
    | nil => exact absurd hx (by assumption)
    | cons a b => simp
  have hlen2 : (d.prio.length : Int) ≤ 64 := by assumption
  have hT : 0 ≤ d.t ∧ d.t ≤ 15 := by assumption
  have ht1 : t1 = false := by have h : (((d.prio.length : Int) == 0) = false ∧ (d.prio.length : Int) ≤ 64) ∧ t1 = false := by assumption
                              exact h.2
  have ht2 : ¬ t2 = true := by assumption
  have ht3 : ¬ t3 = true := by assumption
  have HO : Hid ((∀ j, j < d.stack.length → d.good j) → d.ok) := by
    intro hg
    refine ⟨hlen, by omega, ?_, ?_, ?_, hT.1, hT.2, hg⟩
    · rcases H1.out with ⟨h, _⟩ | ⟨_, h⟩
      · rw [ht1] at h; cases h
      · exact h
    · rcases H2.out with ⟨h, _⟩ | ⟨_, h⟩
      · exact absurd h ht2
      · exact h
    · rcases H3.out with ⟨h, _⟩ | ⟨_, h⟩
      · exact absurd h ht3
      · exact h
  have hB : Below w.heap.size w w1 := ((Below.refl _ _).alloc (Nat.le_refl _) _).trans (hb.mono (by simp))
  have Hp1 := Lib.hid (Hp.out.below hB)
  have Hs1 := Lib.hid (Hs.out.below hB)
  clear hlen hT ht1 ht2 ht3 H1 H2 H3 HK
  go_loop [5, 63] (fun a i => ∃ k : Nat, k ≤ d.stack.length ∧ i = .int .i64 k ∧ a = .int .i64 (d.ahead k) ∧ Hid (∀ j, j < k → d.good j)) (fun _ i => d.stack.length - (intOf i).toNat)
  case atStart => exact ⟨0, by omega, rfl, rfl, fun j hj => absurd hj (Nat.not_lt_zero _)⟩
  case round =>
    obtain ⟨k, hk, rfl, rfl, hj⟩ := hrel
    by_cases hlt : k < d.stack.length
    · obtain ⟨a, rfl, h1⟩ := Hs1.out.int hlt
      have Hg : Hid (d.good k ↔ 0 ≤ d.stack.getD k 0 ∧ d.stack.getD k 0 < d.prio.length ∧ d.ahead k < d.prio.getD (d.stack.getD k 0).toNat 0) := Iff.rfl
      have Ha : Hid (d.ahead (k + 1) = d.prio.getD (d.stack.getD k 0).toNat 0) := rfl
      generalize d.stack.getD k 0 = n at *
      generalize d.ahead k = ah at *
      have bad : ¬ d.good k → ¬ d.ok := fun h h' => h (h'.stack k hlt)
      have Bad := Lib.hid bad; clear bad
      by_cases h0 : 0 ≤ n
      · by_cases h2 : n < d.prio.length
        · obtain ⟨m, rfl⟩ := Int.eq_ofNat_of_zero_le h0
          obtain ⟨b, rfl, hm⟩ := Hp1.out.int (i := m) (by omega)
          rw [Int.toNat_natCast] at Hg Ha
          generalize hq : d.prio.getD m 0 = q at *
          have Hq := Lib.hid hq; clear hq
          by_cases h3 : ah < q
          · go_wp2
            go_round
            case rel =>
              refine ⟨k + 1, by omega, by go_num, by rw [Ha.out], fun j hj' => ?_⟩
              by_cases he : j = k
              · subst he; exact Hg.out.2 ⟨h0, h2, h3⟩
              · exact hj.out j (by omega)
            case measure => simp [intOf]; omega
          · go_wp2
            go_ret
            exact ⟨⟨2, rfl, .inr ⟨Bad.out fun h => by have := (Hg.out.1 h).2.2; omega, rfl⟩⟩, hB⟩
        · go_wp2
          go_ret
          exact ⟨⟨2, rfl, .inr ⟨Bad.out fun h => by have := (Hg.out.1 h).2.1; omega, rfl⟩⟩, hB⟩
      · go_wp2
        go_ret
        exact ⟨⟨2, rfl, .inr ⟨Bad.out fun h => by have := (Hg.out.1 h).1; omega, rfl⟩⟩, hB⟩
    · obtain rfl : k = d.stack.length := by omega
      go_wp2
      go_ret
      exact ⟨⟨0, rfl, .inl ⟨HO.out hj.out, rfl⟩⟩, hB⟩
end Go.Proofs.YtpncbkodhojicaaDoor
/- Package intc: the walks of open and of the desk's methods. -/
namespace Go.Proofs.YtpncbkodhojicaaDoor
open Go.RowKit

/-- A desk at block D: its numbers, and slices of its own from 'base' on. -/
structure Desk (w : World) (base D : Nat) (d : IC) (pA : Option Addr) (pc : Nat) (sA : Option Addr) (sc : Nat) : Prop where
  lo : base ≤ D
  blk : w.heap[D]? = some (.cells #[.int .u64 d.p, .int .u64 d.e, .int .u64 d.r, .int .u64 d.g, .slice pA d.prio.length pc, .int .i64 d.t, .slice sA d.stack.length sc] 128 (0, 0))
  prio : w.ownsRow base 3 1 (.slice pA d.prio.length pc) d.prio.length (d.prio.map (.int .i64))
  stack : w.ownsRow base 3 1 (.slice sA d.stack.length sc) d.stack.length (d.stack.map (.int .i64))
  apart : ∀ a b, pA = some a → sA = some b → a.block ≠ b.block

theorem open_bad (d : IC) (hf : d.Fits) (hk : ¬ d.ok) (pA : Option Addr) (pc : Nat) (sA : Option Addr) (sc : Nat) (line : Int) (w : World) (hp : Rd w pA (d.prio.map (.int .i64))) (hs : Rd w sA (d.stack.map (.int .i64))) :
    Calls Tryd.prog 56 #[icv d pA pc sA sc, .int .i64 line] w fun e w' => ∃ D, e = .returned (.tuple #[.pointer (some ⟨D, 0, none⟩), .int .i64 2]) ∧ w.heap.size ≤ D ∧ w'.heap[D]? = some (.cells #[.int .u64 0, .int .u64 0, .int .u64 0, .int .u64 0, .slice none 0 0, .int .i64 0, .slice none 0 0] 128 (0, 0)) ∧ Below w.heap.size w w' := by
  have f1 := Lib.hid (fun w hp hs => check_any d hf pA pc sA sc w hp hs)
  have Hp := Lib.hid hp; clear hp
  have Hs := Lib.hid hs; clear hs
  unfold icv at *
  go_enter Tryd.func56, Tryd.ntmps56
  go_wp2_with fail
  refine (f1.out _ (Hp.out.alloc _) (Hs.out.alloc _)).mono ?_
  rintro e w1 ⟨⟨z, rfl, hz⟩, hb⟩
  obtain rfl : z = 2 := by rcases hz with ⟨h, _⟩ | ⟨_, h⟩; exact absurd h hk; exact h
  clear hz
  have hz1 := hb.size
  simp at hz1
  go_wp2_with fail
  go_ret2
  exact ⟨w1.heap.size, rfl, by omega, heap_alloc_new w1 _, (((Below.refl _ _).alloc (Nat.le_refl _) _).trans (hb.mono (by simp))).alloc (by omega) _⟩

def lineErr (n : Nat) (line : Int) : Int := if 0 ≤ line ∧ line < n then 0 else 1
def OpenPost (d : IC) (line : Int) (w : World) (e : Ending) (w' : World) : Prop :=
  ∃ D pA pc sA sc, e = .returned (.tuple #[.pointer (some ⟨D, 0, none⟩), .int .i64 (lineErr d.prio.length line)]) ∧ Desk w' w.heap.size D d pA pc sA sc ∧ Below w.heap.size w w'

theorem open_fin {w w1 w2 w3 : World} {d : IC} {A2 A3 : Option Addr} {c2 c3 : Nat} (hB1 : Below w.heap.size w w1) (l1 : w.heap.size < w1.heap.size) (hb2 : Below w1.heap.size w1 w2) (hb3 : Below w2.heap.size w2 w3)
    (ho2 : w2.ownsRow w1.heap.size 3 1 (.slice A2 d.prio.length c2) d.prio.length (d.prio.map (.int .i64))) (ho3 : w3.ownsRow w2.heap.size 3 1 (.slice A3 d.stack.length c3) d.stack.length (d.stack.map (.int .i64))) (v1 v2 : Value) :
    Desk (((w3.setCell ⟨w.heap.size, 4, none⟩ v1).setCell ⟨w.heap.size, 6, none⟩ v2).alloc (.cells #[.int .u64 d.p, .int .u64 d.e, .int .u64 d.r, .int .u64 d.g, .slice A2 d.prio.length c2, .int .i64 d.t, .slice A3 d.stack.length c3] 128)) w.heap.size w3.heap.size d A2 c2 A3 c3 ∧
    Below w.heap.size w (((w3.setCell ⟨w.heap.size, 4, none⟩ v1).setCell ⟨w.heap.size, 6, none⟩ v2).alloc (.cells #[.int .u64 d.p, .int .u64 d.e, .int .u64 d.r, .int .u64 d.g, .slice A2 d.prio.length c2, .int .i64 d.t, .slice A3 d.stack.length c3] 128)) := by
  have s2 := hb2.size
  have s3 := hb3.size
  have hB3 : Below w.heap.size w w3 := hB1.trans ((hb2.mono (by omega)).trans (hb3.mono (by omega)))
  have hsz : ((w3.setCell ⟨w.heap.size, 4, none⟩ v1).setCell ⟨w.heap.size, 6, none⟩ v2).heap.size = w3.heap.size := by simp [World.setCell]
  refine ⟨⟨by omega, ?_, ?_, ?_, ?_⟩, ((hB3.setCell (p := ⟨w.heap.size, 4, none⟩) (Nat.le_refl _) _).setCell (p := ⟨w.heap.size, 6, none⟩) (Nat.le_refl _) _).alloc (by rw [hsz]; omega) _⟩
  · have h := heap_alloc_new ((w3.setCell ⟨w.heap.size, 4, none⟩ v1).setCell ⟨w.heap.size, 6, none⟩ v2) (.cells #[.int .u64 d.p, .int .u64 d.e, .int .u64 d.r, .int .u64 d.g, .slice A2 d.prio.length c2, .int .i64 d.t, .slice A3 d.stack.length c3] 128)
    rwa [hsz] at h
  · exact own_mono ((ownsRow_setCell_below (a := ⟨w.heap.size, 6, none⟩) (ownsRow_setCell_below (a := ⟨w.heap.size, 4, none⟩) (own_below ho2 hb3) l1 _) l1 _).alloc _) (by omega)
  · exact own_mono ((ownsRow_setCell_below (a := ⟨w.heap.size, 6, none⟩) (ownsRow_setCell_below (a := ⟨w.heap.size, 4, none⟩) ho3 (by show w.heap.size < _; omega) _) (by show w.heap.size < _; omega) _).alloc _) (by omega)
  · rintro a b rfl rfl e
    have h1 := (ho2.lt a.block (by rcases ho2.2 with ⟨h, _⟩ | ⟨g, cap, cur, h, _⟩ <;> (injection h with h h'; cases h; try rfl))).2
    rcases ho3.2 with ⟨h, _⟩ | ⟨g, cap, cur, h, hg, _⟩
    · injection h with h; cases h
    · injection h with h
      cases h
      change a.block = g at e
      omega

set_option maxHeartbeats 1000000 in
theorem open_good (d : IC) (hf : d.Fits) (hk : d.ok) (pA : Option Addr) (pc : Nat) (sA : Option Addr) (sc : Nat) (line : Int) (w : World) (hp : Rd w pA (d.prio.map (.int .i64))) (hs : Rd w sA (d.stack.map (.int .i64))) :
    Calls Tryd.prog 56 #[icv d pA pc sA sc, .int .i64 line] w (OpenPost d line w) := by
  have f1 := Lib.hid (fun w hp hs => check_any d hf pA pc sA sc w hp hs)
  have f2 := Lib.hid (fun w hp => clone_any pA d.prio pc w hf.prio hp)
  have f3 := Lib.hid (fun w hp => clone_any sA d.stack sc w hf.stack hp)
  have Hp := Lib.hid hp; clear hp
  have Hs := Lib.hid hs; clear hs
  unfold icv at *
  go_enter Tryd.func56, Tryd.ntmps56
  go_wp2_with fail
  refine (f1.out _ (Hp.out.alloc _) (Hs.out.alloc _)).mono ?_
  rintro e w1 ⟨⟨z, rfl, hz⟩, hb⟩
  obtain rfl : z = 0 := by rcases hz with ⟨_, h⟩ | ⟨h, _⟩; exact h; exact absurd hk h
  clear hz
  have HX1 := Lib.hid (box_new hb)
  obtain ⟨x1, y1⟩ := box_rules HX1.out
  have l1 := box_lt HX1.out
  have hz1 := hb.size
  simp at hz1
  have hB1 : Below w.heap.size w w1 := ((Below.refl _ _).alloc (Nat.le_refl _) _).trans (hb.mono (by simp))
  have Hp1 := Lib.hid (Hp.out.below hB1)
  have Hs1 := Lib.hid (Hs.out.below hB1)
  go_wp2_with fail
  clear hb
  have HF := Lib.hid (fun w2 w3 A2 A3 c2 c3 hb2 hb3 ho2 ho3 v1 v2 => open_fin (w := w) (w1 := w1) (w2 := w2) (w3 := w3) (d := d) (A2 := A2) (A3 := A3) (c2 := c2) (c3 := c3) hB1 l1 hb2 hb3 ho2 ho3 v1 v2)
  go_region_with (first
    | (go_at_call_of 45 pA; refine (f2.out _ ?_).mono ?_; exact Hp1.out; rintro e w2 ⟨A2, c2, rfl, ho2, hb2'⟩; have hb2 := undrew hb2'; have HX2 := Lib.hid (box_keep HX1.out hb2); obtain ⟨x2, y2⟩ := box_rules HX2.out; have l2 := box_lt HX2.out)
    | (go_at_call_of 45 sA; refine (f3.out _ ?_).mono ?_; exact Hs1.out.below hb2; rintro e w3 ⟨A3, c3, rfl, ho3, hb3⟩; have HX3 := Lib.hid (box_keep HX2.out hb3); obtain ⟨x3, y3⟩ := box_rules HX3.out; have l3 := box_lt HX3.out))
  all_goals go_wp2_with fail
  all_goals
    go_ret2
    refine ⟨w3.heap.size, A2, c2, A3, c3, ?_, HF.out w2 w3 A2 A3 c2 c3 hb2 hb3 ho2 ho3 _ _⟩
    unfold lineErr
    first | (rw [if_pos (by assumption)]; rfl) | (rw [if_neg (by omega)]; rfl)
end Go.Proofs.YtpncbkodhojicaaDoor
/- Package intc: the walks of the desk's methods (edge, active, level, next). Conditions: a desk of a right controller. -/
namespace Go.Proofs.YtpncbkodhojicaaDoor
open Go.RowKit Go.Shelf
attribute [local go_sem] Oper.semAt_some

section
variable {w : World} {base D : Nat} {d : IC} {pA : Option Addr} {pc : Nat} {sA : Option Addr} {sc : Nat}

theorem bit_and_one {g n : Nat} (hg : g < 18446744073709551616) : (bits .and .u64 ((g : Int) / 2 ^ n) 1 == 1) = g.testBit n := by
  have e : ((g : Int) / 2 ^ n) = ((g / 2 ^ n : Nat) : Int) := by simp
  have h1 : (1 : Int) = ((1 : Nat) : Int) := rfl
  rw [e, h1, u64_and_nat _ _ (Nat.lt_of_le_of_lt (Nat.div_le_self _ _) hg) (by omega), Nat.and_one_is_mod, Bool.eq_iff_iff, ← div_bit]
  simp; omega

theorem edge_any (hD : Desk w base D d pA pc sA sc) (hf : d.Fits) (line : Nat) (hl : line < 64) :
    Calls Tryd.prog 57 #[.pointer (some ⟨D, 0, none⟩), .int .i64 line] w fun e w' => e = .returned (.bool (d.g.testBit line)) ∧ w = w' := by
  obtain ⟨x1, _⟩ := box_rules hD.blk
  have hb := Lib.hid (bit_and_one (n := line) hf.g)
  clear hD
  go_enter Tryd.func57, Tryd.ntmps57
  go_wp2
  go_ret
  exact ⟨ret_bool hb.out, rfl⟩

theorem st_range (hk : d.ok) : ∀ i, i < d.stack.length → 0 ≤ d.stack.getD i 0 ∧ d.stack.getD i 0 < 64 := fun i hi => by
  have h := hk.stack i hi
  have h2 := hk.len2
  exact ⟨h.1, by have := h.2.1; unfold IC.st at this; omega⟩

theorem active_raw {w : World} {D : Nat} (d : IC) {sA : Option Addr} {sc : Nat} (hc : w.cell? ⟨D, 6, none⟩ = some (.slice sA d.stack.length sc)) (hr : Rd w sA (d.stack.map (.int .i64))) (hl : d.stack.length ≤ 549755813888) (hv : ∀ i, i < d.stack.length → 0 ≤ d.stack.getD i 0 ∧ d.stack.getD i 0 < 64) :
    Calls Tryd.prog 58 #[.pointer (some ⟨D, 0, none⟩)] w fun e w' => e = .returned (.int .u64 ((ofList d.stack : Nat) : Int)) ∧ w = w' := by
  have f1 := Lib.hid (fun (_ : Unit) => of_ok sA d.stack sc w (by omega) hr hv)
  clear hr hv
  go_enter Tryd.func58, Tryd.ntmps58
  go_wp2_with fail
  refine (f1.out ()).mono ?_
  rintro e w' ⟨rfl, rfl⟩
  go_wp2_with fail
  go_ret
  exact ⟨rfl, rfl⟩
theorem active_any (hD : Desk w base D d pA pc sA sc) (hf : d.Fits) (hk : d.ok) :
    Calls Tryd.prog 58 #[.pointer (some ⟨D, 0, none⟩)] w fun e w' => e = .returned (.int .u64 ((ofList d.stack : Nat) : Int)) ∧ w = w' :=
  active_raw d (by rw [(box_rules hD.blk).1]; rfl) (own_rd hD.stack) hf.stack (st_range hk)

def IC.level (d : IC) : Int := if d.stack.length = 0 then d.t else max d.t (d.pr (d.st (d.stack.length - 1)))

theorem level_any (hD : Desk w base D d pA pc sA sc) (hf : d.Fits) (hk : d.ok) :
    Calls Tryd.prog 68 #[.pointer (some ⟨D, 0, none⟩)] w fun e w' => e = .returned (.int .i64 d.level) ∧ ∃ k, w.drewN k = w' := by
  have hr := own_rd hD.stack
  have hr2 := own_rd hD.prio
  have hl := hf.stack
  have hl2 := hf.prio
  obtain ⟨x1, _⟩ := box_rules hD.blk
  clear hD
  by_cases h0 : d.stack.length = 0
  · have Hr := Lib.hid (show d.level = d.t by unfold IC.level; rw [if_pos h0])
    clear hr hr2
    go_enter Tryd.func68, Tryd.ntmps68
    go_wp2
    go_ret
    exact ⟨ret_int Hr.out.symm, 0, rfl⟩
  · have h5 : d.stack.length - 1 < d.stack.length := by omega
    obtain ⟨g1, g2, _⟩ := hk.stack _ h5
    have Hr := Lib.hid (show d.level = max d.t (d.pr (d.st (d.stack.length - 1))) by unfold IC.level; rw [if_neg h0])
    obtain ⟨a, rfl, c1⟩ := hr.int h5
    have Hst : Hid (d.st (d.stack.length - 1) = d.stack.getD (d.stack.length - 1) 0) := rfl
    unfold IC.st at g1 g2
    generalize hn : d.stack.getD (d.stack.length - 1) 0 = n at *
    have Hn := Lib.hid hn; clear hn
    obtain ⟨m, rfl⟩ := Int.eq_ofNat_of_zero_le g1
    obtain ⟨b, rfl, c2⟩ := hr2.int (i := m) (by omega)
    have Hq : Hid (d.pr (m : Int) = d.prio.getD m 0) := rfl
    generalize hq : d.prio.getD m 0 = q at *
    have Hqq := Lib.hid hq; clear hq
    have hlp : 0 < d.stack.length := by omega
    clear hr hr2 h0 g1
    go_enter Tryd.func68, Tryd.ntmps68
    go_wp2
    go_quiet (fail)
    go_wp2
    all_goals
      go_ret
      refine ⟨ret_int ?_, _, rfl⟩
      rw [Hr.out, Hst.out, Hq.out]
      omega
end
end Go.Proofs.YtpncbkodhojicaaDoor

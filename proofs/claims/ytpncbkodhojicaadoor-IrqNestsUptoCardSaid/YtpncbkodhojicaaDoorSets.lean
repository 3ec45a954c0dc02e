/- Plain facts on sets of numbers below 64 as the bits of a number: no program in sight. -/
import Derived.Lib.TrailingZeros
namespace Go.Proofs.YtpncbkodhojicaaDoor

/-- the set of the numbers below 64 that p picks -/
def mkN (p : Nat → Bool) : Nat → Nat
  | 0 => 0
  | n + 1 => mkN p n + (if p n then 2 ^ n else 0)
def mk (p : Nat → Bool) : Nat := mkN p 64

theorem mkN_lt (p : Nat → Bool) : ∀ n, mkN p n < 2 ^ n
  | 0 => by simp [mkN]
  | n + 1 => by
    have := mkN_lt p n
    rw [mkN, Nat.pow_succ]
    split <;> omega
theorem mkN_bit (p : Nat → Bool) : ∀ n i, (mkN p n).testBit i = (decide (i < n) && p i)
  | 0, i => by simp [mkN]
  | n + 1, i => by
    have hl := mkN_lt p n
    have ih := mkN_bit p n i
    rw [mkN]
    by_cases hp : p n = true
    · rw [if_pos hp, Nat.add_comm]
      by_cases hi : i < n
      · rw [Nat.testBit_two_pow_add_gt hi, ih]
        simp [hi]; intro; omega
      · by_cases he : i = n
        · subst he
          rw [Nat.testBit_two_pow_add_eq, Nat.testBit_lt_two_pow hl]
          simp [hp]
        · have h2 : 2 ^ n + mkN p n < 2 ^ i := by
            have : 2 ^ (n + 1) ≤ 2 ^ i := Nat.pow_le_pow_right (by decide) (by omega)
            rw [Nat.pow_succ] at this; omega
          rw [Nat.testBit_lt_two_pow h2]
          have : ¬ i < n + 1 := by omega
          simp [this]
    · have hp' : p n = false := by simpa using hp
      rw [if_neg hp, Nat.add_zero, ih]
      by_cases he : i = n
      · subst he; simp [hp']
      · have : (i < n + 1) ↔ i < n := by omega
        simp [this]
theorem mk_lt (p : Nat → Bool) : mk p < 18446744073709551616 := mkN_lt p 64
theorem mk_bit (p : Nat → Bool) (i : Nat) : (mk p).testBit i = (decide (i < 64) && p i) := mkN_bit p 64 i
theorem bit_high {b : Nat} (hb : b < 18446744073709551616) {i : Nat} (hi : ¬ i < 64) : b.testBit i = false :=
  Nat.testBit_lt_two_pow (Nat.lt_of_lt_of_le (show b < 2 ^ 64 from hb) (Nat.pow_le_pow_right (by decide) (by omega)))
theorem eq_mk {b : Nat} {p : Nat → Bool} (hb : b < 18446744073709551616) (h : ∀ i, i < 64 → b.testBit i = p i) : b = mk p := by
  apply Nat.eq_of_testBit_eq
  intro i
  rw [mk_bit]
  by_cases hi : i < 64
  · simp [hi, h i hi]
  · simp [hi, bit_high hb hi]
theorem mk_congr {p q : Nat → Bool} (h : ∀ i, i < 64 → p i = q i) : mk p = mk q := by
  apply eq_mk (mk_lt p)
  intro i hi
  rw [mk_bit, h i hi]; simp [hi]
theorem mk_self {b : Nat} (hb : b < 18446744073709551616) : mk b.testBit = b := (eq_mk hb fun _ _ => rfl).symm

/-- all of a set, rising -/
def bitsTo (b n : Nat) : List Nat := (List.range n).filter b.testBit
def bitsOf (b : Nat) : List Nat := bitsTo b 64
theorem bitsTo_succ (b n : Nat) : bitsTo b (n + 1) = bitsTo b n ++ (if b.testBit n then [n] else []) := by
  unfold bitsTo
  rw [List.range_succ, List.filter_append]
  congr 1
  by_cases h : b.testBit n <;> simp [h]
theorem bitsTo_len (b n : Nat) : (bitsTo b n).length ≤ n := by
  unfold bitsTo
  have := List.length_filter_le b.testBit (List.range n)
  simpa using this
theorem mem_bitsOf {b i : Nat} : i ∈ bitsOf b ↔ i < 64 ∧ b.testBit i = true := by simp [bitsOf, bitsTo]

theorem div_bit (b k : Nat) : (b / 2 ^ k % 2 = 1) ↔ b.testBit k = true := by
  rw [Nat.testBit_eq_decide_div_mod_eq]; simp
theorem div_succ (b k : Nat) : b / 2 ^ (k + 1) = b / 2 ^ k / 2 := by rw [Nat.pow_succ, Nat.div_div_eq_div_mul]

theorem shift_bit (b n i : Nat) : (b / 2 ^ n * 2 ^ n).testBit i = (decide (n ≤ i) && b.testBit i) := by
  rw [Nat.mul_comm, Nat.testBit_two_pow_mul, Nat.testBit_div_two_pow]
  by_cases h : n ≤ i
  · simp [h, Nat.sub_add_cancel h]
  · simp [h]

theorem pow_lt64 {n : Nat} (h : n < 64) : 2 ^ n < 18446744073709551616 := Nat.pow_lt_pow_right (a := 2) (n := 64) (by decide) h

theorem ones_bit (i : Nat) : (18446744073709551615 : Nat).testBit i = decide (i < 64) := by
  have : (18446744073709551615 : Nat) = 2 ^ 64 - 1 := by decide
  rw [this, Nat.testBit_two_pow_sub_one]
theorem compl_bit {b : Nat} (hb : b < 18446744073709551616) (i : Nat) (hi : i < 64) : (18446744073709551615 - b).testBit i = !b.testBit i := by
  have h : (18446744073709551615 - b) = 2 ^ 64 - (b + 1) := by omega
  rw [h, Nat.testBit_two_pow_sub_succ hb]
  simp [hi]

/-- one more number beside a set that lacks it -/
theorem add_one_bit {s n : Nat} (h : s.testBit n = false) : s + 2 ^ n = s ||| 2 ^ n := by
  apply Nat.eq_of_testBit_eq
  intro i
  rw [Nat.testBit_or, Nat.testBit_two_pow]
  have hs : s = (s / 2 ^ (n + 1)) * 2 ^ (n + 1) + s % 2 ^ n := by
    have h1 := Nat.div_add_mod s (2 ^ n)
    have h2 : s / 2 ^ n % 2 = 0 := by
      have := div_bit s n
      have h3 := Nat.mod_two_eq_zero_or_one (s / 2 ^ n)
      rcases h3 with h3 | h3
      · exact h3
      · rw [this.1 h3] at h; cases h
    have h4 : s / 2 ^ n = 2 * (s / 2 ^ n / 2) := by omega
    rw [div_succ]
    rw [Nat.pow_succ, ← Nat.mul_assoc, Nat.mul_right_comm, Nat.mul_comm (s / 2 ^ n / 2) 2, ← h4, Nat.mul_comm]
    exact h1.symm
  have hr : s % 2 ^ n < 2 ^ n := Nat.mod_lt _ (Nat.two_pow_pos n)
  have hr2 : s % 2 ^ n + 2 ^ n < 2 ^ (n + 1) := by rw [Nat.pow_succ]; omega
  have hr3 : s % 2 ^ n < 2 ^ (n + 1) := by rw [Nat.pow_succ]; omega
  have e1 : s + 2 ^ n = 2 ^ (n + 1) * (s / 2 ^ (n + 1)) + (s % 2 ^ n + 2 ^ n) := by
    rw [Nat.mul_comm]; omega
  have e2 : s.testBit i = (2 ^ (n + 1) * (s / 2 ^ (n + 1)) + s % 2 ^ n).testBit i := by
    rw [Nat.mul_comm, ← hs]
  rw [e1, e2, Nat.testBit_two_pow_mul_add _ hr2, Nat.testBit_two_pow_mul_add _ hr3]
  by_cases hi : i < n + 1
  · rw [if_pos hi, if_pos hi, Nat.add_comm (s % 2 ^ n)]
    by_cases he : i = n
    · subst he
      rw [Nat.testBit_two_pow_add_eq, Nat.testBit_lt_two_pow hr]; simp
    · rw [Nat.testBit_two_pow_add_gt (by omega)]
      have : ¬ n = i := by omega
      simp [this]
  · rw [if_neg hi, if_neg hi]
    have : ¬ n = i := by omega
    simp [this]
theorem or_one_bit {s n : Nat} (h : s.testBit n = true) : s ||| 2 ^ n = s := by
  apply Nat.eq_of_testBit_eq
  intro i
  rw [Nat.testBit_or, Nat.testBit_two_pow]
  by_cases he : n = i
  · subst he; simp [h]
  · simp [he]

/-- the set of a list's numbers, one by one -/
def orTo (xs : List Int) : Nat → Nat
  | 0 => 0
  | k + 1 => orTo xs k ||| 2 ^ (xs.getD k 0).toNat
theorem orTo_lt {xs : List Int} (h : ∀ i, i < xs.length → 0 ≤ xs.getD i 0 ∧ xs.getD i 0 < 64) : ∀ k, k ≤ xs.length → orTo xs k < 18446744073709551616
  | 0, _ => by simp [orTo]
  | k + 1, hk => by
    have hx := h k (by omega)
    exact Nat.or_lt_two_pow (n := 64) (orTo_lt h k (by omega)) (pow_lt64 (by omega))
theorem orTo_bit {xs : List Int} (h : ∀ i, i < xs.length → 0 ≤ xs.getD i 0 ∧ xs.getD i 0 < 64) (i : Nat) : ∀ k, k ≤ xs.length → (orTo xs k).testBit i = (xs.take k).contains (i : Int)
  | 0, _ => by simp [orTo]
  | k + 1, hk => by
    have hx := h k (by omega)
    rw [orTo, Nat.testBit_or, orTo_bit h i k (by omega), Nat.testBit_two_pow, List.take_succ_eq_append_getElem (by omega : k < xs.length)]
    have e : xs.getD k 0 = xs[k]'(by omega) := by simp [List.getD, List.getElem?_eq_getElem (show k < xs.length by omega)]
    rw [e] at hx ⊢
    rw [List.contains_eq_any_beq, List.contains_eq_any_beq, List.any_append]
    congr 1
    simp only [List.any_cons, List.any_nil, Bool.or_false]
    rw [Bool.eq_iff_iff]; simp; omega
def ofList (xs : List Int) : Nat := mk fun i => xs.contains (i : Int)
theorem ofList_lt (xs : List Int) : ofList xs < 18446744073709551616 := mk_lt _
theorem ofList_bit (xs : List Int) (i : Nat) : (ofList xs).testBit i = (decide (i < 64) && xs.contains (i : Int)) := mk_bit _ i
theorem orTo_mk {xs : List Int} (h : ∀ i, i < xs.length → 0 ≤ xs.getD i 0 ∧ xs.getD i 0 < 64) : orTo xs xs.length = ofList xs := by
  apply eq_mk (orTo_lt h _ (Nat.le_refl _))
  intro i _
  rw [orTo_bit h i _ (Nat.le_refl _), List.take_length]

/-- x & (x - 1): the set without its least number; by ctz -/
theorem ctz_spec {x : Nat} (h0 : 0 < x) (hx : x < 18446744073709551616) : Lib.ctz 64 x < 64 ∧ x.testBit (Lib.ctz 64 x) = true ∧ ∀ i, i < Lib.ctz 64 x → x.testBit i = false := by
  obtain ⟨m, hm, hk⟩ := Lib.ctzFrom_spec 64 x h0 hx
  have e : Lib.ctz 64 x = Lib.ctzFrom 64 x := by unfold Lib.ctz; rw [if_neg (by omega)]
  rw [e]
  generalize Lib.ctzFrom 64 x = k at *
  refine ⟨hk, ?_, ?_⟩
  · rw [hm, Nat.testBit_two_pow_mul]; simp
  · intro i hi
    rw [hm, Nat.testBit_two_pow_mul]; simp; omega
theorem ctz_ge {x k : Nat} (h0 : 0 < x) (hx : x < 18446744073709551616) (h : ∀ i, i < k → x.testBit i = false) : k ≤ Lib.ctz 64 x := by
  obtain ⟨_, h2, _⟩ := ctz_spec h0 hx
  apply Nat.le_of_not_lt
  intro hlt
  rw [h _ hlt] at h2; cases h2
theorem low_bit {x : Nat} (h0 : 0 < x) (hx : x < 18446744073709551616) (i : Nat) : (x &&& (x - 1)).testBit i = (x.testBit i && decide (i ≠ Lib.ctz 64 x)) := by
  obtain ⟨m, hm, hk⟩ := Lib.ctzFrom_spec 64 x h0 hx
  have e : Lib.ctz 64 x = Lib.ctzFrom 64 x := by unfold Lib.ctz; rw [if_neg (by omega)]
  rw [e]
  generalize Lib.ctzFrom 64 x = k at *
  have hp : 0 < 2 ^ k := Nat.two_pow_pos k
  have e2 : x - 1 = 2 ^ k * (2 * m) + (2 ^ k - 1) := by rw [hm, Nat.mul_add]; omega
  rw [Nat.testBit_and, e2, Nat.testBit_two_pow_mul_add _ (by omega), hm, Nat.testBit_two_pow_mul]
  by_cases hi : i < k
  · have : ¬ k ≤ i := by omega
    simp [this]
  · rw [if_neg hi]
    by_cases he : i = k
    · subst he; simp
    · obtain ⟨j, rfl⟩ : ∃ j, i = k + (j + 1) := ⟨i - k - 1, by omega⟩
      have e3 : k + (j + 1) - k = j + 1 := by omega
      rw [e3, Nat.testBit_succ, Nat.testBit_succ]
      have d1 : (2 * m + 1) / 2 = m := by omega
      have d2 : (2 * m) / 2 = m := by omega
      rw [d1, d2]; simp

/-- the numbers of a set from k on, its least one first -/
theorem bitsFrom (x : Nat) (h0 : 0 < x) (hx : x < 18446744073709551616) : bitsOf x = Lib.ctz 64 x :: bitsOf (x &&& (x - 1)) := by
  obtain ⟨h1, h2, h3⟩ := ctz_spec h0 hx
  have hl := low_bit h0 hx
  generalize Lib.ctz 64 x = c at *
  unfold bitsOf bitsTo
  have hsplit : List.range 64 = List.range c ++ c :: (List.range (63 - c)).map (· + (c + 1)) := by
    apply List.ext_getElem
    · simp; omega
    · intro i hi1 hi2
      simp only [List.length_range] at hi1
      rw [List.getElem_range, List.getElem_append]
      split
      · simp
      · rename_i hge
        simp only [List.length_range, Nat.not_lt] at hge
        by_cases he : i = c
        · subst he; simp
        · obtain ⟨j, rfl⟩ : ∃ j, i = c + (j + 1) := ⟨i - c - 1, by omega⟩
          have e3 : c + (j + 1) - c = j + 1 := by omega
          simp [e3]; omega
  rw [hsplit, List.filter_append, List.filter_append, List.filter_cons, if_pos h2, List.filter_cons]
  have hn : (x &&& (x - 1)).testBit c = false := by rw [hl]; simp
  rw [hn]
  have ha : (List.range c).filter x.testBit = [] := by
    rw [List.filter_eq_nil_iff]; intro a ha; rw [h3 a (List.mem_range.1 ha)]; simp
  have hb : (List.range c).filter (x &&& (x - 1)).testBit = [] := by
    rw [List.filter_eq_nil_iff]; intro a ha; rw [hl, h3 a (List.mem_range.1 ha)]; simp
  have hc : ((List.range (63 - c)).map (· + (c + 1))).filter x.testBit = ((List.range (63 - c)).map (· + (c + 1))).filter (x &&& (x - 1)).testBit := by
    apply List.filter_congr
    intro a ha
    obtain ⟨j, _, rfl⟩ := List.mem_map.1 ha
    rw [hl]
    have : j + (c + 1) ≠ c := by omega
    simp [this]
  rw [ha, hb, hc]; simp
end Go.Proofs.YtpncbkodhojicaaDoor

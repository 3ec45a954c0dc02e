/- Packages solve and vergeref25: rounds and steps as plain laws; the walks of Round. Conditions: lists that read. -/
import Derived.Test.YtgampofpabllbaaGreatRtE
namespace Go.Proofs.YtgampofpabllbaaGreat
open Go.RowKit Go.Shelf

def roundWhy (base : Int) (l : List Ld) (t : Int) : Int :=
  if ldsWhy l ≠ 0 then 2 else if inB base 1 4503599627370496 = false ∨ inB t 0 4503599627370496 = false then 1 else if allWhy l t ≠ 0 then allWhy l t else if 4503599627370496 - base < allN l t then 10 else 0
def roundN (base : Int) (l : List Ld) (t : Int) : Int := if roundWhy base l t = 0 then base + allN l t else 0
/-- A search from here on: the last step, and why not. -/
def stGo (base : Int) (l : List Ld) (limit : Int) : Nat → Int → Int × Int
  | 0, _ => (0, 11)
  | f + 1, t => if limit < t then (0, 11) else if roundWhy base l t ≠ 0 then (0, roundWhy base l t) else if roundN base l t = t then (t, 0) else stGo base l limit f (roundN base l t)
def stepsY (base : Int) (l : List Ld) (limit : Int) : Int × Int :=
  if ldsWhy l ≠ 0 then (0, 2) else if inB base 1 4503599627370496 = false ∨ inB limit 0 4503599627370496 = false then (0, 1) else stGo base l limit 4096 base
/-- The steps of a search. -/
def stW (base : Int) (l : List Ld) : Nat → Int
  | 0 => base
  | k + 1 => roundN base l (stW base l k)
/-- The search goes on for so many steps. -/
def stpOk (base : Int) (l : List Ld) (k : Nat) : Prop := ∀ j, j < k → roundWhy base l (stW base l j) = 0 ∧ roundN base l (stW base l j) ≠ stW base l j

theorem most_mono {x : Ld} {s t : Int} (h : ldOk x = true) (hs : 0 ≤ s) (hst : s ≤ t) : mostN x s ≤ mostN x t := by
  obtain ⟨⟨p1, p2⟩, ⟨j1, j2⟩, a1, a2⟩ := cv_in (ld_in h).1
  have h1 : (s + x.jit + x.per - 1) / x.per ≤ (t + x.jit + x.per - 1) / x.per := Int.ediv_le_ediv (by omega) (by omega)
  have h2 : (s + x.ap - 1) / x.ap ≤ (t + x.ap - 1) / x.ap := Int.ediv_le_ediv (by omega) (by omega)
  have h3 : 0 ≤ (t + x.jit + x.per - 1) / x.per := Int.ediv_nonneg (by omega) (by omega)
  have h4 := up_ge (w := t) (a := x.ap) (by omega) a1
  unfold mostN
  split
  · split <;> omega
  · rw [if_neg (by omega)]; omega
theorem totK_mono {l : List Ld} {s t : Int} (h : ∀ x ∈ l, ldOk x = true) (hs : 0 ≤ s) (hst : s ≤ t) : ∀ k, k ≤ l.length → totK l s k ≤ totK l t k
  | 0, _ => Int.le_refl _
  | k + 1, hk => by
    have ih := totK_mono h hs hst k (by omega)
    have hx := h _ (ld_mem (by omega : k < l.length))
    have h1 := Int.mul_le_mul_of_nonneg_right (most_mono hx hs hst) (ld_in hx).2.1
    show totK l s k + _ ≤ totK l t k + _
    omega
theorem round_zero {base : Int} {l : List Ld} {t : Int} (h : roundWhy base l t = 0) : ldsWhy l = 0 ∧ inB base 1 4503599627370496 = true ∧ inB t 0 4503599627370496 = true ∧ allWhy l t = 0 ∧ allN l t ≤ 4503599627370496 - base ∧ roundN base l t = base + allN l t ∧ allN l t = totK l t l.length := by
  have h0 := h
  unfold roundWhy at h
  split at h
  · cases h
  split at h
  · cases h
  split at h
  · exact absurd h (by assumption)
  split at h
  · cases h
  rename_i h1 h2 h3 h4
  have e1 : ldsWhy l = 0 := by simpa using h1
  have e2 : inB base 1 4503599627370496 = true := by
    rw [← Bool.not_eq_false]; exact fun e => h2 (.inl e)
  have e3 : inB t 0 4503599627370496 = true := by
    rw [← Bool.not_eq_false]; exact fun e => h2 (.inr e)
  have e4 : allWhy l t = 0 := by simpa using h3
  refine ⟨e1, e2, e3, e4, by omega, by unfold roundN; rw [if_pos h0], by unfold allN; rw [if_pos e4]⟩
theorem stW_in {base : Int} {l : List Ld} (hb : inB base 1 4503599627370496 = true) : ∀ {k : Nat}, (∀ j, j < k → roundWhy base l (stW base l j) = 0) → base ≤ stW base l k ∧ stW base l k ≤ 4503599627370496
  | 0, _ => ⟨Int.le_refl _, (inB_true.1 hb).2⟩
  | k + 1, h => by
    obtain ⟨h1, h2, h3, h4, h5, h6, h7⟩ := round_zero (h k (by omega))
    have h8 := totK_nonneg (lds_in h1).2 (inB_true.1 h3) (j := 0) l.length (Nat.zero_le _) (Nat.le_refl _)
    show base ≤ roundN base l _ ∧ roundN base l _ ≤ _
    rw [h6]
    have : totK l (stW base l k) 0 = 0 := rfl
    omega
theorem stW_up {base : Int} {l : List Ld} (hb : inB base 1 4503599627370496 = true) : ∀ {k : Nat}, (∀ j, j < k + 1 → roundWhy base l (stW base l j) = 0) → stW base l k ≤ stW base l (k + 1)
  | 0, h => (stW_in hb (k := 1) h).1
  | k + 1, h => by
    have ih := stW_up hb (k := k) (fun j hj => h j (by omega))
    have hk := (stW_in hb (k := k) (fun j hj => h j (by omega))).1
    obtain ⟨h1, _, _, _, _, h6, h7⟩ := round_zero (h k (by omega))
    obtain ⟨_, _, _, _, _, g6, g7⟩ := round_zero (h (k + 1) (by omega))
    have := totK_mono (lds_in h1).2 (by have := (inB_true.1 hb).1; omega) ih l.length (Nat.le_refl _)
    show roundN base l (stW base l k) ≤ roundN base l (stW base l (k + 1))
    rw [h6, g6]
    omega
/-- Each step goes up, so there are not more of them than there are times. -/
theorem stW_far {base : Int} {l : List Ld} (hb : inB base 1 4503599627370496 = true) : ∀ {k : Nat}, stpOk base l k → (k : Int) + 1 ≤ stW base l k
  | 0, _ => by have := (inB_true.1 hb).1; show (0 : Int) + 1 ≤ base; omega
  | k + 1, h => by
    have ih := stW_far hb (k := k) (fun j hj => h j (by omega))
    have hu := stW_up hb (k := k) (fun j hj => (h j hj).1)
    have hne := (h k (by omega)).2
    have : stW base l (k + 1) ≠ stW base l k := hne
    omega
theorem stGo_skip {base : Int} {l : List Ld} {limit : Int} (f : Nat) : ∀ {k : Nat}, stpOk base l k → (∀ j, j < k → stW base l j ≤ limit) → stGo base l limit (f + k) base = stGo base l limit f (stW base l k)
  | 0, _, _ => rfl
  | k + 1, h, h2 => by
    have e : f + (k + 1) = (f + 1) + k := by omega
    rw [e, stGo_skip (f + 1) (fun j hj => h j (by omega)) (fun j hj => h2 j (by omega))]
    have hk := h k (by omega)
    have hl := h2 k (by omega)
    show (if limit < stW base l k then _ else _) = _
    rw [if_neg (by omega), if_neg (by simp [hk.1]), if_neg hk.2]
    rfl
theorem round_form {base : Int} {l : List Ld} {t : Int} (h : ldsWhy l ≠ 0) : roundWhy base l t = 2 ∧ roundN base l t = 0 := by
  have : roundWhy base l t = 2 := by unfold roundWhy; rw [if_pos h]
  exact ⟨this, by unfold roundN; rw [this, if_neg (by simp)]⟩
theorem round_range {base : Int} {l : List Ld} {t : Int} (h : ldsWhy l = 0) (h2 : ¬ ((1 ≤ base ∧ base ≤ 4503599627370496) ∧ 0 ≤ t ∧ t ≤ 4503599627370496)) : roundWhy base l t = 1 ∧ roundN base l t = 0 := by
  have h3 : inB base 1 4503599627370496 = false ∨ inB t 0 4503599627370496 = false := by
    unfold inB
    by_cases hb : 1 ≤ base ∧ base ≤ 4503599627370496
    · exact .inr (decide_eq_false fun h => h2 ⟨hb, h⟩)
    · exact .inl (decide_eq_false hb)
  have : roundWhy base l t = 1 := by unfold roundWhy; rw [if_neg (by simp [h]), if_pos h3]
  exact ⟨this, by unfold roundN; rw [this, if_neg (by simp)]⟩
theorem round_in {base : Int} {l : List Ld} {t : Int} (h : ldsWhy l = 0) (h2 : (1 ≤ base ∧ base ≤ 4503599627370496) ∧ 0 ≤ t ∧ t ≤ 4503599627370496) :
    (allWhy l t ≠ 0 → roundWhy base l t = allWhy l t ∧ roundN base l t = 0) ∧ (allWhy l t = 0 → 4503599627370496 - base < allN l t → roundWhy base l t = 10 ∧ roundN base l t = 0) ∧
      (allWhy l t = 0 → ¬ 4503599627370496 - base < allN l t → roundWhy base l t = 0 ∧ roundN base l t = base + allN l t) := by
  have h3 : ¬ (inB base 1 4503599627370496 = false ∨ inB t 0 4503599627370496 = false) := by
    unfold inB
    rw [decide_eq_true h2.1, decide_eq_true h2.2]
    simp
  refine ⟨fun h4 => ?_, fun h4 h5 => ?_, fun h4 h5 => ?_⟩
  · have : roundWhy base l t = allWhy l t := by unfold roundWhy; rw [if_neg (by simp [h]), if_neg h3, if_pos h4]
    exact ⟨this, by unfold roundN; rw [this, if_neg h4]⟩
  · have : roundWhy base l t = 10 := by unfold roundWhy; rw [if_neg (by simp [h]), if_neg h3, if_neg (by simp [h4]), if_pos h5]
    exact ⟨this, by unfold roundN; rw [this, if_neg (by simp)]⟩
  · have : roundWhy base l t = 0 := by unfold roundWhy; rw [if_neg (by simp [h]), if_neg h3, if_neg (by simp [h4]), if_neg h5]
    exact ⟨this, by unfold roundN; rw [this, if_pos rfl]⟩
theorem allN_in {l : List Ld} {t : Int} (h : allWhy l t = 0) : 0 ≤ allN l t ∧ allN l t ≤ 4503599627370496 := by
  have h0 := h
  unfold allWhy at h
  split at h
  · cases h
  split at h
  · cases h
  split at h
  · cases h
  rename_i h1 h2 h3
  have e1 : ldsWhy l = 0 := by simpa using h1
  have e2 : inB t 0 4503599627370496 = true := by rw [← Bool.not_eq_false]; exact h2
  have h8 := totK_nonneg (lds_in e1).2 (inB_true.1 e2) (j := 0) l.length (Nat.zero_le _) (Nat.le_refl _)
  have e3 : totK l t 0 = 0 := rfl
  unfold allN
  rw [if_pos h0]
  omega
end Go.Proofs.YtgampofpabllbaaGreat

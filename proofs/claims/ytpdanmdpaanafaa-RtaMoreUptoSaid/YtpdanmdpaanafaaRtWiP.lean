/- What a bound is: plain laws, no program in sight. -/
import Derived.Test.YtpdanmdpaanafaaRtSP
namespace Go.Proofs.Ytpdanmdpaanafaa
open Go.RowKit

theorem stGo_fix {base : Int} {l : List Ld} {limit r : Int} : ∀ {f : Nat} {t : Int}, stGo base l limit f t = (r, 0) → r ≤ limit ∧ roundWhy base l r = 0 ∧ roundN base l r = r
  | 0, _, h => by cases h
  | f + 1, t, h => by
    unfold stGo at h
    split at h
    · cases h
    · split at h
      · rename_i h2
        injection h with _ h3
        exact absurd h3 h2
      · split at h
        · rename_i h1 h2 h3
          injection h with h4 _
          subst h4
          exact ⟨by omega, by simpa using h2, h3⟩
        · exact stGo_fix h
/-- A search that ends well ends at a time that is the base and all that comes in that time. -/
theorem steps_fix {base : Int} {l : List Ld} {limit : Int} (h : (stepsY base l limit).2 = 0) :
    1 ≤ base ∧ base ≤ (stepsY base l limit).1 ∧ (stepsY base l limit).1 ≤ limit ∧ limit ≤ 4503599627370496 ∧ allWhy l (stepsY base l limit).1 = 0 ∧ base + allN l (stepsY base l limit).1 = (stepsY base l limit).1 := by
  generalize hS : stepsY base l limit = S at *
  obtain ⟨r, y⟩ := S
  dsimp only at h ⊢
  subst h
  unfold stepsY at hS
  split at hS
  · cases hS
  · split at hS
    · cases hS
    · rename_i h1 h2
      obtain ⟨a1, a2, a3⟩ := stGo_fix hS
      obtain ⟨b1, b2, b3, b4, b5, b6, b7⟩ := round_zero a2
      have hlim : inB limit 0 4503599627370496 = true := by
        rw [← Bool.not_eq_false]; exact fun e => h2 (.inr e)
      have h8 := totK_nonneg (lds_in b1).2 (inB_true.1 b3) (j := 0) l.length (Nat.zero_le _) (Nat.le_refl _)
      have h9 : totK l r 0 = 0 := rfl
      have h10 := (inB_true.1 b2).1
      have h11 := (inB_true.1 hlim).2
      refine ⟨h10, by omega, a1, h11, b4, by omega⟩
/-- A bound: what it is made of. -/
theorem bound_fix {mn sw : Int} {ts : List Tk} {ls : List Ln} {hs : List Th} {x : Tk} (hd : x.deadline ≤ 1099511627776) (hm : 0 ≤ lagT mn x) (h : (boundR mn sw ts ls hs x).2 = 0) :
    ∃ r : Int, (boundR mn sw ts ls hs x).1 = r + lagT mn x ∧ 1 ≤ baseN sw ts x ∧ baseN sw ts x ≤ r ∧ r ≤ x.deadline - lagT mn x ∧ allWhy (loadsL mn sw ts ls hs x.prio) r = 0 ∧ baseN sw ts x + allN (loadsL mn sw ts ls hs x.prio) r = r := by
  unfold boundR at *
  split at h
  · cases h
  · split at h
    · rename_i h1 h2
      obtain ⟨a1, a2, a3, a4, a5, a6⟩ := steps_fix h2
      rw [if_neg h1, if_pos h2]
      refine ⟨_, ?_, a1, a2, a3, a5, a6⟩
      dsimp only
      unfold wrap64
      omega
    · rename_i h1 h2
      exact absurd h h2
theorem bound_no {mn sw : Int} {ts : List Tk} {ls : List Ln} {hs : List Th} {x : Tk} (h : (boundR mn sw ts ls hs x).2 ≠ 0) : (boundR mn sw ts ls hs x).1 = 0 := by
  unfold boundR at *
  split
  · rfl
  · split
    · rename_i h1 h2
      rw [if_neg h1, if_pos h2] at h
      exact absurd rfl h
    · rfl
end Go.Proofs.Ytpdanmdpaanafaa

/- Packages demand and vergeref23: what loads come to; the walks of All. Conditions: lists that read. -/
import Derived.Test.YtgampofpabllbaaGreatRtBP
import Derived.Test.YtgampofpabllbaaGreatKeepL
import Derived.Test.YtgampofpabllbaaGreatVetH
namespace Go.Proofs.YtgampofpabllbaaGreat
open Go.RowKit Go.Shelf
attribute [local go_sem] Oper.semAt_some

/-- What the first k loads come to. -/
def totK (l : List Ld) (t : Int) : Nat → Int
  | 0 => 0
  | k + 1 => totK l t k + mostN (l.getD k ld0) t * (l.getD k ld0).cost
def allWhy (l : List Ld) (t : Int) : Int := if ldsWhy l ≠ 0 then 2 else if inB t 0 4503599627370496 = false then 1 else if 4503599627370496 < totK l t l.length then 10 else 0
def allN (l : List Ld) (t : Int) : Int := if allWhy l t = 0 then totK l t l.length else 0
theorem ld_mem {l : List Ld} {k : Nat} (hk : k < l.length) : l.getD k ld0 ∈ l := by
  have e : l.getD k ld0 = l[k] := by simp [List.getD, hk]
  rw [e]; exact List.getElem_mem hk
theorem totK_nonneg {l : List Ld} {t : Int} (h : ∀ x ∈ l, ldOk x = true) (ht : 0 ≤ t ∧ t ≤ 4503599627370496) {j : Nat} : ∀ k, j ≤ k → k ≤ l.length → totK l t j ≤ totK l t k
  | 0, hj, _ => by obtain rfl : j = 0 := by omega
                   exact Int.le_refl _
  | k + 1, hj, hk => by
    by_cases e : j = k + 1
    · subst e; exact Int.le_refl _
    · have ih := totK_nonneg h ht (j := j) k (by omega) (by omega)
      have hx := h _ (ld_mem (by omega : k < l.length))
      have h1 := (most_in hx ht).1
      have h2 := (ld_in hx).2.1
      have h3 := Int.mul_nonneg h1 h2
      show _ ≤ totK l t k + _
      omega
theorem all_form {l : List Ld} {t : Int} (h : ldsWhy l ≠ 0) : allWhy l t = 2 ∧ allN l t = 0 := by
  have : allWhy l t = 2 := by unfold allWhy; rw [if_pos h]
  exact ⟨this, by unfold allN; rw [this, if_neg (by simp)]⟩
theorem all_range {l : List Ld} {t : Int} (h : ldsWhy l = 0) (ht : inB t 0 4503599627370496 = false) : allWhy l t = 1 ∧ allN l t = 0 := by
  have : allWhy l t = 1 := by unfold allWhy; rw [if_neg (by simp [h]), if_pos ht]
  exact ⟨this, by unfold allN; rw [this, if_neg (by simp)]⟩
theorem all_over {l : List Ld} {t : Int} (h : ldsWhy l = 0) (ht : inB t 0 4503599627370496 = true) {k : Nat} (hk : k ≤ l.length) (ho : 4503599627370496 < totK l t k) : allWhy l t = 10 ∧ allN l t = 0 := by
  have h1 := totK_nonneg (lds_in h).2 (inB_true.1 ht) (j := k) l.length hk (Nat.le_refl _)
  have : allWhy l t = 10 := by unfold allWhy; rw [if_neg (by simp [h]), if_neg (by simp [ht]), if_pos (by omega)]
  exact ⟨this, by unfold allN; rw [this, if_neg (by simp)]⟩
theorem all_ok {l : List Ld} {t : Int} (h : ldsWhy l = 0) (ht : inB t 0 4503599627370496 = true) (ho : totK l t l.length ≤ 4503599627370496) : allWhy l t = 0 ∧ allN l t = totK l t l.length := by
  have : allWhy l t = 0 := by unfold allWhy; rw [if_neg (by simp [h]), if_neg (by simp [ht]), if_neg (by omega)]
  exact ⟨this, by unfold allN; rw [this, if_pos rfl]⟩
/-- Two numbers, and below the old heap nothing turned. -/
def RetN (n y : Int) (w : World) (e : Ending) (w' : World) : Prop := e = .returned (.tuple #[.int .i64 n, .int .i64 y]) ∧ Below w.heap.size w w'

end Go.Proofs.YtgampofpabllbaaGreat

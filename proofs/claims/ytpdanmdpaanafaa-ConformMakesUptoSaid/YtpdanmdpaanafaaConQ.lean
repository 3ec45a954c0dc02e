/- How many entries of a line conform: plain laws, no program in sight. -/
import Derived.Test.YtpdanmdpaanafaaConA
import Derived.Test.YtpdanmdpaanafaaConD
namespace Go.Proofs.Ytpdanmdpaanafaa
open Go.RowKit

def enters (who : Int) (m : Mk) : Bool := decide (m.kind = 4 ∧ m.who = who)
/-- The times of a line's entries among the first k. -/
def entT (who : Int) (ms : List Mk) : Nat → List Int
  | 0 => []
  | k + 1 => entT who ms k ++ if enters who (ms.getD k mk0) then [(ms.getD k mk0).time] else []
theorem entT_len (who : Int) (ms : List Mk) : ∀ k, (entT who ms k).length ≤ k
  | 0 => Nat.le_refl _
  | k + 1 => by
    have ih := entT_len who ms k
    show (entT who ms k ++ _).length ≤ _
    rw [List.length_append]
    split <;> simp <;> omega
def nearB (win t s : Int) : Bool := decide (IntKind.u64.wrap (IntKind.u64.wrap t - IntKind.u64.wrap s) < IntKind.u64.wrap win)
/-- How many of the first k are near. -/
def nearN (win t : Int) (ts : List Int) : Nat → Nat
  | 0 => 0
  | k + 1 => nearN win t ts k + if nearB win t (ts.getD k 0) then 1 else 0
theorem nearN_le (win t : Int) (ts : List Int) : ∀ k, nearN win t ts k ≤ k
  | 0 => Nat.le_refl _
  | k + 1 => by
    have ih := nearN_le win t ts k
    show nearN win t ts k + _ ≤ _
    split <;> omega
/-- As the document has it. -/
def fitsB (many win : Int) (ts : List Int) (t : Int) : Bool := ts.all (fun s => decide (s ≤ t)) && decide ((nearN win t ts ts.length : Int) < many)
/-- As conform has it. -/
def fitsC (many win : Int) (ts : List Int) (t : Int) : Bool :=
  !(decide (0 < ts.length) && decide (t < ts.getD (ts.length - 1) 0)) && !(decide (many ≤ (ts.length : Int)) && !apartB t (ts.getD (ts.length - many.toNat) 0) win)
def lineOk (who many win : Int) (ms : List Mk) (k : Nat) : Bool := !enters who (ms.getD k mk0) || fitsB many win (entT who ms k) (ms.getD k mk0).time
def lineN (who many win : Int) (ms : List Mk) : Nat := (entT who ms (countOk (lineOk who many win ms) (List.range ms.length))).length
theorem rangeD {n k : Nat} (h : k < n) : (List.range n).getD k 0 = k := by simp [List.getD, h]
theorem lineN_at {who many win : Int} {ms : List Mk} {k : Nat} (hk : k < ms.length) (h : ∀ j, j < k → lineOk who many win ms j = true) (hb : lineOk who many win ms k = false) : lineN who many win ms = (entT who ms k).length := by
  unfold lineN
  rw [countOk_at (d := 0) (k := k) (by simpa using hk) (fun j hj => by rw [rangeD (by omega)]; exact h j hj) (by rw [rangeD hk]; exact hb)]
theorem lineN_all {who many win : Int} {ms : List Mk} (h : ∀ j, j < ms.length → lineOk who many win ms j = true) : lineN who many win ms = (entT who ms ms.length).length := by
  have := countOk_all (p := lineOk who many win ms) (d := 0) (l := List.range ms.length) (fun j hj => by
    have hj' : j < ms.length := by simpa using hj
    rw [rangeD hj']; exact h j hj')
  unfold lineN
  rw [this, List.length_range]

theorem entT_i64 {who : Int} {ms : List Mk} (h : ∀ k, k < ms.length → I64 (ms.getD k mk0).time) : ∀ k, k ≤ ms.length → ∀ s ∈ entT who ms k, I64 s
  | 0, _, _, hs => by cases hs
  | k + 1, hk, s, hs => by
    change s ∈ entT who ms k ++ _ at hs
    rcases List.mem_append.1 hs with hs | hs
    · exact entT_i64 h k (by omega) s hs
    · split at hs
      · simp at hs; subst hs; exact h k (by omega)
      · cases hs
/-- While all is right, the times rise. -/
theorem entT_sorted {who many win : Int} {ms : List Mk} : ∀ k, (∀ j, j < k → lineOk who many win ms j = true) → (entT who ms k).Pairwise (· ≤ ·)
  | 0, _ => List.Pairwise.nil
  | k + 1, h => by
    have ih := entT_sorted k (fun j hj => h j (by omega))
    have hk := h k (by omega)
    show (entT who ms k ++ _).Pairwise _
    split
    · rename_i he
      unfold lineOk at hk
      rw [he] at hk
      unfold fitsB at hk
      simp only [Bool.not_true, Bool.false_or, Bool.and_eq_true, List.all_eq_true, decide_eq_true_eq] at hk
      rw [List.pairwise_append]
      exact ⟨ih, List.pairwise_singleton _ _, fun a ha b hb => by simp at hb; subst hb; exact hk.1 a ha⟩
    · rw [List.append_nil]; exact ih

theorem near_iff {win t s : Int} (ht : I64 t) (hs : I64 s) (hst : s ≤ t) (hw : 0 ≤ win ∧ win < 9223372036854775808) : nearB win t s = decide (t - s < win) := by
  unfold nearB
  have e : IntKind.u64.wrap (IntKind.u64.wrap t - IntKind.u64.wrap s) = t - s := by
    unfold I64 at ht hs
    rw [IntKind.wrap_u64, IntKind.wrap_u64, IntKind.wrap_u64]
    omega
  have e2 : IntKind.u64.wrap win = win := by rw [IntKind.wrap_u64]; omega
  rw [e, e2]
theorem apart_iff {win t s : Int} (hst : s ≤ t) : apartB t s win = !nearB win t s := by
  unfold apartB nearB
  rw [decide_eq_true hst, Bool.true_and]
  rw [Bool.eq_iff_iff]
  simp
theorem nearN_take {win t : Int} {ts : List Int} : ∀ k, k ≤ ts.length → nearN win t ts k = (ts.take k).countP (nearB win t)
  | 0, _ => by simp [nearN]
  | k + 1, hk => by
    rw [List.take_succ_eq_append_getElem (by omega : k < ts.length), List.countP_append, ← nearN_take k (by omega)]
    show nearN win t ts k + _ = _
    congr 1
    have : ts.getD k 0 = ts[k] := by simp [List.getD, List.getElem?_eq_getElem (by omega : k < ts.length)]
    rw [this]
    simp [List.countP_cons]
theorem count_head {P : Int → Bool} : ∀ (r : List Int), r.Pairwise (fun a b => P b = true → P a = true) → ∀ m, (m + 1 ≤ r.countP P ↔ ∃ h : m < r.length, P r[m] = true)
  | [], _, m => by simp
  | a :: r, h, m => by
    obtain ⟨h1, h2⟩ := List.pairwise_cons.1 h
    have ih := count_head r h2
    by_cases ha : P a = true
    · rw [List.countP_cons, if_pos ha]
      cases m with
      | zero => simp [ha]
      | succ m =>
        have := ih m
        constructor
        · intro hm
          obtain ⟨hl, hp⟩ := this.1 (by omega)
          exact ⟨by simpa using hl, by simpa using hp⟩
        · rintro ⟨hl, hp⟩
          have := this.2 ⟨by simpa using hl, by simpa using hp⟩
          omega
    · have h0 : ∀ b ∈ r, ¬ P b = true := fun b hb hp => ha (h1 b hb hp)
      have hc : (a :: r).countP P = 0 := by
        rw [List.countP_eq_zero]
        intro b hb
        rcases List.mem_cons.1 hb with rfl | hb
        · exact ha
        · exact h0 b hb
      rw [hc]
      constructor
      · intro hm; omega
      · rintro ⟨hl, hp⟩
        cases m with
        | zero => exact absurd hp ha
        | succ m =>
          have hm : m < r.length := by simpa using hl
          have hp' : P r[m] = true := by simpa using hp
          exact absurd hp' (h0 _ (List.getElem_mem hm))
theorem fits_eq {many win t : Int} {ts : List Int} (hs : ts.Pairwise (· ≤ ·)) (ht : I64 t) (h64 : ∀ s ∈ ts, I64 s) (hm : 1 ≤ many) (hw : 0 ≤ win ∧ win < 9223372036854775808) : fitsC many win ts t = fitsB many win ts t := by
  by_cases hall : ∀ s ∈ ts, s ≤ t
  · have h1 : (!(decide (0 < ts.length) && decide (t < ts.getD (ts.length - 1) 0))) = true := by
      by_cases h0 : 0 < ts.length
      · have : ts.getD (ts.length - 1) 0 = ts[ts.length - 1] := by simp [List.getD, List.getElem?_eq_getElem (by omega : ts.length - 1 < ts.length)]
        rw [this]
        have := hall _ (List.getElem_mem (by omega : ts.length - 1 < ts.length))
        simp; omega
      · simp [h0]
    have h2 : ts.all (fun s => decide (s ≤ t)) = true := by simpa using hall
    unfold fitsC fitsB
    rw [h1, h2, Bool.true_and, Bool.true_and, nearN_take _ (Nat.le_refl _), List.take_length]
    have hp : ts.reverse.Pairwise (fun a b => nearB win t b = true → nearB win t a = true) := by
      rw [List.pairwise_reverse]
      refine hs.imp_of_mem fun {a b} ha hb hab hn => ?_
      rw [near_iff ht (h64 a ha) (hall a ha) hw] at hn
      rw [near_iff ht (h64 b hb) (hall b hb) hw]
      simp at hn ⊢; omega
    obtain ⟨m, rfl⟩ : ∃ m : Nat, many = (m : Int) + 1 := ⟨(many - 1).toNat, by omega⟩
    have hc := count_head _ hp m
    rw [List.countP_reverse] at hc
    rw [Bool.eq_iff_iff]
    have htn : ((m : Int) + 1).toNat = m + 1 := by omega
    rw [htn]
    by_cases hl : m < ts.length
    · have hi : ts.length - (m + 1) < ts.length := by omega
      have hg : ts.getD (ts.length - (m + 1)) 0 = ts[ts.length - (m + 1)] := by simp [List.getD, List.getElem?_eq_getElem hi]
      have hr : ts.reverse[m]'(by simpa using hl) = ts[ts.length - (m + 1)] := by
        rw [List.getElem_reverse]
        congr 1
        omega
      rw [hg, apart_iff (hall _ (List.getElem_mem hi))]
      have hd : decide ((m : Int) + 1 ≤ (ts.length : Int)) = true := by simp; omega
      rw [hd, Bool.true_and, Bool.not_not]
      have hc2 : m + 1 ≤ ts.countP (nearB win t) ↔ nearB win t ts[ts.length - (m + 1)] = true := by
        refine Iff.trans hc ?_
        constructor
        · rintro ⟨_, h⟩; rwa [hr] at h
        · intro h; exact ⟨by simpa using hl, by rw [hr]; exact h⟩
      constructor
      · intro h
        have h' : ¬ nearB win t ts[ts.length - (m + 1)] = true := by simpa using h
        simp only [decide_eq_true_eq]
        have := mt hc2.1 h'
        omega
      · intro h
        simp only [decide_eq_true_eq] at h
        have h' : ¬ nearB win t ts[ts.length - (m + 1)] = true := fun hn => by
          have := hc2.2 hn
          omega
        simpa using h'
    · have hd : decide ((m : Int) + 1 ≤ (ts.length : Int)) = false := by simp; omega
      rw [hd]
      have := List.countP_le_length (p := nearB win t) (l := ts)
      simp; omega
  · have h2 : ts.all (fun s => decide (s ≤ t)) = false := by
      rw [Bool.eq_false_iff]
      simpa using hall
    unfold fitsC fitsB
    rw [h2, Bool.false_and]
    obtain ⟨s, hs1, hs2⟩ : ∃ s, s ∈ ts ∧ t < s := by
      apply Classical.byContradiction
      intro hn
      exact hall fun s hs => Int.not_lt.1 fun h => hn ⟨s, hs, h⟩
    obtain ⟨i, hi, rfl⟩ := List.getElem_of_mem hs1
    have hl : ts.getD (ts.length - 1) 0 = ts[ts.length - 1] := by simp [List.getD, List.getElem?_eq_getElem (by omega : ts.length - 1 < ts.length)]
    have hle : ts[i] ≤ ts[ts.length - 1] := by
      by_cases e : i = ts.length - 1
      · subst e; exact Int.le_refl _
      · exact List.pairwise_iff_getElem.1 hs i (ts.length - 1) hi (by omega) (by omega)
    have h3 : decide (0 < ts.length) = true := by simp; omega
    have h4 : decide (t < ts.getD (ts.length - 1) 0) = true := by rw [hl]; simp; omega
    rw [h3, h4]
    rfl
end Go.Proofs.Ytpdanmdpaanafaa

/- Package assign: who is least urgent in a way that does is as well off in the next place: plain laws, no program in sight. -/
import Derived.Test.YtgampofpabllbaaGreatAsX1E
import Derived.Test.YtgampofpabllbaaGreatRtTWE
import Derived.Test.YtgampofpabllbaaGreatRange
import Derived.Test.YtgampofpabllbaaGreatKeepL
import Derived.Test.YtgampofpabllbaaGreatVetH
import Derived.Test.YtgampofpabllbaaGreatRound
namespace Go.Proofs.YtgampofpabllbaaGreat
open Go.RowKit

def sumL (t : Int) : List Ld → Int
  | [] => 0
  | x :: l => mostN x t * x.cost + sumL t l
theorem sumL_app (t : Int) : ∀ a b : List Ld, sumL t (a ++ b) = sumL t a + sumL t b
  | [], b => by show sumL t b = 0 + sumL t b; omega
  | x :: a, b => by
    show mostN x t * x.cost + sumL t (a ++ b) = mostN x t * x.cost + sumL t a + sumL t b
    rw [sumL_app t a b]; omega
theorem takeN {α : Type} {l : List α} {k : Nat} {d : α} (h : k < l.length) : l.take (k + 1) = l.take k ++ [l.getD k d] := by
  have e : l.getD k d = l[k] := by simp [List.getD, h]
  rw [e]; exact (List.take_append_getElem h).symm
theorem totK_take (t : Int) (l : List Ld) : ∀ k, k ≤ l.length → totK l t k = sumL t (l.take k)
  | 0, _ => rfl
  | k + 1, h => by
    rw [takeN (d := ld0) (by omega), sumL_app, ← totK_take t l k (by omega)]
    show totK l t k + mostN (l.getD k ld0) t * (l.getD k ld0).cost = totK l t k + (mostN (l.getD k ld0) t * (l.getD k ld0).cost + 0)
    omega
theorem totK_sum (t : Int) (l : List Ld) : totK l t l.length = sumL t l := by rw [totK_take t l _ (Nat.le_refl _), List.take_length]
def wT (mn sw t : Int) (x : Tk) : Int := mostN (urgT mn sw x) t * (x.cost + sw)
def uS (mn sw : Int) (ts : List Tk) (p t : Int) : Nat → Int
  | 0 => 0
  | k + 1 => uS mn sw ts p t k + if p < (ts.getD k tk0).prio then wT mn sw t (ts.getD k tk0) else 0
theorem urg_sum (mn sw : Int) (ts : List Tk) (p t : Int) : ∀ k, sumL t (urgL mn sw ts p k) = uS mn sw ts p t k
  | 0 => rfl
  | k + 1 => by
    show sumL t (urgL mn sw ts p k ++ _) = _
    rw [sumL_app, urg_sum mn sw ts p t k]
    show _ = uS mn sw ts p t k + _
    split
    · show _ + (mostN (urgT mn sw (ts.getD k tk0)) t * (urgT mn sw (ts.getD k tk0)).cost + 0) = _ + wT mn sw t _
      unfold wT urgT
      dsimp only
      omega
    · rfl
def hS (hs : List Th) (p t : Int) : Nat → Int
  | 0 => 0
  | k + 1 => hS hs p t k + if p < (hs.getD k ⟨0, 0, 0, 0⟩).prio then mostN (thL (hs.getD k ⟨0, 0, 0, 0⟩)) t * (hs.getD k ⟨0, 0, 0, 0⟩).budget else 0
theorem sup_sum (hs : List Th) (p t : Int) : ∀ k, sumL t (supT hs p k) = hS hs p t k
  | 0 => rfl
  | k + 1 => by
    show sumL t (supT hs p k ++ _) = _
    rw [sumL_app, sup_sum hs p t k]
    show _ = hS hs p t k + _
    split
    · show _ + (mostN (thL (hs.getD k ⟨0, 0, 0, 0⟩)) t * (thL (hs.getD k ⟨0, 0, 0, 0⟩)).cost + 0) = _
      have e : (thL (hs.getD k ⟨0, 0, 0, 0⟩)).cost = (hs.getD k ⟨0, 0, 0, 0⟩).budget := rfl
      rw [e]
      omega
    · rfl
theorem hS_anti {hs : List Th} {p q t : Int} (hh : ∀ x ∈ hs, ThIn x) (ht : 0 ≤ t ∧ t ≤ 4503599627370496) (hqp : q ≤ p) : ∀ k, k ≤ hs.length → hS hs p t k ≤ hS hs q t k
  | 0, _ => Int.le_refl _
  | k + 1, hk => by
    have ih := hS_anti hh ht hqp k (by omega)
    have hx := hh _ (getD_mem (d := ⟨0, 0, 0, 0⟩) (by omega : k < hs.length))
    have h1 := hx.budget; have h2 := hx.period
    have hok : ldOk (thL (hs.getD k ⟨0, 0, 0, 0⟩)) = true := by
      unfold ldOk cvOk thL
      dsimp only
      rw [decide_eq_true (by omega), decide_eq_true (by omega), decide_eq_true (by omega), decide_eq_true (by omega)]
      rfl
    have h3 := Int.mul_nonneg (most_in hok ht).1 (show 0 ≤ (hs.getD k ⟨0, 0, 0, 0⟩).budget by omega)
    show hS hs p t k + _ ≤ hS hs q t k + _
    split
    · rw [if_pos (by omega)]; omega
    · split <;> omega
theorem all_sum (mn sw : Int) (ts : List Tk) (ls : List Ln) (hs : List Th) (p t : Int) :
    totK (loadsL mn sw ts ls hs p) t (loadsL mn sw ts ls hs p).length = uS mn sw ts p t ts.length + (hS hs p t hs.length + sumL t (supLn ls ls.length)) := by
  rw [totK_sum]
  unfold loadsL supL
  rw [sumL_app, sumL_app, urg_sum, sup_sum]
theorem urgT_ok {mn sw : Int} {x : Tk} (h : TkIn x sw) (hmn : 1 ≤ mn ∧ mn ≤ 2147483648) (hsw : 0 ≤ sw) : ldOk (urgT mn sw x) = true := by
  have h1 := h.cost; have h2 := h.period; have h3 := h.late; have h4 := h.deadline
  have hl : 0 ≤ lagT mn x ∧ lagT mn x ≤ 2147483648 := by unfold lagT; split <;> omega
  unfold ldOk cvOk urgT
  dsimp only
  rw [decide_eq_true (by omega), decide_eq_true (by omega), decide_eq_true (by omega), decide_eq_true (by omega)]
  rfl
theorem most_one {x : Ld} {t : Int} (h : ldOk x = true) (ht : 1 ≤ t) : 1 ≤ mostN x t := by
  obtain ⟨⟨p1, p2⟩, ⟨j1, j2⟩, a1, a2⟩ := cv_in (ld_in h).1
  have h1 : 1 ≤ (t + x.jit + x.per - 1) / x.per := (Int.le_ediv_iff_mul_le (by omega)).2 (by omega)
  have h2 : 1 ≤ (t + x.ap - 1) / x.ap := (Int.le_ediv_iff_mul_le (by omega)).2 (by omega)
  unfold mostN
  rw [if_neg (by omega)]
  omega
/-- Two ways: in the one (D, q) a task does; in the other (T, p) it has a place that is no less, all that are more urgent there are so here, and what was more urgent and no longer is blocks now, at most. -/
structure Better (sw p q : Int) (D T : List Tk) : Prop where
  len : D.length = T.length
  same : ∀ k, k < D.length → ∃ r, T.getD k tk0 = { D.getD k tk0 with prio := r }
  up : ∀ k, k < D.length → p < (T.getD k tk0).prio → q < (D.getD k tk0).prio
  ge : ∀ k, k < D.length → p ≤ (T.getD k tk0).prio → q ≤ (D.getD k tk0).prio
  ne : ∀ k, k < D.length → (T.getD k tk0).prio < p → (D.getD k tk0).prio ≠ q
  tin : ∀ k, k < D.length → TkIn (D.getD k tk0) sw
/-- What is no longer more urgent. -/
def mS (p q : Int) (D T : List Tk) : Nat → Int
  | 0 => 0
  | k + 1 => mS p q D T k + if (T.getD k tk0).prio < p ∧ q < (D.getD k tk0).prio then (D.getD k tk0).cost else 0
theorem better_ceil {sw p q : Int} {D T : List Tk} (h : Better sw p q D T) (m : Int) (hq : 0 ≤ q) : ∀ k, k ≤ D.length → p ≤ ceilN T m k → (0 < p ∨ q ≤ 0) → q ≤ ceilN D m k
  | 0, _, h1, h2 => by
    have e : ceilN T m 0 = 0 := rfl
    have e2 : ceilN D m 0 = 0 := rfl
    rw [e] at h1
    rw [e2]
    omega
  | k + 1, hk, h1, h2 => by
    have ih := better_ceil h m hq k (by omega)
    obtain ⟨r, e⟩ := h.same k (by omega)
    have hg := h.ge k (by omega)
    have el : (T.getD k tk0).lock = (D.getD k tk0).lock := by rw [e]
    have h1' : p ≤ (if (T.getD k tk0).lock = m then max (ceilN T m k) (T.getD k tk0).prio else ceilN T m k) := h1
    show q ≤ (if (D.getD k tk0).lock = m then max (ceilN D m k) (D.getD k tk0).prio else ceilN D m k)
    rw [el] at h1'
    by_cases hl : (D.getD k tk0).lock = m
    · rw [if_pos hl] at h1' ⊢
      by_cases h3 : p ≤ ceilN T m k
      · have := ih h3 h2; omega
      · have := hg (by omega); omega
    · rw [if_neg hl] at h1' ⊢
      exact ih h1' h2
theorem block_nonneg {ts : List Tk} {p : Int} : ∀ k, 0 ≤ blockN ts p k
  | 0 => Int.le_refl _
  | k + 1 => by
    have ih := block_nonneg (ts := ts) (p := p) k
    show 0 ≤ (if blockB ts p (ts.getD k tk0) then max (blockN ts p k) ((ts.getD k tk0).hi - (ts.getD k tk0).lo) else blockN ts p k)
    split <;> omega
theorem mS_nonneg {sw p q : Int} {D T : List Tk} (h : Better sw p q D T) : ∀ k, k ≤ D.length → 0 ≤ mS p q D T k
  | 0, _ => Int.le_refl _
  | k + 1, hk => by
    have ih := mS_nonneg h k (by omega)
    have hx := (h.tin k (by omega)).cost
    show 0 ≤ mS p q D T k + _
    split <;> omega
theorem better_block {sw p q : Int} {D T : List Tk} (h : Better sw p q D T) (hq : 0 ≤ q) (hpq : q ≤ p) : ∀ k, k ≤ D.length → blockN T p k ≤ blockN D q k + mS p q D T k
  | 0, _ => Int.le_refl _
  | k + 1, hk => by
    have ih := better_block h hq hpq k (by omega)
    have hm := mS_nonneg h k (by omega)
    have hb := block_nonneg (ts := D) (p := q) k
    obtain ⟨r, e⟩ := h.same k (by omega)
    have hx := h.tin k (by omega)
    have hne := h.ne k (by omega)
    have el : (T.getD k tk0).lock = (D.getD k tk0).lock := by rw [e]
    have eh : (T.getD k tk0).hi = (D.getD k tk0).hi := by rw [e]
    have eo : (T.getD k tk0).lo = (D.getD k tk0).lo := by rw [e]
    have hc := hx.cost
    show (if blockB T p (T.getD k tk0) then max (blockN T p k) ((T.getD k tk0).hi - (T.getD k tk0).lo) else blockN T p k) ≤ (if blockB D q (D.getD k tk0) then max (blockN D q k) ((D.getD k tk0).hi - (D.getD k tk0).lo) else blockN D q k) + (mS p q D T k + if (T.getD k tk0).prio < p ∧ q < (D.getD k tk0).prio then (D.getD k tk0).cost else 0)
    by_cases hB : blockB T p (T.getD k tk0) = true
    · rw [if_pos hB, eh, eo]
      unfold blockB at hB
      simp only [Bool.and_eq_true, decide_eq_true_eq] at hB
      obtain ⟨⟨b1, b2⟩, b3⟩ := hB
      rw [el] at b2 b3
      have hh := hx.held b2
      by_cases hu : q < (D.getD k tk0).prio
      · rw [if_pos (c := (T.getD k tk0).prio < p ∧ q < (D.getD k tk0).prio) ⟨b1, hu⟩]
        split <;> omega
      · have hlt : (D.getD k tk0).prio < q := by have := hne b1; omega
        have hqc : q ≤ ceilN D (D.getD k tk0).lock D.length := by
          rw [← h.len] at b3
          exact better_ceil h _ hq _ (Nat.le_refl _) b3 (by have := hx.prio; omega)
        have hB2 : blockB D q (D.getD k tk0) = true := by
          unfold blockB
          rw [decide_eq_true hlt, decide_eq_true b2, decide_eq_true hqc]
          rfl
        rw [if_pos hB2, if_neg (fun h3 => hu h3.2)]
        omega
    · rw [if_neg hB]
      split <;> split <;> omega
theorem better_sum {mn sw p q t : Int} {D T : List Tk} (h : Better sw p q D T) (hmn : 1 ≤ mn ∧ mn ≤ 2147483648) (hsw : 0 ≤ sw) (ht : 1 ≤ t ∧ t ≤ 4503599627370496) : ∀ k, k ≤ D.length → uS mn sw T p t k + mS p q D T k ≤ uS mn sw D q t k
  | 0, _ => Int.le_refl _
  | k + 1, hk => by
    have ih := better_sum h hmn hsw ht k (by omega)
    obtain ⟨r, e⟩ := h.same k (by omega)
    have hx := h.tin k (by omega)
    have hok := urgT_ok hx hmn hsw
    have h1 := most_one hok ht.1
    have hc := hx.cost
    have eu : wT mn sw t (T.getD k tk0) = wT mn sw t (D.getD k tk0) := by rw [e]; rfl
    have hw : (D.getD k tk0).cost ≤ wT mn sw t (D.getD k tk0) := by
      unfold wT
      have h3 := Int.mul_le_mul_of_nonneg_right h1 (show 0 ≤ (D.getD k tk0).cost + sw by omega)
      omega
    have hup := h.up k (by omega)
    show uS mn sw T p t k + (if p < (T.getD k tk0).prio then wT mn sw t (T.getD k tk0) else 0) + (mS p q D T k + if (T.getD k tk0).prio < p ∧ q < (D.getD k tk0).prio then (D.getD k tk0).cost else 0) ≤ uS mn sw D q t k + if q < (D.getD k tk0).prio then wT mn sw t (D.getD k tk0) else 0
    rw [eu]
    by_cases g1 : p < (T.getD k tk0).prio
    · have g2 := hup g1
      rw [if_pos g1, if_pos g2, if_neg (by omega)]
      omega
    · rw [if_neg g1]
      by_cases g2 : q < (D.getD k tk0).prio
      · rw [if_pos g2]
        split <;> omega
      · rw [if_neg g2, if_neg (fun h3 => g2 h3.2)]
        omega
end Go.Proofs.YtgampofpabllbaaGreat
/- What a bound is: plain laws, no program in sight. -/
namespace Go.Proofs.YtgampofpabllbaaGreat
open Go.RowKit

theorem stGo_fix {base : Int} {l : List Ld} {limit r : Int} : ∀ {f : Nat} {t : Int}, stGo base l limit f t = (r, 0) → r ≤ limit ∧ roundWhy base l r = 0 ∧ roundN base l r = r
  | 0, _, h => by cases h
  | f + 1, t, h => by
    unfold stGo at h
    split at h
    · cases h
    · split at h
      · rename_i h2
        injection h with _ h3
        exact absurd h3 h2
      · split at h
        · rename_i h1 h2 h3
          injection h with h4 _
          subst h4
          exact ⟨by omega, by simpa using h2, h3⟩
        · exact stGo_fix h
/-- A search that ends well ends at a time that is the base and all that comes in that time. -/
theorem steps_fix {base : Int} {l : List Ld} {limit : Int} (h : (stepsY base l limit).2 = 0) :
    1 ≤ base ∧ base ≤ (stepsY base l limit).1 ∧ (stepsY base l limit).1 ≤ limit ∧ limit ≤ 4503599627370496 ∧ allWhy l (stepsY base l limit).1 = 0 ∧ base + allN l (stepsY base l limit).1 = (stepsY base l limit).1 := by
  generalize hS : stepsY base l limit = S at *
  obtain ⟨r, y⟩ := S
  dsimp only at h ⊢
  subst h
  unfold stepsY at hS
  split at hS
  · cases hS
  · split at hS
    · cases hS
    · rename_i h1 h2
      obtain ⟨a1, a2, a3⟩ := stGo_fix hS
      obtain ⟨b1, b2, b3, b4, b5, b6, b7⟩ := round_zero a2
      have hlim : inB limit 0 4503599627370496 = true := by
        rw [← Bool.not_eq_false]; exact fun e => h2 (.inr e)
      have h8 := totK_nonneg (lds_in b1).2 (inB_true.1 b3) (j := 0) l.length (Nat.zero_le _) (Nat.le_refl _)
      have h9 : totK l r 0 = 0 := rfl
      have h10 := (inB_true.1 b2).1
      have h11 := (inB_true.1 hlim).2
      refine ⟨h10, by omega, a1, h11, b4, by omega⟩
/-- A bound: what it is made of. -/
theorem bound_fix {mn sw : Int} {ts : List Tk} {ls : List Ln} {hs : List Th} {x : Tk} (hd : x.deadline ≤ 1099511627776) (hm : 0 ≤ lagT mn x) (h : (boundR mn sw ts ls hs x).2 = 0) :
    ∃ r : Int, (boundR mn sw ts ls hs x).1 = r + lagT mn x ∧ 1 ≤ baseN sw ts x ∧ baseN sw ts x ≤ r ∧ r ≤ x.deadline - lagT mn x ∧ allWhy (loadsL mn sw ts ls hs x.prio) r = 0 ∧ baseN sw ts x + allN (loadsL mn sw ts ls hs x.prio) r = r := by
  unfold boundR at *
  split at h
  · cases h
  · split at h
    · rename_i h1 h2
      obtain ⟨a1, a2, a3, a4, a5, a6⟩ := steps_fix h2
      rw [if_neg h1, if_pos h2]
      refine ⟨_, ?_, a1, a2, a3, a5, a6⟩
      dsimp only
      unfold wrap64
      omega
    · rename_i h1 h2
      exact absurd h h2
theorem bound_no {mn sw : Int} {ts : List Tk} {ls : List Ln} {hs : List Th} {x : Tk} (h : (boundR mn sw ts ls hs x).2 ≠ 0) : (boundR mn sw ts ls hs x).1 = 0 := by
  unfold boundR at *
  split
  · rfl
  · split
    · rename_i h1 h2
      rw [if_neg h1, if_pos h2] at h
      exact absurd rfl h
    · rfl
end Go.Proofs.YtgampofpabllbaaGreat
/- Package assign: where some dealing out does, places can be given out: plain laws, no program in sight. -/
namespace Go.Proofs.YtgampofpabllbaaGreat
open Go.RowKit

theorem stGo_ok {base : Int} {l : List Ld} {L r : Int} (hl : ldsWhy l = 0) (hL : r ≤ L) (hok : ∀ t, 1 ≤ t → t ≤ r → roundWhy base l t = 0 ∧ roundN base l t ≤ r) : ∀ {f : Nat} {t : Int}, 1 ≤ t → t ≤ r → t ≤ roundN base l t → (r - t).toNat < f → (stGo base l L f t).2 = 0
  | 0, _, _, _, _, h => absurd h (Nat.not_lt_zero _)
  | f + 1, t, h1, h2, h3, h4 => by
    obtain ⟨g1, g2⟩ := hok t h1 h2
    unfold stGo
    rw [if_neg (by omega), if_neg (by simp [g1])]
    split
    · rfl
    · rename_i hne
      obtain ⟨k1, k2⟩ := hok (roundN base l t) (by omega) g2
      obtain ⟨_, _, _, _, _, b6, b7⟩ := round_zero g1
      obtain ⟨_, _, _, _, _, c6, c7⟩ := round_zero k1
      have hm := totK_mono (lds_in hl).2 (show 0 ≤ t by omega) h3 l.length (Nat.le_refl _)
      exact stGo_ok hl hL hok (by omega) g2 (by rw [c6, c7]; omega) (by omega)
theorem better_bound {mn sw p q : Int} {D T : List Tk} {ls : List Ln} {hs : List Th} {x : Tk} (h : Better sw p q D T) (hmn : 1 ≤ mn ∧ mn ≤ 2147483648) (hsw : 0 ≤ sw ∧ sw ≤ 1099511627776) (hh : ∀ y ∈ hs, ThIn y) (hq : 0 ≤ q) (hpq : q ≤ p)
    (hx : TkIn x sw) (hxq : x.prio = q) (hd : x.deadline ≤ 4000) (hl : ldsWhy (loadsL mn sw T ls hs p) = 0) (hb : (boundR mn sw D ls hs x).2 = 0) : (boundR mn sw T ls hs { x with prio := p }).2 = 0 := by
  have hlag : 0 ≤ lagT mn x := by unfold lagT; split <;> omega
  obtain ⟨r, -, g1, g2, g3, g4, g5⟩ := bound_fix (show x.deadline ≤ 1099511627776 by omega) hlag hb
  have eB : baseN sw D x = x.cost + sw + blockN D q D.length := by unfold baseN; rw [hxq]
  have eT : baseN sw T { x with prio := p } = x.cost + sw + blockN T p T.length := rfl
  have hbl := better_block h hq hpq D.length (Nat.le_refl _)
  have hms := mS_nonneg h D.length (Nat.le_refl _)
  have hbn := block_nonneg (ts := T) (p := p) T.length
  rw [h.len] at hbl
  have hr0 : 0 ≤ r ∧ r ≤ 4503599627370496 := by omega
  have hsum := better_sum (mn := mn) h hmn hsw.1 (t := r) (by omega) D.length (Nat.le_refl _)
  have hanti := hS_anti hh hr0 hpq hs.length (Nat.le_refl _)
  have eL : allN (loadsL mn sw D ls hs x.prio) r = uS mn sw D q r D.length + (hS hs q r hs.length + sumL r (supLn ls ls.length)) := by
    unfold allN
    rw [if_pos g4, all_sum, hxq]
  have eL2 := all_sum mn sw T ls hs p r
  rw [← h.len] at eL2 hbl hbn eT
  have hlo := (lds_in hl).2
  have hk0 := totK_nonneg hlo hr0 (j := 0) (loadsL mn sw T ls hs p).length (Nat.zero_le _) (Nat.le_refl _)
  have hk1 : totK (loadsL mn sw T ls hs p) r 0 = 0 := rfl
  have hc := hx.cost
  have hbase : baseN sw T { x with prio := p } + totK (loadsL mn sw T ls hs p) r (loadsL mn sw T ls hs p).length ≤ r := by
    rw [eT, eL2]
    rw [eB, eL] at g5
    omega
  have hb1 : 1 ≤ baseN sw T { x with prio := p } := by rw [eT]; omega
  generalize hB : baseN sw T { x with prio := p } = bT at *
  have hok : ∀ t, 1 ≤ t → t ≤ r → roundWhy bT (loadsL mn sw T ls hs p) t = 0 ∧ roundN bT (loadsL mn sw T ls hs p) t ≤ r := fun t t1 t2 => by
    have hm := totK_mono hlo (show 0 ≤ t by omega) t2 _ (Nat.le_refl _)
    have ht0 := totK_nonneg hlo (show 0 ≤ t ∧ t ≤ 4503599627370496 by omega) (j := 0) (loadsL mn sw T ls hs p).length (Nat.zero_le _) (Nat.le_refl _)
    have ht1 : totK (loadsL mn sw T ls hs p) t 0 = 0 := rfl
    obtain ⟨a1, a2⟩ := all_ok hl (inB_true.2 (show 0 ≤ t ∧ t ≤ 4503599627370496 by omega)) (by omega)
    obtain ⟨e1, e2⟩ := (round_in (base := bT) (t := t) hl ⟨⟨hb1, by omega⟩, by omega, by omega⟩).2.2 a1 (by omega)
    exact ⟨e1, by rw [e2, a2]; omega⟩
  have hlim : inB (x.deadline - lagT mn x) 0 4503599627370496 = true := inB_true.2 (by omega)
  have hbb : inB bT 1 4503599627370496 = true := inB_true.2 (by omega)
  have hst : (stepsY bT (loadsL mn sw T ls hs p) (x.deadline - lagT mn x)).2 = 0 := by
    unfold stepsY
    rw [if_neg (by simp [hl]), if_neg (by rw [hbb, hlim]; simp)]
    refine stGo_ok hl g3 hok hb1 (by omega) ?_ (by omega)
    obtain ⟨k1, k2⟩ := hok bT hb1 (by omega)
    obtain ⟨_, _, _, b4, _, b6, _⟩ := round_zero k1
    have := (allN_in b4).1
    rw [b6]; omega
  unfold boundR
  have e3 : lagT mn { x with prio := p } = lagT mn x := rfl
  rw [e3]
  dsimp only
  rw [if_neg (by omega)]
  rw [hB, if_pos hst]
/-! the next place -/
def opIx : Nat → List Int → List Nat
  | _, [] => []
  | i, p :: g => if p = -1 then i :: opIx (i + 1) g else opIx (i + 1) g
theorem opIx_len : ∀ (i : Nat) (g : List Int), (opIx i g).length = opens g
  | _, [] => rfl
  | i, p :: g => by
    have ih := opIx_len (i + 1) g
    unfold opIx opens
    split
    · rw [List.length_cons]; omega
    · omega
theorem opIx_mem : ∀ {i : Nat} {g : List Int} {k : Nat}, k ∈ opIx i g → i ≤ k ∧ k < i + g.length ∧ g.getD (k - i) 0 = -1
  | i, p :: g, k, h => by
    unfold opIx at h
    have hrec : k ∈ opIx (i + 1) g → i ≤ k ∧ k < i + (p :: g).length ∧ (p :: g).getD (k - i) 0 = -1 := fun h => by
      obtain ⟨a, b, c⟩ := opIx_mem h
      refine ⟨by omega, by rw [List.length_cons]; omega, ?_⟩
      rw [show k - i = (k - (i + 1)) + 1 by omega]
      exact c
    split at h
    · rename_i h1
      rcases List.mem_cons.1 h with rfl | h
      · exact ⟨Nat.le_refl _, by simp, by rw [Nat.sub_self]; exact h1⟩
      · exact hrec h
    · exact hrec h
theorem opIx_nodup : ∀ (i : Nat) (g : List Int), (opIx i g).Nodup
  | _, [] => List.nodup_nil
  | i, p :: g => by
    unfold opIx
    split
    · refine List.nodup_cons.2 ⟨fun h => ?_, opIx_nodup (i + 1) g⟩
      have := (opIx_mem h).1
      omega
    · exact opIx_nodup (i + 1) g
theorem least_of (f : Nat → Int) : ∀ {l : List Nat}, l ≠ [] → ∃ x, x ∈ l ∧ ∀ y ∈ l, f x ≤ f y
  | [], h => absurd rfl h
  | [a], _ => ⟨a, by simp, fun y hy => by simp at hy; rw [hy]; exact Int.le_refl _⟩
  | a :: b :: l, _ => by
    obtain ⟨x, hx, hm⟩ := least_of f (l := b :: l) (by simp)
    by_cases h : f a ≤ f x
    · refine ⟨a, by simp, fun y hy => ?_⟩
      rcases List.mem_cons.1 hy with rfl | hy
      · exact Int.le_refl _
      · have := hm y hy; omega
    · refine ⟨x, by simp [hx], fun y hy => ?_⟩
      rcases List.mem_cons.1 hy with rfl | hy
      · omega
      · exact hm y hy
theorem nodup_len : ∀ {l m : List Int}, l.Nodup → (∀ x ∈ l, x ∈ m) → l.length ≤ m.length
  | [], _, _, _ => Nat.zero_le _
  | x :: l, m, hn, hs => by
    obtain ⟨n1, n2⟩ := List.nodup_cons.1 hn
    have hx : x ∈ m := hs x (by simp)
    have hlen : (m.erase x).length = m.length - 1 := List.length_erase_of_mem hx
    have hm : 0 < m.length := List.length_pos_of_mem hx
    have ih := nodup_len (l := l) (m := m.erase x) n2 fun y hy => (List.mem_erase_of_ne (fun e => n1 (by rw [← e]; exact hy))).2 (hs y (by simp [hy]))
    rw [List.length_cons]
    omega
/-- What is closed has places that are given, each its own. -/
structure Gd (pl : List Int) (m : Nat) (g : List Int) : Prop where
  val : ∀ l, l < g.length → g.getD l 0 ≠ -1 → ∃ r, r < m ∧ g.getD l 0 = pl.getD r 0
  inj : ∀ l k, l < k → k < g.length → g.getD l 0 ≠ -1 → g.getD l 0 ≠ g.getD k 0
theorem Gd.tail {pl : List Int} {m : Nat} {p : Int} {g : List Int} (h : Gd pl m (p :: g)) : Gd pl m g :=
  ⟨fun l hl hn => h.val (l + 1) (by simpa using hl) hn, fun l k hlk hk hn => h.inj (l + 1) (k + 1) (by omega) (by simpa using hk) hn⟩
/-- Where a value of a trial is from. -/
theorem trG_from {pl : List Int} {m task : Nat} {g : List Int} {i j : Nat} (_hg : Gd pl m g) {v : Int} (h : v ∈ trG pl m task i j g) :
    (v = pl.getD m 0 ∧ i ≤ task ∧ task < i + g.length) ∨ (∃ s, j ≤ s ∧ s < j + opens g ∧ (i ≤ task → task < i + g.length → g.getD (task - i) 0 = -1 → s + 1 < j + opens g) ∧ v = pl.getD s 0) ∨ ∃ l, l < g.length ∧ g.getD l 0 ≠ -1 ∧ v = g.getD l 0 := by
  obtain ⟨l, hl, e⟩ := List.getElem_of_mem h
  have hl2 : l < g.length := by rw [trG_len] at hl; exact hl
  have e2 : v = (trG pl m task i j g).getD l 0 := by rw [← e, getD_of hl]
  obtain ⟨a, b, c⟩ := trG_get pl m task g i j l hl2
  by_cases h1 : i + l = task
  · exact .inl ⟨by rw [e2, a h1], by omega, by omega⟩
  · by_cases h2 : g.getD l 0 = -1
    · obtain ⟨s, s1, s2, s3, s4⟩ := c h1 h2
      exact .inr (.inl ⟨s, s1, s2, s3, by rw [e2, s4]⟩)
    · exact .inr (.inr ⟨l, hl2, h2, by rw [e2, b h1 h2]⟩)
/-- How many places a trial may still take. -/
def Fits (n task i j : Nat) (g : List Int) : Prop := (i ≤ task ∧ task < i + g.length ∧ g.getD (task - i) 0 = -1 ∧ j + opens g ≤ n + 1) ∨ (task < i ∧ j + opens g ≤ n)
theorem trG_nodup {pl : List Int} {n m task : Nat} (hup : ∀ r s, r < s → s < n → pl.getD r 0 < pl.getD s 0) (hmn : m < n) : ∀ (g : List Int) (i j : Nat), m < j → Gd pl m g → Fits n task i j g → (trG pl m task i j g).Nodup ∧ ∀ v ∈ trG pl m task i j g, ∃ s, s < n ∧ v = pl.getD s 0
  | [], _, _, _, _, _ => ⟨List.nodup_nil, fun v h => by cases h⟩
  | p :: g, i, j, hj, hg, hf => by
    have hin : ∀ v ∈ trG pl m task i j (p :: g), ∃ s, s < n ∧ v = pl.getD s 0 := fun v hv => by
      rcases trG_from hg hv with ⟨h1, -⟩ | ⟨s, s1, s2, s3, s4⟩ | ⟨l, l1, l2, l3⟩
      · exact ⟨m, hmn, h1⟩
      · refine ⟨s, ?_, s4⟩
        rcases hf with ⟨f1, f2, f3, f4⟩ | ⟨f1, f2⟩
        · have h9 := s3 f1 f2 f3
          clear s3
          omega
        · clear s3
          omega
      · obtain ⟨r, r1, r2⟩ := hg.val l l1 l2
        exact ⟨r, Nat.lt_trans r1 hmn, by rw [l3, r2]⟩
    refine ⟨?_, hin⟩
    unfold trG at hin ⊢
    by_cases h1 : i = task
    · rw [if_pos h1] at hin ⊢
      have hf2 : Fits n task (i + 1) j g := by
        refine .inr ⟨by omega, ?_⟩
        rcases hf with ⟨f1, f2, f3, f4⟩ | ⟨f1, f2⟩
        · rw [h1, Nat.sub_self] at f3
          have f5 : p = -1 := f3
          unfold opens at f4
          rw [if_pos f5] at f4
          omega
        · omega
      refine List.nodup_cons.2 ⟨fun hv => ?_, (trG_nodup hup hmn g (i + 1) j hj hg.tail hf2).1⟩
      rcases trG_from hg.tail hv with ⟨-, g1, -⟩ | ⟨s, s1, s2, s3, s4⟩ | ⟨l, l1, l2, l3⟩
      · omega
      · clear s3
        have hs : s < n := by
          rcases hf2 with ⟨f1, _⟩ | ⟨f1, f2⟩
          · omega
          · omega
        have := hup m s (by omega) hs
        omega
      · obtain ⟨r, r1, r2⟩ := hg.tail.val l l1 l2
        have := hup r m r1 hmn
        omega
    · rw [if_neg h1] at hin ⊢
      by_cases h2 : p = -1
      · rw [if_pos h2] at hin ⊢
        have hop : opens (p :: g) = 1 + opens g := by
          show (if p = -1 then 1 else 0) + opens g = _
          rw [if_pos h2]
        have hf2 : Fits n task (i + 1) (j + 1) g := by
          rcases hf with ⟨f1, f2, f3, f4⟩ | ⟨f1, f2⟩
          · refine .inl ⟨by omega, by rw [List.length_cons] at f2; omega, ?_, by omega⟩
            rw [show task - i = (task - (i + 1)) + 1 by omega] at f3
            exact f3
          · exact .inr ⟨by omega, by omega⟩
        obtain ⟨n1, n2⟩ := trG_nodup hup hmn g (i + 1) (j + 1) (by omega) hg.tail hf2
        refine List.nodup_cons.2 ⟨fun hv => ?_, n1⟩
        have hjn : j < n := by
          rcases hf2 with ⟨f1, f2, f3, f4⟩ | ⟨f1, f2⟩
          · have h7 : opens g ≠ 0 := fun e => opens_none e (show task - (i + 1) < g.length by omega) f3
            omega
          · omega
        rcases trG_from hg.tail hv with ⟨g1, -, -⟩ | ⟨s, s1, s2, s3, s4⟩ | ⟨l, l1, l2, l3⟩
        · have := hup m j hj hjn
          omega
        · have hs : s < n := by
            rcases hf2 with ⟨f1, f2, f3, f4⟩ | ⟨f1, f2⟩
            · have h9 := s3 f1 f2 f3
              clear s3
              omega
            · clear s3
              omega
          have := hup j s (by omega) hs
          omega
        · obtain ⟨r, r1, r2⟩ := hg.tail.val l l1 l2
          have := hup r j (by omega) hjn
          omega
      · rw [if_neg h2] at hin ⊢
        have hop : opens (p :: g) = opens g := by
          show (if p = -1 then 1 else 0) + opens g = _
          rw [if_neg h2]; omega
        have hf2 : Fits n task (i + 1) j g := by
          rcases hf with ⟨f1, f2, f3, f4⟩ | ⟨f1, f2⟩
          · refine .inl ⟨by omega, by rw [List.length_cons] at f2; omega, ?_, by omega⟩
            rw [show task - i = (task - (i + 1)) + 1 by omega] at f3
            exact f3
          · exact .inr ⟨by omega, by omega⟩
        obtain ⟨n1, n2⟩ := trG_nodup hup hmn g (i + 1) j hj hg.tail hf2
        refine List.nodup_cons.2 ⟨fun hv => ?_, n1⟩
        obtain ⟨r0, q1, q2⟩ := hg.val 0 (by simp) h2
        have q3 : p = pl.getD r0 0 := q2
        rcases trG_from hg.tail hv with ⟨g1, -, -⟩ | ⟨s, s1, s2, s3, s4⟩ | ⟨l, l1, l2, l3⟩
        · have := hup r0 m q1 hmn
          omega
        · have hs : s < n := by
            rcases hf2 with ⟨f1, f2, f3, f4⟩ | ⟨f1, f2⟩
            · have h9 := s3 f1 f2 f3
              clear s3
              omega
            · clear s3
              omega
          have := hup r0 s (by omega) hs
          omega
        · exact hg.inj 0 (l + 1) (by omega) (by simpa using l1) h2 l3
end Go.Proofs.YtgampofpabllbaaGreat
/- Package assign: the walk of fits. Conditions: a deal's memory. -/
namespace Go.Proofs.YtgampofpabllbaaGreat
open Go.RowKit Go.Shelf

/-- Where the rest of a slice begins. -/
def rsA (a : Option Addr) (cap l : Nat) : Option Addr := if cap = l then a else a.map (·.add (l * 1))
theorem run_rest (a : Option Addr) (n cap l : Nat) (h : l ≤ n) (x : Int) (hx : x = l) (w : World) : (Instr.sliceAt 29 (.slice a n cap) (some (.int .i64 x)) none none).run Tryz.prog w = .ok (.slice (rsA a cap l) (n - l) (cap - l)) w := by
  subst hx
  have hz : ∀ w, (Go.sizeOf 3).run Tryz.prog w = .ok 1 w := fun w => by kernel_rfl
  simp [Instr.sliceAt, Instr.slice, Instr.sliceBounds, Instr.sliceBound, run_underlying Tryz.underlying29, go_sem, hz, rsA]
  intro h9
  exact absurd h9 (by omega)
theorem addr_z' (a : Addr) : a.add 0 = a := by unfold Addr.add; simp
theorem addr_plus (a : Addr) (l i : Nat) : (a.add l).add i = a.add (l + i) := by
  unfold Addr.add
  by_cases h1 : l = 0
  · subst h1; simp
  · by_cases h2 : i = 0
    · subst h2; simp [h1]
    · simp [h1, h2, Nat.add_assoc]
theorem Rd.rest {w : World} {A : Option Addr} {vs : List Value} {cap : Nat} (h : Rd w A vs) (hc : vs.length ≤ cap) (l : Nat) : Rd w (rsA A cap l) (vs.drop l) := fun i u hu => by
  rw [List.getElem?_drop] at hu
  have hlt : l + i < vs.length := (List.getElem?_eq_some_iff.1 hu).1
  obtain ⟨a, rfl, hc2⟩ := h _ _ hu
  unfold rsA
  rw [if_neg (by omega)]
  refine ⟨a.add (l * 1), rfl, ?_⟩
  rw [addr_plus, Nat.mul_one]
  exact hc2
section
variable {mn mx sw : Int} {nt nl nh p base : Nat} {c2 : Nat} {B2 : Option Addr} {d2 : Nat} {D2 : Option Addr} {e2 : Nat} {P : Option Addr} {cp : Nat} {G : Option Addr} {cg : Nat} {w : World} {T : List Tk} {L : List Ln} {H : List Th} {pl g : List Int} {m : Int} {V : World}
theorem DeI.drewN {A2 : Option Addr} (h : DeI mn mx sw nt nl nh p base A2 c2 B2 d2 D2 e2 P cp G cg w T L H pl g m V) (n : Nat) : DeI mn mx sw nt nl nh p base A2 c2 B2 d2 D2 e2 P cp G cg w T L H pl g m (V.drewN n) :=
  ⟨h.boxp, h.o1, h.o2, h.o3, h.op, h.og, h.ne, bdrewN h.low n, h.bl⟩
theorem DeI.putT {a : Addr} (h : DeI mn mx sw nt nl nh p base (some a) c2 B2 d2 D2 e2 P cp G cg w T L H pl g m V) {k : Nat} (hk : k < T.length) (v : Int) :
    DeI mn mx sw nt nl nh p base (some a) c2 B2 d2 D2 e2 P cp G cg w (T.set k { T.getD k tk0 with prio := v }) L H pl g m (V.setCell ⟨(a.add (k * 10)).block, (a.add (k * 10)).off + 1, none⟩ (.int .i64 v)) := by
  obtain ⟨b1, b2⟩ := own_blk h.o1 (k * 10)
  have b3 := own_apart_box h.o1 h.boxp (by decide)
  have b4 : p ≠ (a.add (k * 10)).block := fun e => b3 (by rw [b2, e])
  have bl := h.bl
  refine ⟨box_far h.boxp (p := ⟨(a.add (k * 10)).block, (a.add (k * 10)).off + 1, none⟩) b4 _, ?_, ?_, ?_, ?_, ?_, h.ne, h.low.setCell (p := ⟨(a.add (k * 10)).block, (a.add (k * 10)).off + 1, none⟩) (by show _ ≤ (a.add (k * 10)).block; omega) _, bl⟩
  · rw [← flat_set (f := tkc) (k := 10) (fun _ => rfl) (d := tk0) T k 1 _ (.int .i64 v) hk (by decide) rfl]; exact own_put h.o1 (k * 10) 1 _
  · exact own_setK h.o2 (p := ⟨(a.add (k * 10)).block, (a.add (k * 10)).off + 1, none⟩) (own_apart h.o1 h.o2 (by decide) b2) _
  · exact own_setK h.o3 (p := ⟨(a.add (k * 10)).block, (a.add (k * 10)).off + 1, none⟩) (own_apart h.o1 h.o3 (by decide) b2) _
  · exact own_setK h.op (p := ⟨(a.add (k * 10)).block, (a.add (k * 10)).off + 1, none⟩) (own_apart h.o1 h.op (by decide) b2) _
  · exact own_setK h.og (p := ⟨(a.add (k * 10)).block, (a.add (k * 10)).off + 1, none⟩) (own_apart h.o1 h.og (by decide) b2) _
end
theorem drop_cons {g : List Int} {k : Nat} (h : k < g.length) : g.drop k = g.getD k 0 :: g.drop (k + 1) := by
  have e : g.getD k 0 = g[k] := by simp [List.getD, h]
  rw [e]; exact List.drop_eq_getElem_cons h
/-- One step of a trial. -/
theorem trG_step {pl q g : List Int} {m i k j : Nat} (hk : k < g.length) (hq : k < q.length) (h : trG pl m i k j (g.drop k) = q.drop k) :
    (k = i → q.getD k 0 = pl.getD m 0 ∧ trG pl m i (k + 1) j (g.drop (k + 1)) = q.drop (k + 1)) ∧
    (k ≠ i → g.getD k 0 = -1 → q.getD k 0 = pl.getD j 0 ∧ trG pl m i (k + 1) (j + 1) (g.drop (k + 1)) = q.drop (k + 1)) ∧
    (k ≠ i → g.getD k 0 ≠ -1 → q.getD k 0 = g.getD k 0 ∧ trG pl m i (k + 1) j (g.drop (k + 1)) = q.drop (k + 1)) := by
  rw [drop_cons hk, drop_cons hq] at h
  unfold trG at h
  refine ⟨fun h1 => ?_, fun h1 h2 => ?_, fun h1 h2 => ?_⟩
  · rw [if_pos h1] at h
    injection h with a b
    exact ⟨a.symm, b⟩
  · rw [if_neg h1, if_pos h2] at h
    injection h with a b
    exact ⟨a.symm, b⟩
  · rw [if_neg h1, if_neg h2] at h
    injection h with a b
    exact ⟨a.symm, b⟩
theorem fits_step {n i k j : Nat} {g : List Int} (hk : k < g.length) (hf : Fits n i k j (g.drop k)) :
    (k = i → Fits n i (k + 1) j (g.drop (k + 1))) ∧ (k ≠ i → g.getD k 0 = -1 → j < n ∧ Fits n i (k + 1) (j + 1) (g.drop (k + 1))) ∧ (k ≠ i → g.getD k 0 ≠ -1 → Fits n i (k + 1) j (g.drop (k + 1))) := by
  rw [drop_cons hk] at hf
  generalize g.getD k 0 = p at *
  generalize g.drop (k + 1) = g' at *
  have hop : opens (p :: g') = (if p = -1 then 1 else 0) + opens g' := rfl
  rw [Fits, hop] at hf
  refine ⟨fun h1 => ?_, fun h1 h2 => ?_, fun h1 h2 => ?_⟩
  · rcases hf with ⟨f1, f2, f3, f4⟩ | ⟨f1, f2⟩
    · subst h1
      rw [Nat.sub_self] at f3
      have f5 : p = -1 := f3
      rw [if_pos f5] at f4
      exact .inr ⟨by omega, by omega⟩
    · omega
  · rw [if_pos h2] at hf
    rcases hf with ⟨f1, f2, f3, f4⟩ | ⟨f1, f2⟩
    · rw [show i - k = (i - (k + 1)) + 1 by omega] at f3
      have f3' : g'.getD (i - (k + 1)) 0 = -1 := f3
      rw [List.length_cons] at f2
      have h7 : opens g' ≠ 0 := fun e => opens_none e (show i - (k + 1) < g'.length by omega) f3'
      exact ⟨by omega, .inl ⟨by omega, by omega, f3', by omega⟩⟩
    · exact ⟨by omega, .inr ⟨by omega, by omega⟩⟩
  · rw [if_neg h2] at hf
    rcases hf with ⟨f1, f2, f3, f4⟩ | ⟨f1, f2⟩
    · rw [show i - k = (i - (k + 1)) + 1 by omega] at f3
      rw [List.length_cons] at f2
      exact .inl ⟨by omega, by omega, f3, by omega⟩
    · exact .inr ⟨by omega, by omega⟩
theorem opens_drop : ∀ (g : List Int) (k : Nat), opens (g.drop k) ≤ opens g
  | [], k => by simp
  | p :: g, 0 => Nat.le_refl _
  | p :: g, k + 1 => by
    have := opens_drop g k
    show opens (g.drop k) ≤ (if p = -1 then 1 else 0) + opens g
    omega
/-- Every block but s stays. -/
def ButOwn (s : Option Nat) (V W : World) : Prop := ∀ b o, V.heap[b]? = some o → s ≠ some b → W.heap[b]? = some o
theorem ButOwn.refl (s : Option Nat) (V : World) : ButOwn s V V := fun _ _ h _ => h
theorem ButOwn.below {s : Option Nat} {V W X : World} (h : ButOwn s V W) (hb : Below W.heap.size W X) : ButOwn s V X := fun b o ho hs => box_keep (h b o ho hs) hb
theorem ButOwn.drewN {s : Option Nat} {V W : World} (h : ButOwn s V W) (n : Nat) : ButOwn s V (W.drewN n) := h
theorem ButOwn.set {s : Option Nat} {V W : World} (h : ButOwn s V W) {p : Addr} {x : Nat} (hp : s = some x) (hx : p.block = x) (v : Value) : ButOwn s V (W.setCell p v) := fun b o ho hs => box_far (h b o ho hs) (fun e => hs (by rw [hp, e, hx])) v
set_option maxHeartbeats 4000000 in
set_option maxRecDepth 100000 in
theorem fits_any (mn mx sw : Int) (ts T : List Tk) (ls : List Ln) (hs : List Th) {p base : Nat} {A2 : Option Addr} {c2 : Nat} {B2 : Option Addr} {d2 : Nat} {D2 : Option Addr} {e2 : Nat} {P : Option Addr} {cp : Nat} {G : Option Addr} {cg : Nat} {w : World} {pl g : List Int} {m i : Nat} {V : World}
    (hlt0 : ts.length ≤ 1048576) (hll : ls.length ≤ 1048576) (hlh : hs.length ≤ 1048576) (hT : T.length = ts.length) (hTp : ∀ q, putP T q = putP ts q) (hpl : pl.length = ts.length) (hgl : g.length = ts.length) (hop : opens g + m = ts.length)
    (hi : i < ts.length) (hgi : g.getD i 0 = -1) (hmx : I64 mx) (h64 : ∀ v ∈ tryP pl m i g ++ hs.map (·.prio), I64 v)
    (h : DeI mn mx sw ts.length ls.length hs.length p base A2 c2 B2 d2 D2 e2 P cp G cg w T ls hs pl g m V) :
    Calls Tryz.prog 34 #[.pointer (some ⟨p, 0, none⟩), .int .i64 (i : Int)] V fun e w' => e = .returned (.bool (fitB mn mx sw ts ls hs pl m g i)) ∧
      DeI mn mx sw ts.length ls.length hs.length p base A2 c2 B2 d2 D2 e2 P cp G cg w (putP ts (tryP pl m i g)) ls hs pl g m w' ∧ KeepsOthers V w' ∧ ButOwn (Value.slice A2 ts.length c2).ownBlock V w' := by
  have hm : m < ts.length := by
    have h0 : opens g ≠ 0 := fun e => opens_none e (by rw [hgl]; exact hi) hgi
    omega
  have hcp : pl.length ≤ cp := by
    obtain ⟨A', c', hv, h1, _⟩ := own_sliceK h.op
    injection hv with _ _ h2
    omega
  have HI := Lib.hid h
  have f1 := Lib.hid (fun A ca B cb D cd w ht hl hh => rbound_any mn mx sw (putP ts (tryP pl m i g)) ls hs A ca B cb D cd (i : Int) w (by rw [putP_len]; exact hlt0) hll hlh ht hl hh hmx (by rw [putP_prios _ _ (by rw [tryP_len, hgl])]; exact h64))
  rw [putP_len, Int.toNat_natCast] at f1
  have HF : Hid (fitB mn mx sw ts ls hs pl m g i = ((if askY (Cf.why ⟨mn, mx, sw, putP ts (tryP pl m i g), ls, hs⟩) (putP ts (tryP pl m i g)) i = 0 then (boundR mn sw (putP ts (tryP pl m i g)) ls hs ((putP ts (tryP pl m i g)).getD i tk0)).2 else askY (Cf.why ⟨mn, mx, sw, putP ts (tryP pl m i g), ls, hs⟩) (putP ts (tryP pl m i g)) i) == 0)) := Lib.hid rfl
  have HEnd : Hid (pK T (tryP pl m i g) ts.length = putP ts (tryP pl m i g)) := Lib.hid (by rw [← hTp]; unfold putP; rw [hT])
  have HTry : Hid (trG pl m i 0 (m + 1) (g.drop 0) = (tryP pl m i g).drop 0) := Lib.hid rfl
  have HQl : Hid ((tryP pl m i g).length = ts.length) := Lib.hid (by rw [tryP_len, hgl])
  have HGi := Lib.hid hgi; have HTl := Lib.hid hT; have HGl := Lib.hid hgl; have HPl := Lib.hid hpl; have HOp := Lib.hid hop
  clear h hTp hmx h64 hgi
  unfold cfv RetN at *
  generalize fitB mn mx sw ts ls hs pl m g i = FB at *
  generalize (if askY (Cf.why ⟨mn, mx, sw, putP ts (tryP pl m i g), ls, hs⟩) (putP ts (tryP pl m i g)) i = 0 then (boundR mn sw (putP ts (tryP pl m i g)) ls hs ((putP ts (tryP pl m i g)).getD i tk0)).2 else askY (Cf.why ⟨mn, mx, sw, putP ts (tryP pl m i g), ls, hs⟩) (putP ts (tryP pl m i g)) i) = FY at *
  generalize (if askY (Cf.why ⟨mn, mx, sw, putP ts (tryP pl m i g), ls, hs⟩) (putP ts (tryP pl m i g)) i = 0 then (boundR mn sw (putP ts (tryP pl m i g)) ls hs ((putP ts (tryP pl m i g)).getD i tk0)).1 else 0) = FX at *
  generalize tryP pl m i g = q at *
  have e1 : IntKind.i64.wrap ((m : Int) + 1) = (m : Int) + 1 := IntWalk.i64_in _ (by omega)
  have s1 := Lib.hid (fun w => run_rest P pl.length cp (m + 1) (by omega) ((m : Int) + 1) (by omega) w)
  have s1' := s1.out
  have i1 : (0 : Int) ≤ (m : Int) := by omega
  have i2 : (m : Int) < (pl.length : Int) := by omega
  obtain ⟨px, py⟩ := box_rules HI.out.boxp
  have lp := box_lt HI.out.boxp
  clear hT hgl hpl hop
  go_enter Tryz.func34, Tryz.ntmps34
  go_upto_region 1 with fail
  go_quiet (fail)
  go_wp2
  go_loopw [5, 25] (fun r ix wr => ∃ (k j cr : Nat) (R : Option Addr), k ≤ ts.length ∧ ix = .int .i64 k ∧ r = .slice R (pl.length - j) cr ∧ pl.length - j ≤ cr ∧ j ≤ pl.length ∧ Hid (∀ wx, Rd wx P (pl.map (.int .i64)) → Rd wx R ((pl.drop j).map (.int .i64))) ∧ Hid (trG pl m i k j (g.drop k) = q.drop k) ∧ Hid (Fits ts.length i k j (g.drop k)) ∧
    Hid (DeI mn mx sw ts.length ls.length hs.length p base A2 c2 B2 d2 D2 e2 P cp G cg w (pK T q k) ls hs pl g m wr) ∧ Hid (KeepsOthers V wr) ∧ Hid (ButOwn (Value.slice A2 ts.length c2).ownBlock V wr)) (fun _ ix _ => ts.length - (intOf ix).toNat)
  case atStart =>
    refine ⟨0, m + 1, cp - (m + 1), rsA P cp (m + 1), by omega, rfl, rfl, by omega, by omega, Lib.hid (fun wx hr => ?_), HTry, Lib.hid (.inl ⟨Nat.zero_le _, ?_, ?_, ?_⟩), Lib.hid (HI.out.drewN _), Lib.hid (ko_drewN (KeepsOthers.refl V) _), Lib.hid ((ButOwn.refl _ V).drewN _)⟩
    · have h9 := hr.rest (cap := cp) (by rw [List.length_map]; exact hcp) (m + 1)
      rw [← List.map_drop] at h9
      exact h9
    · rw [List.drop_zero, Nat.zero_add, HGl.out]; exact hi
    · exact HGi.out
    · rw [List.drop_zero]; have := HOp.out; omega
  case round =>
    obtain ⟨k, j, cr, R, hk, rfl, rfl, hcr, hj, HRd, HTr, HFt, HIr, HKo, HBo⟩ := hrel
    clear px py s1' HTry
    obtain ⟨px, py⟩ := box_rules HIr.out.boxp
    by_cases hlt : k < ts.length
    · have hkT : k < (pK T q k).length := by rw [pK_len, HTl.out]; exact hlt
      obtain ⟨a, x, rfl, hx, ⟨-, z1, -, -⟩, -⟩ := (own_rdK HIr.out.o1).tkAt hkT
      have hbk := (own_blk HIr.out.o1 (k * 10)).2
      have fz := own_froz HIr.out.o1 (k * 10) 1
      obtain ⟨ag, rfl, gg⟩ := (own_rdK HIr.out.og).int (show k < g.length by rw [HGl.out]; exact hlt)
      have HS := Lib.hid (trG_step (by rw [HGl.out]; exact hlt) (by rw [HQl.out]; exact hlt) HTr.out)
      have HF2 := Lib.hid (fits_step (by rw [HGl.out]; exact hlt) HFt.out)
      have HPut := Lib.hid (fun n v => (HIr.out.drewN n).putT hkT v)
      have HPut0 := Lib.hid (fun v => HIr.out.putT hkT v)
      have lgg : (k : Int) < (g.length : Int) := by rw [HGl.out]; omega
      clear hx HTr HFt
      have HV : Hid (pK T q (k + 1) = (pK T q k).set k { (pK T q k).getD k tk0 with prio := q.getD k 0 }) := Lib.hid rfl
      by_cases hki : k = i
      · obtain ⟨t1, t2⟩ := HS.out.1 hki
        have HT2 := Lib.hid t2
        have HF3 := Lib.hid (HF2.out.1 hki)
        obtain ⟨ap, rfl, gp⟩ := (own_rdK HIr.out.op).int (show m < pl.length by omega)
        rw [← t1] at gp
        clear t1 t2 HS HF2 HGi
        subst hki
        generalize q.getD k 0 = v at *
        generalize g.getD k 0 = gk at *
        go_upto_region 6 with fail
        go_quiet (fail)
        go_wp2
        refine ⟨⟨k + 1, j, cr, R, by omega, by go_num, rfl, hcr, hj, HRd, HT2, HF3, Lib.hid ?_, Lib.hid (ko_set (ko_drewN HKo.out _) _ _), Lib.hid (by refine ButOwn.set (x := (a.add (k * 10)).block) ?_ hbk ?_ _ <;> first | exact HBo.out.drewN _ | rfl)⟩, ?_⟩
        · rw [HV.out]; exact HPut.out _ v
        · simp [intOf]; omega
      · have hki2 : ((k : Int) == (i : Int)) = false := by simp; omega
        by_cases hgk : g.getD k 0 = -1
        · obtain ⟨t1, t2⟩ := HS.out.2.1 hki hgk
          obtain ⟨hjn, f3⟩ := HF2.out.2.1 hki hgk
          have HT2 := Lib.hid t2; have HF3 := Lib.hid f3
          have hjl : j < pl.length := by rw [HPl.out]; exact hjn
          have hR := HRd.out _ (own_rdK HIr.out.op)
          obtain ⟨ar, rfl, gr⟩ := hR.get (i := 0) (by rw [List.length_map, List.length_drop]; omega)
          have HR2 := Lib.hid (fun wx (hr : Rd wx P (pl.map (.int .i64))) => (HRd.out wx hr).rest (cap := cr) (by rw [List.length_map, List.length_drop]; exact hcr) 1)
          have e9 : ((pl.drop j).map (Value.int .i64))[0]'(by rw [List.length_map, List.length_drop]; omega) = .int .i64 (q.getD k 0) := by
            rw [t1]
            simp [List.getD, hjl]
          rw [e9, addr_z'] at gr
          have s2 := run_rest (some ar) (pl.length - j) cr 1 (by omega) 1 rfl
          have i3 : (0 : Int) < ((pl.length - j : Nat) : Int) := by omega
          have i4 : ((pl.length - j : Nat) : Int) = (pl.length : Int) - (j : Int) := by omega
          have HI4 := Lib.hid i4
          rw [hgk] at gg
          clear t1 t2 f3 HS HF2 HGi hR HRd e9 hgk i4
          generalize q.getD k 0 = v at *
          go_upto_region 8 with fail
          go_quiet (fail)
          go_wp2
          refine ⟨⟨k + 1, j + 1, cr - 1, rsA (some ar) cr 1, by omega, by go_num, by rw [Nat.sub_sub], by omega, by omega, Lib.hid (fun wx hr => ?_), HT2, HF3, Lib.hid ?_, Lib.hid (ko_set (ko_drewN HKo.out _) _ _), Lib.hid (by refine ButOwn.set (x := (a.add (k * 10)).block) ?_ hbk ?_ _ <;> first | exact HBo.out.drewN _ | rfl)⟩, ?_⟩
          · have h9 := HR2.out wx hr
            rw [← List.map_drop, List.drop_drop] at h9
            exact h9
          · rw [HV.out]; exact HPut.out _ v
          · simp [intOf]; omega
        · obtain ⟨t1, t2⟩ := HS.out.2.2 hki hgk
          have HT2 := Lib.hid t2
          have HF3 := Lib.hid (HF2.out.2.2 hki hgk)
          rw [← t1] at gg hgk
          have hg2 : (q.getD k 0 == -1) = false := by simpa using hgk
          clear t1 t2 HS HF2 HGi hgk
          generalize q.getD k 0 = v at *
          go_wp2
          refine ⟨⟨k + 1, j, cr, R, by omega, by go_num, rfl, hcr, hj, HRd, HT2, HF3, Lib.hid ?_, Lib.hid (ko_set HKo.out _ _), Lib.hid (by refine ButOwn.set (x := (a.add (k * 10)).block) ?_ hbk ?_ _ <;> first | exact HBo.out | rfl)⟩, ?_⟩
          · rw [HV.out]; exact HPut0.out v
          · simp [intOf]; omega
    · obtain rfl : k = ts.length := by omega
      rw [HEnd.out] at HIr
      have hd0 : decide (ts.length < g.length) = false := by rw [HGl.out]; simp
      clear px py
      obtain ⟨px, py⟩ := box_rules HIr.out.boxp
      go_wp2_with fail
      refine (f1.out _ _ _ _ _ _ _ (own_rdK HIr.out.o1) (own_rdK HIr.out.o2) (own_rdK HIr.out.o3)).mono ?_
      rintro e w5 ⟨rfl, hb⟩
      have HI5 := Lib.hid (HIr.out.below hb)
      have HB5 := Lib.hid (HBo.out.below hb)
      have HK5 := Lib.hid (HKo.out.trans (ko_below hb))
      clear hb px py
      go_wp2
      go_ret
      exact ⟨by (rw [HF.out]; try rfl), HI5.out, HK5.out, HB5.out⟩
end Go.Proofs.YtgampofpabllbaaGreat
/- Package assign: the walks of open, and of what it hands back. Conditions: a deal's memory. -/
namespace Go.Proofs.YtgampofpabllbaaGreat
open Go.RowKit Go.Shelf
attribute [local go_sem] Oper.semAt_some

theorem opIx_app : ∀ (a b : List Int) (i : Nat), opIx i (a ++ b) = opIx i a ++ opIx (i + a.length) b
  | [], b, i => rfl
  | p :: a, b, i => by
    have ih := opIx_app a b (i + 1)
    show opIx i (p :: (a ++ b)) = opIx i (p :: a) ++ _
    have e : i + (p :: a).length = i + 1 + a.length := by rw [List.length_cons]; omega
    rw [e]
    have ec : ∀ (p : Int) (l : List Int) (i : Nat), opIx i (p :: l) = if p = -1 then i :: opIx (i + 1) l else opIx (i + 1) l := fun _ _ _ => rfl
    rw [ec, ec]
    split
    · rw [ih, List.cons_append]
    · exact ih
theorem opIx_take {g : List Int} {k : Nat} (h : k < g.length) : opIx 0 (g.take (k + 1)) = opIx 0 (g.take k) ++ (if g.getD k 0 = -1 then [k] else []) := by
  rw [takeP (d := 0) h, opIx_app]
  congr 1
  rw [Nat.zero_add, List.length_take, Nat.min_eq_left (by omega)]
  unfold opIx
  split
  · rfl
  · rfl
theorem opIx_pre (g : List Int) (k : Nat) : opIx 0 (g.take k) <+: opIx 0 g := by
  conv => rhs; rw [← List.take_append_drop k g]
  rw [opIx_app]
  exact List.prefix_append _ _
theorem firstFit_find (f : Nat → Bool) : ∀ (g : List Int) (i : Nat), firstFit f i g = (opIx i g).find? f
  | [], _ => rfl
  | p :: g, i => by
    unfold firstFit opIx
    by_cases h1 : p = -1
    · rw [if_pos h1]
      by_cases h2 : f i = true
      · rw [if_pos ⟨h1, h2⟩, List.find?_cons_of_pos h2]
      · rw [if_neg (fun h => h2 h.2), List.find?_cons_of_neg h2, firstFit_find f g]
    · rw [if_neg h1, if_neg (fun h => h1 h.1), firstFit_find f g]
/-- What is read from A stays. -/
def KeepsRd (A : Option Addr) (vs : List Value) (W W' : World) : Prop := Rd W A vs → Rd W' A vs
theorem KeepsRd.trans {A : Option Addr} {vs : List Value} {X Y Z : World} (h : KeepsRd A vs X Y) (k : KeepsRd A vs Y Z) : KeepsRd A vs X Z := fun hr => k (h hr)
theorem KeepsRd.put {A : Option Addr} {vs : List Value} : ∀ (W : World) (l : Nat) (o o' : Obj), W.heap[l]? = some o → o.isCells = false → KeepsRd A vs W (W.putObj l o') := fun W l o o' ho hc hr i u hu => by
  obtain ⟨a, ha, h1⟩ := hr i u hu
  refine ⟨a, ha, ?_⟩
  have hne : (a.add i).block ≠ l := fun e => by
    unfold World.cell? at h1
    rw [e, ho] at h1
    cases o <;> first | (cases hc; done) | (cases h1; done) | (simp at h1; done)
  have h2 : (W.putObj l o').heap[(a.add i).block]? = W.heap[(a.add i).block]? := World.putObj_heap_other hne
  unfold World.cell? at h1 ⊢
  rw [h2]
  exact h1
theorem dopen_any (p : Nat) (w : World) :
    Calls Tryz.prog 33 #[.pointer (some ⟨p, 0, none⟩)] w fun e w' =>
      e = .returned (.func (.func 49) #[] #[.pointer (some ⟨w.heap.size, 0, none⟩)]) ∧ w.alloc (.cells #[.pointer (some ⟨p, 0, none⟩)] 47) = w' := by
  go_enter Tryz.func33, Tryz.ntmps33
  go_wp2
  go_ret
  exact ⟨by simp, rfl⟩
set_option maxHeartbeats 4000000 in
set_option maxRecDepth 100000 in
/-- What open hands back. -/
theorem open_iter (q : Nat → Prop) (g : List Int) (G : Option Addr) (cg b1 p : Nat) (cs : Array Value) (w : World) (hl : g.length ≤ 1048576)
    (hb1 : w.heap[b1]? = some (.cells #[.pointer (some ⟨p, 0, none⟩)] 47 (0, 0)))
    (hbp : w.heap[p]? = some (.cells cs 50 (0, 0))) (hcs : cs[7]? = some (.slice G g.length cg)) (hr : Rd w G (g.map (.int .i64))) (hq : ∀ k, k < g.length → g.getD k 0 = -1 → q k) :
    SeqStopsK Fence.wide 8 Tryz.prog 49 #[.pointer (some ⟨b1, 0, none⟩)] (fun i : {i : Nat // q i} => #[.int .i64 (i.1 : Int)]) (KeepsRd G (g.map (.int .i64))) (fun xs => xs.map (·.1) = opIx 0 g) (fun pre => pre.map (·.1) <+: opIx 0 g) g.length w := fun ll J Jx W hW hJ hJx hY hJ0 => by
  have H1 := Lib.hid (box_keep hb1 hW)
  have H2 := Lib.hid (box_keep hbp hW)
  have HR := Lib.hid (hr.below hW)
  have HQ := Lib.hid hq
  have HY := Lib.hid hY; have HJ0 := Lib.hid hJ0
  have q7 : W.cell? ⟨p, 7, none⟩ = some (.slice G g.length cg) := by rw [(box_rules H2.out).1]; exact hcs
  clear hb1 hbp hcs hr hW hJ hJx hY hJ0 hq
  obtain ⟨hmx, hmy⟩ := box_rules H1.out
  refine callsIn_of_wp Tryz.func49 rfl trivial ?_ rfl
  simp only [Tryz.ntmps49, List.size_toArray, List.length_cons, List.length_nil, Nat.reduceAdd, Nat.reduceSub, Array.replicate_succ, Array.replicate_zero, List.push_toArray, List.append_toArray, List.nil_append, List.cons_append]
  gi_wp2
  gi_loopw [10] (fun i wr => ∃ k : Nat, k ≤ g.length ∧ i = .int .i64 k ∧ (∃ ys : List {i : Nat // q i}, Hid (ys.map (·.1) = opIx 0 (g.take k)) ∧ Hid (J ys wr)) ∧ Hid (Rd wr G (g.map (.int .i64)))) (fun i _ => g.length - (intOf i).toNat)
  case atStart => exact ⟨0, by omega, rfl, ⟨[], Lib.hid rfl, HJ0⟩, HR⟩
  case round =>
    obtain ⟨k, hk, rfl, ⟨ys, HYs, Hj⟩, HRr⟩ := hrel
    by_cases hlt : k < g.length
    · obtain ⟨a, rfl, gg⟩ := HRr.out.int hlt
      have HT := Lib.hid (opIx_take hlt)
      have HP := Lib.hid (opIx_pre g (k + 1))
      have HL := Lib.hid (Nat.lt_of_le_of_lt (show ys.length ≤ k by rw [← List.length_map (f := fun x : {i : Nat // q i} => x.1), HYs.out, opIx_len]; exact Nat.le_trans (opens_le _) (by rw [List.length_take]; omega)) hlt)
      have HQ2 := Lib.hid (HQ.out k hlt)
      generalize g.getD k 0 = gk at *
      by_cases hg : gk = -1
      · rw [if_pos hg] at HT
        subst hg
        have HY2 := Lib.hid (HY.out ys ⟨k, HQ2.out rfl⟩ wr Hj.out HL.out)
        obtain ⟨fn, tmps, assign, body, hy, hR⟩ := HY2.out
        have HRo := Lib.hid hR
        clear hR
        gi_wp2
        refine HRo.out.mono ?_
        rintro e W3 (⟨rfl, hJ4, hk4⟩ | ⟨rfl, hJx4⟩)
        · have HJ4 := Lib.hid hJ4; have HK4 := Lib.hid hk4
          clear hJ4 hk4
          gi_wp2
          go_roundw
          case rel => exact ⟨k + 1, by omega, by go_num, ⟨_, Lib.hid (by rw [HT.out, ← HYs.out, List.map_append]; rfl), HJ4⟩, Lib.hid (HK4.out HRr.out)⟩
          case measure => simp [intOf]; omega
        · have HJ4 := Lib.hid hJx4
          clear hJx4
          gi_wp2
          refine bodyPost_ret (results_none rfl _ _ _) rfl ?_
          exact ⟨⟨_, rfl⟩, .inr ⟨_, by rw [List.map_append, HYs.out, ← show opIx 0 (g.take (k + 1)) = opIx 0 (g.take k) ++ List.map (fun x : {i : Nat // q i} => x.1) [⟨k, HQ2.out rfl⟩] from HT.out]; exact HP.out, HJ4.out⟩⟩
      · rw [if_neg hg, List.append_nil] at HT
        have hg2 : (gk == -1) = false := by simpa using hg
        clear hg
        gi_wp2
        refine ⟨fun f hf => (by cases hf), ?_⟩
        gi_wp2
        go_roundw
        case rel => exact ⟨k + 1, by omega, by go_num, ⟨ys, Lib.hid (by rw [HT.out]; exact HYs.out), Hj⟩, HRr⟩
        case measure => simp [intOf]; omega
    · obtain rfl : k = g.length := by omega
      have hJ9 := HYs.out
      rw [List.take_of_length_le (Nat.le_refl _)] at hJ9
      have HJ9 := Lib.hid hJ9
      clear hJ9
      gi_wp2
      go_end0
      exact ⟨⟨_, rfl⟩, .inl ⟨ys, HJ9.out, Hj.out⟩⟩
end Go.Proofs.YtgampofpabllbaaGreat
/- Package assign: the walk of step. Conditions: a deal's memory. -/
namespace Go.Proofs.YtgampofpabllbaaGreat
open Go.RowKit Go.Shelf
attribute [local go_sem] Oper.semAt_some

def StI {α : Type} (fit : α → Bool) (Dl : World → Prop) (b1 p b2 : Nat) (pre : List α) (W : World) : Prop :=
  W.heap[b1]? = some (.cells #[.pointer (some ⟨p, 0, none⟩)] 47 (0, 0)) ∧ W.heap[b2]? = some (.cells #[.bool false] 4 (0, 0)) ∧ Dl W ∧ ∀ x ∈ pre, fit x = false
def StX {α : Type} (fit : α → Bool) (Dx : α → World → Prop) (b2 : Nat) (c : Code) (pre : List α) (W : World) : Prop :=
  c = .ret ∧ W.heap[b2]? = some (.cells #[.bool true] 4 (0, 0)) ∧ ∃ pre' i, pre = pre' ++ [i] ∧ (∀ x ∈ pre', fit x = false) ∧ fit i = true ∧ Dx i W
theorem stI_own {α : Type} {fit : α → Bool} {Dl : World → Prop} {b1 p b2 B : Nat} (h1 : b1 < B) (h2 : b2 < B) (hD : OwnFrom B (fun (_ : Unit) W => Dl W)) : OwnFrom B (StI fit Dl b1 p b2) := fun _ W W' row h hg hr =>
  ⟨ownFrom_box (β := Unit) h1 () W W' row h.1 hg hr, ownFrom_box (β := Unit) h2 () W W' row h.2.1 hg hr, hD () W W' row h.2.2.1 hg hr, h.2.2.2⟩
theorem stX_own {α : Type} {fit : α → Bool} {Dx : α → World → Prop} {b2 B : Nat} (h2 : b2 < B) (hD : ∀ i, OwnFrom B (fun (_ : Unit) W => Dx i W)) (c : Code) : OwnFrom B (StX fit Dx b2 c) := fun pre W W' row h hg hr => by
  obtain ⟨a, b, pre', i, e1, e2, e3, e4⟩ := h
  exact ⟨a, ownFrom_box (β := Unit) h2 () W W' row b hg hr, pre', i, e1, e2, e3, hD i () W W' row e4 hg hr⟩
theorem DeI.grown {mn mx sw : Int} {nt nl nh p base : Nat} {A2 : Option Addr} {c2 : Nat} {B2 : Option Addr} {d2 : Nat} {D2 : Option Addr} {e2 : Nat} {P : Option Addr} {cp : Nat} {G : Option Addr} {cg : Nat} {w : World} {T : List Tk} {L : List Ln} {H : List Th} {pl g : List Int} {m : Int} {W W' : World} {row : Option Nat}
    (h : DeI mn mx sw nt nl nh p base A2 c2 B2 d2 D2 e2 P cp G cg w T L H pl g m W) (hg : W.grownBy W' row) (hr : ∀ r, row = some r → w.heap.size ≤ r ∧ ∃ o : Obj, W.heap[r]? = some o ∧ o.isCells = false) : DeI mn mx sw nt nl nh p base A2 c2 B2 d2 D2 e2 P cp G cg w T L H pl g m W' := by
  have hrow : ∀ {base' : Nat} {e' : TypeId} {k' : Nat} {v' : Value} {n' : Nat} {vs' : List Value}, W.ownsRow base' e' k' v' n' vs' → W'.ownsRow base' e' k' v' n' vs' := fun hs =>
    own_keptK hs fun b hb => by
      obtain ⟨_, hlt, cur, hc⟩ := own_blockK hs hb
      refine hg.block b hlt (fun e => ?_)
      obtain ⟨_, o, ho, hcc⟩ := hr b e.symm
      rw [hc] at ho
      cases ho
      cases hcc
  refine ⟨?_, hrow h.o1, hrow h.o2, hrow h.o3, hrow h.op, hrow h.og, h.ne, h.low.grown hg h.low.size (fun k e => (hr k e).1), h.bl⟩
  refine (hg.block p (box_lt h.boxp) (fun e => ?_)).trans h.boxp
  obtain ⟨_, o, ho, hcc⟩ := hr p e.symm
  rw [h.boxp] at ho
  cases ho
  cases hcc
theorem own_at {w : World} {base : Nat} {e : TypeId} {k n c : Nat} {a : Addr} {vs : List Value} (h : w.ownsRow base e k (.slice (some a) n c) n vs) (m : Nat) : (⟨(a.add m).block, (a.add m).off + 0, none⟩ : Addr) = a.add m := by
  rcases h.2 with ⟨h1, _⟩ | ⟨g, cap, cur, h1, h2, h3, _⟩
  · cases h1
  · injection h1 with h1
    injection h1 with h1
    subst h1
    rw [add_zero_lit]
    rfl
/-- A place given to a task. -/
theorem DeI.give {mn mx sw : Int} {nt nl nh p base : Nat} {A2 : Option Addr} {c2 : Nat} {B2 : Option Addr} {d2 : Nat} {D2 : Option Addr} {e2 : Nat} {P : Option Addr} {cp : Nat} {a : Addr} {cg : Nat} {w : World} {T : List Tk} {L : List Ln} {H : List Th} {pl g : List Int} {m m' : Int} {W : World}
    (h : DeI mn mx sw nt nl nh p base A2 c2 B2 d2 D2 e2 P cp (some a) cg w T L H pl g m W) {i : Nat} (v : Int) :
    DeI mn mx sw nt nl nh p base A2 c2 B2 d2 D2 e2 P cp (some a) cg w T L H pl (g.set i v) m' ((W.setCell ⟨(a.add i).block, (a.add i).off + 0, none⟩ (.int .i64 v)).setCell ⟨p, 8, none⟩ (.int .i64 m')) := by
  obtain ⟨b1, b2⟩ := own_blk h.og i
  have b4 : p ≠ (a.add i).block := by omega
  have bl := h.bl
  have el : (g.set i v).length = g.length := List.length_set
  have ne2 : (Value.slice P pl.length cp).ownBlock ≠ some (a.add i).block := fun e => h.ne _ e b2
  have hrow : ∀ {base' : Nat} {e' : TypeId} {k' : Nat} {v' : Value} {n' : Nat} {vs' : List Value}, W.ownsRow base' e' k' v' n' vs' → v'.ownBlock ≠ some (a.add i).block → v'.ownBlock ≠ some p →
      ((W.setCell ⟨(a.add i).block, (a.add i).off + 0, none⟩ (.int .i64 v)).setCell ⟨p, 8, none⟩ (.int .i64 m')).ownsRow base' e' k' v' n' vs' := fun hs h1 h2 =>
    own_setK (p := ⟨p, 8, none⟩) (own_setK (p := ⟨(a.add i).block, (a.add i).off + 0, none⟩) hs h1 _) h2 _
  refine ⟨?_, hrow h.o1 (own_apart h.og h.o1 (by decide) b2) (own_apart_box h.o1 h.boxp (by decide)), hrow h.o2 (own_apart h.og h.o2 (by decide) b2) (own_apart_box h.o2 h.boxp (by decide)), hrow h.o3 (own_apart h.og h.o3 (by decide) b2) (own_apart_box h.o3 h.boxp (by decide)),
    hrow h.op ne2 (own_apart_box h.op h.boxp (by decide)), ?_, by rw [el]; exact h.ne, ?_, bl⟩
  · rw [el]
    exact box_set (i := 8) (box_far h.boxp (p := ⟨(a.add i).block, (a.add i).off + 0, none⟩) b4 _) _
  · have hp := own_put h.og i 0 (.int .i64 v)
    rw [Nat.add_zero] at hp
    rw [el, List.map_set]
    refine own_setK (p := ⟨p, 8, none⟩) ?_ (own_apart_box h.og h.boxp (by decide)) _
    exact hp
  · exact (h.low.setCell (p := ⟨(a.add i).block, (a.add i).off + 0, none⟩) (by show _ ≤ (a.add i).block; omega) _).setCell (p := ⟨p, 8, none⟩) (by show _ ≤ p; omega) _
theorem DeI.setBox {mn mx sw : Int} {nt nl nh p base : Nat} {A2 : Option Addr} {c2 : Nat} {B2 : Option Addr} {d2 : Nat} {D2 : Option Addr} {e2 : Nat} {P : Option Addr} {cp : Nat} {G : Option Addr} {cg : Nat} {w : World} {T : List Tk} {L : List Ln} {H : List Th} {pl g : List Int} {m : Int} {W : World}
    (h : DeI mn mx sw nt nl nh p base A2 c2 B2 d2 D2 e2 P cp G cg w T L H pl g m W) {D : Nat} {cs : Array Value} {t : TypeId} (hD : W.heap[D]? = some (.cells cs t (0, 0))) (ht : (43 ≠ t ∧ 58 ≠ t) ∧ 60 ≠ t ∧ 3 ≠ t) (hpD : p ≠ D) (hw : w.heap.size ≤ D) (k : Nat) (v : Value) :
    DeI mn mx sw nt nl nh p base A2 c2 B2 d2 D2 e2 P cp G cg w T L H pl g m (W.setCell ⟨D, k, none⟩ v) :=
  ⟨box_far h.boxp (p := ⟨D, k, none⟩) hpD _, own_setK (p := ⟨D, k, none⟩) h.o1 (own_apart_box h.o1 hD ht.1.1) _, own_setK (p := ⟨D, k, none⟩) h.o2 (own_apart_box h.o2 hD ht.1.2) _, own_setK (p := ⟨D, k, none⟩) h.o3 (own_apart_box h.o3 hD ht.2.1) _,
    own_setK (p := ⟨D, k, none⟩) h.op (own_apart_box h.op hD ht.2.2) _, own_setK (p := ⟨D, k, none⟩) h.og (own_apart_box h.og hD ht.2.2) _, h.ne, h.low.setCell (p := ⟨D, k, none⟩) hw _, h.bl⟩
set_option maxHeartbeats 4000000 in
set_option maxRecDepth 100000 in
theorem step_any (mn mx sw : Int) (ts : List Tk) (ls : List Ln) (hs : List Th) {p base : Nat} {A2 : Option Addr} {c2 : Nat} {B2 : Option Addr} {d2 : Nat} {D2 : Option Addr} {e2 : Nat} {P : Option Addr} {cp : Nat} {G : Option Addr} {cg : Nat} {w : World} {pl g : List Int} {m : Nat} {V : World}
    (hlt0 : ts.length ≤ 1048576) (hll : ls.length ≤ 1048576) (hlh : hs.length ≤ 1048576) (hpl : pl.length = ts.length) (hgl : g.length = ts.length) (hop : opens g + m = ts.length) (hm : m < ts.length)
    (hmx : I64 mx) (h64 : ∀ i, i < ts.length → g.getD i 0 = -1 → ∀ v ∈ tryP pl m i g ++ hs.map (·.prio), I64 v)
    (h : ∃ T : List Tk, T.length = ts.length ∧ (∀ q, putP T q = putP ts q) ∧ DeI mn mx sw ts.length ls.length hs.length p base A2 c2 B2 d2 D2 e2 P cp G cg w T ls hs pl g m V) :
    Calls Tryz.prog 21 #[.pointer (some ⟨p, 0, none⟩)] V fun e w' =>
      (firstFit (fitB mn mx sw ts ls hs pl m g) 0 g = none → e = .returned (.bool false) ∧ Below w.heap.size w w') ∧
      ∀ i, firstFit (fitB mn mx sw ts ls hs pl m g) 0 g = some i → e = .returned (.bool true) ∧ ∃ T : List Tk, T.length = ts.length ∧ (∀ q, putP T q = putP ts q) ∧ DeI mn mx sw ts.length ls.length hs.length p base A2 c2 B2 d2 D2 e2 P cp G cg w T ls hs pl (g.set i (pl.getD m 0)) ((m : Int) + 1) w' := by
  have f1 := Lib.hid (fun (T : List Tk) (i : Nat) (V : World) h1 h2 h3 h4 h5 => fits_any mn mx sw ts T ls hs (p := p) (base := base) (A2 := A2) (c2 := c2) (B2 := B2) (d2 := d2) (D2 := D2) (e2 := e2) (P := P) (cp := cp) (G := G) (cg := cg) (w := w) (pl := pl) (g := g) (m := m) (i := i) (V := V) hlt0 hll hlh h1 h2 hpl hgl hop h3 h4 hmx (h64 i h3 h4) h5)
  have f2 := Lib.hid (fun w => dopen_any p w)
  have HFind := Lib.hid (firstFit_find (fitB mn mx sw ts ls hs pl m g) g 0)
  have HMem := Lib.hid (fun k (h : k ∈ opIx 0 g) => opIx_mem h)
  have HPl := Lib.hid hpl; have HGl := Lib.hid hgl
  obtain ⟨T0, hT1, hT2, hD0⟩ := h
  have HD0 := Lib.hid hD0
  have HT1 := Lib.hid hT1; have HT2 := Lib.hid hT2
  have hgle : g.length ≤ 1048576 := by omega
  clear h64 hmx hpl hgl hD0 hT1 hT2 hop
  generalize fitB mn mx sw ts ls hs pl m g = fit at *
  refine calls_marks Tryz.func21 rfl ?_
  simp only [Tryz.ntmps21, List.size_toArray, List.length_cons, List.length_nil, Nat.reduceAdd, Nat.reduceSub, Array.replicate_succ, Array.replicate_zero, List.push_toArray, List.append_toArray, List.nil_append, List.cons_append]
  go_wp2_with (go_at_call 33; refine (f2.out _).mono ?_; rintro e w' ⟨rfl, rfl⟩)
  refine name_world fun W6 hW6 => ?_
  have hs6 : V.heap.size + 3 ≤ W6.heap.size := by rw [hW6]; simp
  have hD6 : DeI mn mx sw ts.length ls.length hs.length p base A2 c2 B2 d2 D2 e2 P cp G cg w T0 ls hs pl g m W6 := HD0.out.below (by rw [hW6]; exact (((Below.refl _ _).alloc (Nat.le_refl _) _).alloc (by simp) _).alloc (by simp; omega) _)
  have x0 : W6.heap[V.heap.size]? = some (.cells #[.pointer (some ⟨p, 0, none⟩)] 47 (0, 0)) := by rw [hW6]; exact box_alloc (box_alloc (heap_alloc_new _ _) _) _
  have x1 : W6.heap[V.heap.size + 1]? = some (.cells #[.bool false] 4 (0, 0)) := by rw [hW6]; exact box_alloc (heap_new_at _ (by simp)) _
  have x2 : W6.heap[V.heap.size + 1 + 1]? = some (.cells #[.pointer (some ⟨p, 0, none⟩)] 47 (0, 0)) := by rw [hW6]; exact heap_new_at _ (by simp)
  have hit := open_iter (fun i => i < ts.length ∧ g.getD i 0 = -1) g G cg (V.heap.size + 1 + 1) p _ W6 hgle x2 hD6.boxp rfl (own_rdK hD6.og) (fun k hk hg => ⟨by rw [← HGl.out]; exact hk, hg⟩)
  have hpV : p < V.heap.size := box_lt HD0.out.boxp
  have hgrow : ∀ {T : List Tk} {g' : List Int} {m' : Int} {W W' : World} {row : Option Nat}, DeI mn mx sw ts.length ls.length hs.length p base A2 c2 B2 d2 D2 e2 P cp G cg w T ls hs pl g' m' W → W.grownBy W' row → (∀ r, row = some r → W6.heap.size ≤ r ∧ ∃ o : Obj, W.heap[r]? = some o ∧ o.isCells = false) →
      DeI mn mx sw ts.length ls.length hs.length p base A2 c2 B2 d2 D2 e2 P cp G cg w T ls hs pl g' m' W' := fun h hg hr => h.grown hg (fun r e => ⟨Nat.le_trans hD6.low.size (hr r e).1, (hr r e).2⟩)
  have hI0 : StI (fun i : {i : Nat // i < ts.length ∧ g.getD i 0 = -1} => fit i.1) (fun W => ∃ T : List Tk, T.length = ts.length ∧ (∀ q, putP T q = putP ts q) ∧ DeI mn mx sw ts.length ls.length hs.length p base A2 c2 B2 d2 D2 e2 P cp G cg w T ls hs pl g m W) V.heap.size p (V.heap.size + 1) [] W6 :=
    ⟨x0, x1, ⟨T0, HT1.out, HT2.out, hD6⟩, fun _ h => by cases h⟩
  clear hW6 x0 x1 x2
  refine (wpIn_wide (n := 9)).1 (wpIn_rangeFunc_ownH (F := Fence.wide) (n := 9) rfl (by omega) rfl trivial (enters_of Tryz.func49 (by kernel_rfl) rfl) hit (fun h k => h.trans k) (fun W l o o' _ ho hc _ => KeepsRd.put W l o o' ho hc) (Below.refl _ _) (fun _ => rfl)
    (StI (fun i : {i : Nat // i < ts.length ∧ g.getD i 0 = -1} => fit i.1) (fun W => ∃ T : List Tk, T.length = ts.length ∧ (∀ q, putP T q = putP ts q) ∧ DeI mn mx sw ts.length ls.length hs.length p base A2 c2 B2 d2 D2 e2 P cp G cg w T ls hs pl g m W) V.heap.size p (V.heap.size + 1))
    (StX (fun i : {i : Nat // i < ts.length ∧ g.getD i 0 = -1} => fit i.1) (fun i W => ∃ T : List Tk, T.length = ts.length ∧ (∀ q, putP T q = putP ts q) ∧ DeI mn mx sw ts.length ls.length hs.length p base A2 c2 B2 d2 D2 e2 P cp G cg w T ls hs pl (g.set i.1 (pl.getD m 0)) ((m : Int) + 1) W) (V.heap.size + 1))
    (stI_own (by omega) (by omega) (fun _ W W' row h hg hr => by obtain ⟨T, a1, a2, a3⟩ := h; exact ⟨T, a1, a2, hgrow a3 hg hr⟩))
    (stX_own (by omega) (fun i _ W W' row h hg hr => by obtain ⟨T, a1, a2, a3⟩ := h; exact ⟨T, a1, a2, hgrow a3 hg hr⟩)) hI0
    (fun x a' W => a' = { tmps := #[.pointer (some ⟨p, 0, none⟩), .pointer (some ⟨V.heap.size, 0, none⟩), .pointer (some ⟨V.heap.size + 1, 0, none⟩), .int .i64 (x.1 : Int), .pointer (some ⟨p, 0, none⟩), .func (.func 49) #[] #[.pointer (some ⟨V.heap.size + 1 + 1, 0, none⟩)], .int .i64 (x.1 : Int), undef, undef, undef, undef, undef, undef, undef, undef, undef, undef, undef, undef, undef, undef, undef, undef, undef, undef, undef, undef, undef, undef, undef, undef, undef, undef], defers := [] })
    (fun x a' s W W' row hs hg hr => hs)
    ?assign ?body ?done ?stop)
  case assign =>
    rintro l' pre ⟨i, hx⟩ W K hI hK
    dsimp only
    gi_wp2
    exact hK _ _ (KeepsFrom.refl _ _) (fun h => h) hI rfl
  case body =>
    rintro l' pre ⟨i, hi, hgi⟩ a' W hl' _ ⟨y0, y1, ⟨T, hT, hTp, hD⟩, hpre⟩ rfl hlen
    have fT := Lib.hid (f1.out T i W hT hTp hi hgi hD)
    have HD := Lib.hid hD
    have HTT := Lib.hid hTp; have HTL := Lib.hid hT
    have HPre := Lib.hid hpre
    have HY0 := Lib.hid y0; have HY1 := Lib.hid y1
    obtain ⟨k0x, k0y⟩ := box_rules y0
    obtain ⟨k1x, k1y⟩ := box_rules y1
    clear hD hT hTp hpre hI0 hit hgrow HFind
    dsimp only at fT ⊢
    have HV : Hid (∀ v, fit i = v → fit i = v) := Lib.hid (fun _ h => h)
    cases hfv : fit i with
    | true =>
      rw [hfv] at fT
      have HFv := Lib.hid hfv
      gi_upto_region 4 with (refine ⟨trivial, ?_⟩; gi_at_call 34; refine (callsIn_round fT.out).mono ?_; rintro e w3 ⟨rfl, hD3, hK3, hB3⟩)
      have HD3 := Lib.hid hD3; have HK3 := Lib.hid hK3; have HB3 := Lib.hid hB3
      have z0 := hB3 _ _ HY0.out (own_apart_box HD.out.o1 HY0.out (by decide))
      have z1 := hB3 _ _ HY1.out (own_apart_box HD.out.o1 HY1.out (by decide))
      have HZ0 := Lib.hid z0; have HZ1 := Lib.hid z1
      clear k0x k0y k1x k1y hD3 hK3 hB3 hfv fT
      obtain ⟨k0x, k0y⟩ := box_rules z0
      obtain ⟨k1x, k1y⟩ := box_rules z1
      obtain ⟨px, py⟩ := box_rules HD3.out.boxp
      obtain ⟨ap, rfl, gp⟩ := (own_rdK HD3.out.op).int (show m < pl.length by rw [HPl.out]; exact hm)
      obtain ⟨ag, rfl, gg⟩ := (own_rdK HD3.out.og).int (show i < g.length by rw [HGl.out]; exact hi)
      have fz : w3.frozen? (ag.add i) = false := own_froz HD3.out.og i 0
      have l1 : (0 : Int) ≤ (m : Int) := by omega
      have l2 : (m : Int) < (pl.length : Int) := by rw [HPl.out]; omega
      have l3 : (0 : Int) ≤ (i : Int) := by omega
      have l4 : (i : Int) < (g.length : Int) := by rw [HGl.out]; omega
      have HGive := Lib.hid (fun v m' => HD3.out.give (m' := m') (i := i) v)
      rw [own_at HD3.out.og i] at HGive
      have e1 : IntKind.i64.wrap ((m : Int) + 1) = (m : Int) + 1 := IntWalk.i64_in _ (by omega)
      clear z0 z1
      have HVv : ∃ v, Hid (pl.getD m 0 = v) := ⟨_, Lib.hid rfl⟩
      obtain ⟨v, HVv⟩ := HVv
      rw [HVv.out] at gp
      refine round_still_tail 16 (by repeat (first | exact letsOut_ownG | refine letsOut_then ?_ | refine letsOut_block ?_)) (by kernel_rfl) (by kernel_rfl) (by kernel_rfl) ?_
      simp only [List.take_succ_cons, List.take_zero, List.drop_succ_cons, List.drop_zero]
      repeat still_step
      refine wpStill_nil ?_
      go_wp2_with fail
      have q0 := box_far HZ0.out (p := ag.add i) (fun e => own_apart_box HD3.out.og HZ0.out (by decide) (by rw [(own_blk HD3.out.og i).2, ← e])) (.int .i64 v)
      have q1 := box_far HZ1.out (p := ag.add i) (fun e => own_apart_box HD3.out.og HZ1.out (by decide) (by rw [(own_blk HD3.out.og i).2, ← e])) (.int .i64 v)
      have q2 := box_far HD3.out.boxp (p := ag.add i) (fun e => own_apart_box HD3.out.og HD3.out.boxp (by decide) (by rw [(own_blk HD3.out.og i).2, ← e])) (.int .i64 v)
      have HQ1 := Lib.hid q1
      clear k0x k0y k1x k1y px py
      obtain ⟨k0x, k0y⟩ := box_rules q0
      obtain ⟨k1x, k1y⟩ := box_rules q1
      obtain ⟨px, py⟩ := box_rules q2
      clear q0 q1 q2
      gi_wp2
      refine ⟨(ko_drew (ko_set (ko_set (ko_set HK3.out _ _) _ _) _ _)).from _, rfl, box_set (t := 4) (cs := #[.bool false]) (i := 0) (box_far HQ1.out (p := ⟨p, 8, none⟩) (by show _ ≠ p; omega) _) _, pre, ⟨i, hi, hgi⟩, rfl, HPre.out, HFv.out, putP ts (tryP pl m i g), by rw [putP_len], fun q => putP_put _ _ _, ?_⟩
      show DeI mn mx sw ts.length ls.length hs.length p base A2 c2 B2 d2 D2 e2 (some ap) cp (some ag) cg w _ ls hs pl (g.set i (pl.getD m 0)) ((m : Int) + 1) _
      rw [HVv.out]
      exact ((HGive.out v _).setBox (D := V.heap.size + 1) (t := 4) (box_far HQ1.out (p := ⟨p, 8, none⟩) (by show _ ≠ p; omega) _) (by decide) (by omega) (by have := HD0.out.low.size; omega) 0 _).drewN 1
    | false =>
      rw [hfv] at fT
      have HFv := Lib.hid hfv
      gi_wp2_with (refine ⟨trivial, ?_⟩; gi_at_call 34; refine (callsIn_round fT.out).mono ?_; rintro e w3 ⟨rfl, hD3, hK3, hB3⟩)
      refine ⟨hK3.from _, fun _ => own_rdK hD3.og, hB3 _ _ HY0.out (own_apart_box HD.out.o1 HY0.out (by decide)), hB3 _ _ HY1.out (own_apart_box HD.out.o1 HY1.out (by decide)), ⟨_, by rw [putP_len], fun q => putP_put _ _ _, hD3⟩, ?_⟩
      intro x hx
      rcases List.mem_append.1 hx with h1 | h1
      · exact HPre.out x h1
      · obtain rfl := List.mem_singleton.1 h1
        exact HFv.out
  case done =>
    rintro D' xs W hD hS ⟨y0, y1, ⟨T, hT, hTp, hD⟩, hpre⟩ hK
    have HNone : Hid (firstFit fit 0 g = none) := Lib.hid (by
      rw [HFind.out, ← hS, List.find?_eq_none]
      intro x hx
      obtain ⟨y, hy, rfl⟩ := List.mem_map.1 hx
      rw [show fit y.1 = false from hpre y hy]
      decide)
    have HLow := Lib.hid hD.low
    have HY1 := Lib.hid y1
    obtain ⟨k1x, k1y⟩ := box_rules y1
    clear hS hT hTp hpre hD y0 y1 hI0 hit hgrow HFind
    go_wp2
    have h1 : (W.setCell ⟨V.heap.size + 1, 0, none⟩ (.bool false)).heap[V.heap.size + 1]? = some (.cells #[.bool false] 4 (0, 0)) := box_set (t := 4) (cs := #[.bool false]) (i := 0) HY1.out _
    have h3 : (W.setCell ⟨V.heap.size + 1, 0, none⟩ (.bool false)).heap[D']? = some (.deferred (some [])) := box_far hK (p := ⟨V.heap.size + 1, 0, none⟩) (by show _ ≠ V.heap.size + 1; omega) _
    have h4 : Below w.heap.size w (W.setCell ⟨V.heap.size + 1, 0, none⟩ (.bool false)) := HLow.out.setCell (p := ⟨V.heap.size + 1, 0, none⟩) (by show _ ≤ V.heap.size + 1; have := HD0.out.low.size; omega) _
    obtain ⟨p1, _⟩ := box_rules ((World.putObj_heap_other (o := .deferred none) (by omega : V.heap.size + 1 ≠ D')).trans h1)
    refine post_mark (v := .bool false) h3 (by simp [results, Tryz.f21, go_sem, p1]) ?_
    exact ⟨fun _ => ⟨rfl, h4.trans ((Below.refl _ _).grown (grownBy_putObj' _ D' _) h4.size (fun k e => by cases e; have := HD0.out.low.size; omega))⟩, fun i hi => by rw [HNone.out] at hi; cases hi⟩
  case stop =>
    rintro D' c pre W hD hSp ⟨rfl, y1, pre', i, rfl, hpre, hfi, T, hT, hTp, hD9⟩ hK
    have HSome : Hid (firstFit fit 0 g = some i.1) := Lib.hid (by
      rw [HFind.out]
      obtain ⟨rest, hr⟩ := hSp
      rw [← hr, List.map_append, List.append_assoc, List.find?_append, List.find?_eq_none.2 (fun x hx => by
        obtain ⟨y, hy, rfl⟩ := List.mem_map.1 hx
        rw [show fit y.1 = false from hpre y hy]
        decide)]
      show (i.1 :: rest).find? fit = _
      rw [List.find?_cons_of_pos hfi])
    have HD9 := Lib.hid hD9
    clear hSp hpre hD9 hI0 hit HFind
    dsimp only
    refine (wpIn_wide (n := 9)).2 ?_
    go_wp2
    obtain ⟨p1, _⟩ := box_rules ((World.putObj_heap_other (o := .deferred none) (by omega : V.heap.size + 1 ≠ D')).trans y1)
    refine post_mark (v := .bool true) hK (by simp [results, Tryz.f21, go_sem, p1]) ?_
    refine ⟨fun h => (by rw [HSome.out] at h; cases h), fun j hj => ⟨rfl, T, hT, hTp, ?_⟩⟩
    rw [HSome.out] at hj
    injection hj with hj
    subst hj
    exact hgrow HD9.out (grownBy_putObj' _ D' _) (fun k e => by cases e; exact ⟨by omega, _, hK, rfl⟩)
end Go.Proofs.YtgampofpabllbaaGreat
/- Package assign: the walk of Assign. Conditions: lists that read. -/
namespace Go.Proofs.YtgampofpabllbaaGreat
open Go.RowKit Go.Shelf
attribute [local go_sem] Oper.semAt_some

theorem trG_mem {pl : List Int} {m task : Nat} : ∀ {g : List Int} {i j : Nat} {v : Int}, v ∈ trG pl m task i j g → v ∈ g ∨ ∃ r, v = pl.getD r 0
  | [], _, _, _, h => by cases h
  | p :: g, i, j, v, h => by
    unfold trG at h
    split at h
    · rcases List.mem_cons.1 h with h | h
      · exact .inr ⟨_, h⟩
      · rcases trG_mem h with h | h
        · exact .inl (List.mem_cons_of_mem _ h)
        · exact .inr h
    · split at h
      · rcases List.mem_cons.1 h with h | h
        · exact .inr ⟨_, h⟩
        · rcases trG_mem h with h | h
          · exact .inl (List.mem_cons_of_mem _ h)
          · exact .inr h
      · rcases List.mem_cons.1 h with h | h
        · exact .inl (by rw [h]; exact List.mem_cons_self)
        · rcases trG_mem h with h | h
          · exact .inl (List.mem_cons_of_mem _ h)
          · exact .inr h
theorem pl_i64 {ts : List Tk} {sw : Int} (h : ∀ t ∈ ts, TkIn t sw) (r : Nat) : 0 ≤ (placesL ts).getD r 0 ∧ (placesL ts).getD r 0 ≤ 63 := by
  by_cases hr : r < ts.length
  · exact places_in h hr
  · have e : (placesL ts).getD r 0 = 0 := by
      have := places_len ts
      simp [List.getD, show (placesL ts).length ≤ r by omega]
    omega
theorem try_i64 {mn mx sw : Int} {ts : List Tk} {ls : List Ln} {hs : List Th} (h : Cf.why ⟨mn, mx, sw, ts, ls, hs⟩ = 0) {g : List Int} {m : Nat} (hg : Gv (placesL ts) ts.length m g) (i : Nat) :
    ∀ v ∈ tryP (placesL ts) m i g ++ hs.map (·.prio), I64 v := fun v hv => by
  have hc := cfIn_of h
  have hts := hc.ts
  have hhs := hc.hs
  dsimp only at hts hhs
  rcases List.mem_append.1 hv with h1 | h1
  · rcases trG_mem (show v ∈ trG _ _ _ _ _ _ from h1) with h2 | ⟨r, rfl⟩
    · obtain ⟨k, hk, ek⟩ := List.getElem_of_mem h2
      have hk2 : k < ts.length := by rw [← hg.len]; exact hk
      rcases hg.val k hk2 with h3 | ⟨r, _, h3⟩
      · rw [getD_of hk, ek] at h3
        subst h3
        exact ⟨by omega, by omega⟩
      · rw [getD_of hk, ek] at h3
        subst h3
        have := pl_i64 hts r
        exact ⟨by omega, by omega⟩
    · have := pl_i64 hts r
      exact ⟨by omega, by omega⟩
  · obtain ⟨x, hx, rfl⟩ := List.mem_map.1 h1
    have := (hhs x hx).prio
    exact ⟨by omega, by omega⟩
/-- What Assign answers. -/
def asgY (mn mx sw : Int) (ts : List Tk) (ls : List Ln) (hs : List Th) : Int :=
  if Cf.why ⟨mn, mx, sw, ts, ls, hs⟩ = 0 then (if asgP mn mx sw ts ls hs = none then 11 else 0) else Cf.why ⟨mn, mx, sw, ts, ls, hs⟩
def asgT (mn mx sw : Int) (ts : List Tk) (ls : List Ln) (hs : List Th) : List Tk := putP ts ((asgP mn mx sw ts ls hs).getD [])
set_option maxHeartbeats 4000000 in
set_option maxRecDepth 100000 in
theorem assign_any (mn mx sw : Int) (ts : List Tk) (ls : List Ln) (hs : List Th) (A : Option Addr) (ca : Nat) (B : Option Addr) (cb : Nat) (D : Option Addr) (cd : Nat) (w : World)
    (hlt0 : ts.length ≤ 1048576) (hll : ls.length ≤ 1048576) (hlh : hs.length ≤ 1048576)
    (ht : Rd w A (ts.flatMap tkc)) (hl : Rd w B (ls.flatMap lnc)) (hh : Rd w D (hs.flatMap thc)) (hmx : I64 mx) (ht64 : ∀ p ∈ ts.map (·.prio) ++ hs.map (·.prio), I64 p) :
    Calls Tryz.prog 8 #[cfv mn mx sw A ts.length ca B ls.length cb D hs.length cd] w (RetWi (asgY mn mx sw ts ls hs) mn mx sw ts.length ls.length hs.length (asgT mn mx sw ts ls hs) ls hs w) := by
  have c1 := Lib.hid (fun w ht hl hh => check_cfg mn mx sw ts ls hs A ca B cb D cd w hlt0 hll hlh ht hl hh hmx ht64)
  have Ht := Lib.hid ht; have Hl := Lib.hid hl; have Hh := Lib.hid hh
  clear ht hl hh ht64
  by_cases hy : Cf.why ⟨mn, mx, sw, ts, ls, hs⟩ = 0
  · have hc := cfIn_of hy
    have hn1 : 1 ≤ ts.length := hc.nt.1
    have hY : asgY mn mx sw ts ls hs = if asgP mn mx sw ts ls hs = none then 11 else 0 := if_pos hy
    rw [hY]
    rw [hy] at c1
    have c2 := Lib.hid (fun w ht hl hh => begin_any mn mx sw ts ls hs A ca B cb D cd w hn1 hlt0 hll hlh ht hl hh)
    have hpl : ∀ r, r < ts.length → (placesL ts).getD r 0 ≠ -1 := fun r hr => by have := pl_i64 (ts := ts) hc.ts r; omega
    have c3 := Lib.hid (fun (w : World) (p base : Nat) (A2 : Option Addr) (c2 : Nat) (B2 : Option Addr) (d2 : Nat) (D2 : Option Addr) (e2 : Nat) (P : Option Addr) (cp : Nat) (G : Option Addr) (cg : Nat) (g : List Int) (m : Nat) (V : World) (hg : Gv (placesL ts) ts.length m g) (hm : m < ts.length) =>
      step_any mn mx sw ts ls hs (p := p) (base := base) (A2 := A2) (c2 := c2) (B2 := B2) (d2 := d2) (D2 := D2) (e2 := e2) (P := P) (cp := cp) (G := G) (cg := cg) (w := w) (pl := placesL ts) (g := g) (m := m) (V := V) hlt0 hll hlh (places_len ts) hg.len hg.op hm hmx (fun i _ _ => try_i64 hy hg i))
    have c4 := Lib.hid (fun q Q cq w hq ht hl hh hq' => with36_any mn mx sw ts ls hs A ca B cb D cd q Q cq w hlt0 hll hlh (hq : q.length ≤ 1048576) ht hl hh hq')
    have HGo : Hid (asgGo (fitB mn mx sw ts ls hs (placesL ts)) (placesL ts) ts.length 0 (List.replicate ts.length (-1)) = asgP mn mx sw ts ls hs) := Lib.hid rfl
    have HG0 := Lib.hid (Gv.start (placesL ts) ts.length)
    have HGive := Lib.hid (fun (m i : Nat) (g : List Int) (h : Gv (placesL ts) ts.length m g) (hi : i < ts.length) (ho : g.getD i 0 = -1) (hm : m < ts.length) => h.give hi ho (hpl m hm))
    have HT : Hid (∀ gf, asgP mn mx sw ts ls hs = some gf → asgT mn mx sw ts ls hs = putP ts gf) := Lib.hid (fun gf h => by unfold asgT; rw [h]; rfl)
    clear hc hpl hY hmx hy
    generalize asgP mn mx sw ts ls hs = R at *
    generalize asgT mn mx sw ts ls hs = AT at *
    generalize placesL ts = pl at *
    generalize fitB mn mx sw ts ls hs pl = fit at *
    have HN := Lib.hid hn1; clear hn1
    unfold RetWi cfv at *
    go_enter Tryz.func8, Tryz.ntmps8
    go_upto_region 1 with fail
    refine name_world fun W hW => ?_
    have HC : Hid (W.heap[w.heap.size]? = some (.cells #[.int .i64 mn, .int .i64 mx, .int .i64 sw, .slice A ts.length ca, .slice B ls.length cb, .slice D hs.length cd] 28 (0, 0))) := Lib.hid (by rw [hW]; exact box_alloc (heap_alloc_new w _) _)
    have HZ : Hid (W.heap[w.heap.size + 1]? = some (.cells #[.int .i64 0, .int .i64 0, .int .i64 0, .slice none 0 0, .slice none 0 0, .slice none 0 0] 28 (0, 0))) := Lib.hid (by rw [hW]; exact heap_new_at _ (by simp))
    have HB : Hid (Below w.heap.size w W) := Lib.hid (by rw [hW]; exact ((Below.refl _ _).alloc (Nat.le_refl _) _).alloc (by simp) _)
    have sW : W.heap.size = w.heap.size + 2 := by rw [hW]; simp
    obtain ⟨cx, cy⟩ := box_rules HC.out
    clear hW
    go_wp2_with fail
    refine (c1.out _ (Ht.out.below HB.out) (Hl.out.below HB.out) (Hh.out.below HB.out)).mono ?_
    rintro e w1 ⟨rfl, hb⟩
    have HB1 := Lib.hid (HB.out.trans (hb.mono HB.out.size))
    have HC1 := Lib.hid (box_keep HC.out hb); have HZ1 := Lib.hid (box_keep HZ.out hb)
    have s1 : w.heap.size + 2 ≤ w1.heap.size := by have := hb.size; omega
    clear cx cy hb HC HZ HB c1
    obtain ⟨cx, cy⟩ := box_rules HC1.out
    go_wp2_with fail
    refine (c2.out _ (Ht.out.below HB1.out) (Hl.out.below HB1.out) (Hh.out.below HB1.out)).mono ?_
    rintro e w2 ⟨p, base, A2, e1, B2, e2, D2, e3, P, cp, G, cg, rfl, hD⟩
    have HD := Lib.hid hD
    clear hD cx cy
    go_wp2
    go_loopw [] (fun wr => ∃ (m : Nat) (g : List Int) (T : List Tk), m ≤ ts.length ∧ T.length = ts.length ∧ Hid (∀ q, putP T q = putP ts q) ∧ Hid (Gv pl ts.length m g) ∧ Hid (asgGo fit pl (ts.length - m) m g = R) ∧
      Hid (DeI mn mx sw ts.length ls.length hs.length p base A2 e1 B2 e2 D2 e3 P cp G cg w1 T ls hs pl g (m : Int) wr)) (fun wr => match wr.cell? ⟨p, 8, none⟩ with | some (.int _ m) => ts.length - m.toNat | _ => 0)
    case atStart => exact ⟨0, _, ts, by omega, rfl, Lib.hid (fun _ => rfl), HG0, HGo, HD⟩
    case round =>
      obtain ⟨m, g, T, hm, hT, HTp, HG, HA, HDr⟩ := hrel
      obtain ⟨px, py⟩ := box_rules HDr.out.boxp
      have HGl := Lib.hid HG.out.len
      have hc : decide ((m : Int) < (g.length : Int)) = decide (m < ts.length) := by rw [HGl.out]; simp
      have HM : Hid ((match wr.cell? ⟨p, 8, none⟩ with | some (.int _ m) => ts.length - m.toNat | _ => 0) = ts.length - m) := Lib.hid (by rw [px]; rfl)
      clear hc
      by_cases hlt : m < ts.length
      · have hd : decide (m < g.length) = true := by rw [HGl.out]; exact decide_eq_true hlt
        have cs := Lib.hid (c3.out w1 p base A2 e1 B2 e2 D2 e3 P cp G cg g m (wr.drewN 0) HG.out hlt ⟨T, hT, HTp.out, HDr.out⟩)
        go_upto_region 5 with fail
        go_quiet (fail)
        go_wp2_with fail
        refine (c3.out w1 p base A2 e1 B2 e2 D2 e3 P cp G cg g m _ HG.out hlt ⟨T, hT, HTp.out, HDr.out.drewN _⟩).mono ?_
        rintro e w5 ⟨h5n, h5s⟩
        have HN5 := Lib.hid h5n; have HS5 := Lib.hid h5s
        clear h5n h5s px py
        have hA := HA.out
        rw [show ts.length - m = (ts.length - (m + 1)) + 1 by omega] at hA
        have hA2 : (match firstFit (fit m g) 0 g with | none => none | some i => asgGo fit pl (ts.length - (m + 1)) (m + 1) (g.set i (pl.getD m 0))) = R := hA
        clear hA HA
        cases hf : firstFit (fit m g) 0 g with
        | none =>
          rw [hf] at hA2
          obtain ⟨rfl, h6⟩ := HN5.out hf
          have HZ2 := Lib.hid (box_keep HZ1.out h6)
          have HB2 := Lib.hid (HB1.out.trans (h6.mono HB1.out.size))
          subst hA2
          clear h6 HN5 HS5 hf
          obtain ⟨zx, zy⟩ := box_rules HZ2.out
          go_wp2
          refine bodyPost_ret (v := .tuple #[.agg #[.int .i64 0, .int .i64 0, .int .i64 0, .slice none 0 0, .slice none 0 0, .slice none 0 0], .int .i64 11]) ?_ rfl ?_
          · have h4 := box_set (i := 5) (box_set (i := 4) (box_set (i := 3) (box_set (i := 2) (box_set (i := 1) (box_set (i := 0) HZ2.out (.int .i64 0)) (.int .i64 0)) (.int .i64 0)) (.slice none 0 0)) (.slice none 0 0)) (.slice none 0 0)
            have hz := (box_rules h4).1
            simp [results, Tryz.f8, go_sem, hz]
          · refine ⟨rfl, ?_⟩
            repeat (with_reducible first | exact HB2.out | refine Below.setCell ?_ (by show w.heap.size ≤ w.heap.size + 1; omega) _)
        | some i =>
          rw [hf] at hA2
          obtain ⟨rfl, T5, hT5, hTp5, hD5⟩ := HS5.out i hf
          have HA5 := Lib.hid hA2; have HD5 := Lib.hid hD5; have HTp5 := Lib.hid hTp5
          have HG5 := Lib.hid (by
            obtain ⟨_, f2, f3, _⟩ := firstFit_at hf
            rw [Nat.sub_zero] at f3
            exact HGive.out m i g HG.out (by rw [← HGl.out]; omega) f3 hlt)
          clear hA2 hD5 hTp5 HN5 HS5 hf
          go_wp2
          refine ⟨⟨m + 1, _, T5, hlt, hT5, HTp5, HG5, HA5, HD5⟩, ?_⟩
          have h5 := (box_rules HD5.out.boxp).1 8
          rw [h5, HM.out]
          show ts.length - ((m : Int) + 1).toNat < ts.length - m
          omega
      · have hd : decide (m < g.length) = false := by rw [HGl.out]; exact decide_eq_false hlt
        obtain rfl : m = ts.length := by omega
        have HA2 := HA.out
        rw [Nat.sub_self] at HA2
        have hR : R = some g := HA2.symm
        clear HA2 HA
        subst hR
        have HT2 := Lib.hid (HT.out g rfl)
        go_upto_region 5 with fail
        go_quiet (fail)
        have hl8 := HGl.out
        have HW := Lib.hid (fun n => c4.out g G cg (wr.drewN n) (by omega) (Ht.out.below (HB1.out.trans ((HDr.out.drewN n).low.mono HB1.out.size))) (Hl.out.below (HB1.out.trans ((HDr.out.drewN n).low.mono HB1.out.size))) (Hh.out.below (HB1.out.trans ((HDr.out.drewN n).low.mono HB1.out.size))) (own_rdK (HDr.out.drewN n).og))
        rw [if_pos hl8] at HW
        have HZ2 := Lib.hid (box_keep HZ1.out HDr.out.low)
        have HB2 := Lib.hid (HB1.out.trans (HDr.out.low.mono HB1.out.size))
        obtain ⟨ex, ey⟩ := box_rules (box_keep HC1.out HDr.out.low)
        clear hl8 c2 c3 c4 HG HGo HG0 HGive
        go_upto_region 8 with fail
        go_region_law ((go_simp; go_at_call 12; refine (HW.out _).mono ?_; rintro e w5 ⟨-, h5, hb5⟩; obtain ⟨A5, a5, B5, b5, D5, d5, rfl, ho1, ho2, ho3⟩ := h5 rfl; have hb6 : Below wr.heap.size wr w5 := (by first | exact undrewN hb5 | exact undrew hb5 | exact hb5); have HZ5 := Lib.hid (box_keep HZ2.out hb6); have HB5 := Lib.hid (HB2.out.trans (hb6.mono HB2.out.size)); have HO1 := Lib.hid (own_monoK (base' := w.heap.size + 2) ho1 (by have := HDr.out.low.size; first | omega | (simp; omega))); have HO2 := Lib.hid (own_monoK (base' := w.heap.size + 2) ho2 (by have := HDr.out.low.size; first | omega | (simp; omega))); have HO3 := Lib.hid (own_monoK (base' := w.heap.size + 2) ho3 (by have := HDr.out.low.size; first | omega | (simp; omega))); clear ho1 ho2 ho3 hb5 hb6; obtain ⟨zx, zy⟩ := box_rules HZ5.out))
        all_goals (try go_wp2)
        all_goals
          refine bodyPost_ret (v := .tuple #[.agg #[.int .i64 mn, .int .i64 mx, .int .i64 sw, .slice A5 ts.length a5, .slice B5 ls.length b5, .slice D5 hs.length d5], .int .i64 0]) ?_ rfl ?_
          · have h4 := box_set (i := 5) (box_set (i := 4) (box_set (i := 3) (box_set (i := 2) (box_set (i := 1) (box_set (i := 0) HZ5.out (.int .i64 mn)) (.int .i64 mx)) (.int .i64 sw)) (.slice A5 ts.length a5)) (.slice B5 ls.length b5)) (.slice D5 hs.length d5)
            have hz := (box_rules h4).1
            simp [results, Tryz.f8, go_sem, hz]
          · refine ⟨⟨A5, a5, B5, b5, D5, d5, rfl, ?_, ?_, ?_⟩, ?_⟩
            · rw [HT2.out]
              refine own_monoK (base := w.heap.size + 2) ?_ (by omega)
              repeat (with_reducible first | exact HO1.out | refine own_setK ?_ (own_low HO1.out (by show w.heap.size + 1 < _; omega)) _)
            · refine own_monoK (base := w.heap.size + 2) ?_ (by omega)
              repeat (with_reducible first | exact HO2.out | refine own_setK ?_ (own_low HO2.out (by show w.heap.size + 1 < _; omega)) _)
            · refine own_monoK (base := w.heap.size + 2) ?_ (by omega)
              repeat (with_reducible first | exact HO3.out | refine own_setK ?_ (own_low HO3.out (by show w.heap.size + 1 < _; omega)) _)
            · repeat (with_reducible first | exact HB5.out | refine Below.setCell ?_ (by show w.heap.size ≤ w.heap.size + 1; omega) _)
  · have hY : asgY mn mx sw ts ls hs = Cf.why ⟨mn, mx, sw, ts, ls, hs⟩ := if_neg hy
    rw [hY]
    have hy2 : (Cf.why ⟨mn, mx, sw, ts, ls, hs⟩ != 0) = true := by simpa using hy
    generalize Cf.why ⟨mn, mx, sw, ts, ls, hs⟩ = y at *
    have HY := Lib.hid hy
    clear hY hmx hy
    unfold RetWi cfv at *
    go_enter Tryz.func8, Tryz.ntmps8
    go_upto_region 1 with fail
    refine name_world fun W hW => ?_
    have HC : Hid (W.heap[w.heap.size]? = some (.cells #[.int .i64 mn, .int .i64 mx, .int .i64 sw, .slice A ts.length ca, .slice B ls.length cb, .slice D hs.length cd] 28 (0, 0))) := Lib.hid (by rw [hW]; exact box_alloc (heap_alloc_new w _) _)
    have HZ : Hid (W.heap[w.heap.size + 1]? = some (.cells #[.int .i64 0, .int .i64 0, .int .i64 0, .slice none 0 0, .slice none 0 0, .slice none 0 0] 28 (0, 0))) := Lib.hid (by rw [hW]; exact heap_new_at _ (by simp))
    have HB : Hid (Below w.heap.size w W) := Lib.hid (by rw [hW]; exact ((Below.refl _ _).alloc (Nat.le_refl _) _).alloc (by simp) _)
    obtain ⟨cx, cy⟩ := box_rules HC.out
    clear hW
    go_wp2_with fail
    refine (c1.out _ (Ht.out.below HB.out) (Hl.out.below HB.out) (Hh.out.below HB.out)).mono ?_
    rintro e w1 ⟨rfl, hb⟩
    have HB1 := Lib.hid (HB.out.trans (hb.mono HB.out.size))
    have HZ1 := Lib.hid (box_keep HZ.out hb)
    clear cx cy hb HC HZ HB c1
    obtain ⟨zx, zy⟩ := box_rules HZ1.out
    go_wp2
    refine bodyPost_ret (v := .tuple #[.agg #[.int .i64 0, .int .i64 0, .int .i64 0, .slice none 0 0, .slice none 0 0, .slice none 0 0], .int .i64 y]) ?_ rfl ?_
    · have h4 := box_set (i := 5) (box_set (i := 4) (box_set (i := 3) (box_set (i := 2) (box_set (i := 1) (box_set (i := 0) HZ1.out (.int .i64 0)) (.int .i64 0)) (.int .i64 0)) (.slice none 0 0)) (.slice none 0 0)) (.slice none 0 0)
      have hz := (box_rules h4).1
      simp [results, Tryz.f8, go_sem, hz]
    · refine ⟨fun _ => rfl, fun h => absurd h HY.out, ?_⟩
      repeat (with_reducible first | exact HB1.out | refine Below.setCell ?_ (by show w.heap.size ≤ w.heap.size + 1; omega) _)
end Go.Proofs.YtgampofpabllbaaGreat
/- Package assign: the walk of Order. Conditions: lists that read. -/
namespace Go.Proofs.YtgampofpabllbaaGreat
open Go.RowKit Go.Shelf
attribute [local go_sem] Oper.semAt_some

/-- A task's priority by its place. -/
def prK (ts : List Tk) (i : Nat) : Int := (ts.getD i tk0).prio
/-- The tasks' places, the highest priority ahead. -/
def ordL (ts : List Tk) : List Nat := (List.range ts.length).mergeSort fun x y => decide (prK ts y ≤ prK ts x)
def rngI (n : Nat) : List Int := (List.range n).map fun i : Nat => (i : Int)
theorem rngI_snoc (n : Nat) : rngI (n + 1) = rngI n ++ [(n : Int)] := by unfold rngI; rw [List.range_succ, List.map_append]; rfl
theorem rngI_len (n : Nat) : (rngI n).length = n := by unfold rngI; simp
theorem rngI_get {n i : Nat} (h : i < (rngI n).length) : (rngI n)[i] = (i : Int) := by
  have h2 : (rngI n)[i]? = some (i : Int) := by
    unfold rngI
    rw [List.getElem?_map, List.getElem?_range (by rwa [rngI_len] at h)]
    rfl
  rw [List.getElem?_eq_getElem h] at h2
  injection h2
theorem ord_perm (ts : List Tk) : (ordL ts).Perm (List.range ts.length) := List.mergeSort_perm _ _
theorem ord_len (ts : List Tk) : (ordL ts).length = ts.length := by have := (ord_perm ts).length_eq; simpa using this
theorem ord_lt {ts : List Tk} {i : Nat} (h : i ∈ ordL ts) : i < ts.length := List.mem_range.1 ((ord_perm ts).mem_iff.1 h)
theorem ord_down (ts : List Tk) : List.Pairwise (fun x y => prK ts y ≤ prK ts x) (ordL ts) := by
  have h := List.pairwise_mergeSort (le := fun x y : Nat => decide (prK ts y ≤ prK ts x)) (fun a b c h1 h2 => by simp at *; omega) (fun a b => by simp; omega) (List.range ts.length)
  exact h.imp fun h => by simpa using h
theorem putRow_map {α : Type} [Inhabited α] (f : α → Int) (w : World) (g : Nat) (l : List α) : Go.Sort.putRow (fun x => Value.int .i64 (f x)) w g 0 l.toArray = Go.Sort.putRow (Value.int .i64) w g 0 (l.map f).toArray := by
  unfold Go.Sort.putRow
  congr 1
  funext c
  unfold Go.Sort.putCells
  congr 1
  funext k x
  simp only [List.size_toArray, List.length_map, Nat.zero_add, Nat.zero_le, true_and, Nat.sub_zero]
  by_cases h : k < l.length
  · rw [if_pos h, if_pos h]
    rw [getElem!_pos _ k (by simpa using h), getElem!_pos _ k (by simpa using h)]
    simp
  · rw [if_neg h, if_neg h]
set_option maxHeartbeats 4000000 in
set_option maxRecDepth 100000 in
/-- What Order sorts by. -/
theorem by_any (ts : List Tk) (A : Option Addr) (ca bC i j : Nat) (c0 c1 c2 c4 c5 : Value) (w : World) (hi : i < ts.length) (hj : j < ts.length)
    (hb : w.heap[bC]? = some (.cells #[c0, c1, c2, .slice A ts.length ca, c4, c5] 28 (0, 0))) (ht : Rd w A (ts.flatMap tkc)) :
    Calls Tryz.prog 27 #[.int .i64 (i : Int), .int .i64 (j : Int), .pointer (some ⟨bC, 0, none⟩)] w fun e w' => e = .returned (.int .i64 (Lib.compareInt (prK ts j) (prK ts i))) ∧ ∃ q, w' = w.drewN q := by
  obtain ⟨a, x, rfl, hx, ⟨-, z1, -, -⟩, -⟩ := ht.tkAt hi
  obtain ⟨a', y, ha, hy, ⟨-, y1, -, -⟩, -⟩ := ht.tkAt hj
  cases ha
  have e1 : prK ts i = x.prio := by unfold prK; rw [hx]
  have e2 : prK ts j = y.prio := by unfold prK; rw [hy]
  rw [e1, e2]
  obtain ⟨bx, by'⟩ := box_rules hb
  have l1 : (i : Int) < (ts.length : Int) := by omega
  have l2 : (j : Int) < (ts.length : Int) := by omega
  have hcon := Lib.hid (fun W => Tryz.cmp_Compare_int y.prio x.prio W)
  generalize x.prio = xp at *
  generalize y.prio = yp at *
  generalize Lib.compareInt yp xp = r at *
  clear hx hy ht hb e1 e2 hi hj
  go_enter Tryz.func27, Tryz.ntmps27
  go_upto_region 1 with fail
  refine still_tail 12 (by kernel_rfl) (by kernel_rfl) ?_
  simp only [List.take_succ_cons, List.take_zero, List.drop_succ_cons, List.drop_zero]
  repeat still_step
  refine wpStill_nil ?_
  go_wp2_with (go_at_call 28; refine (hcon.out _).mono ?_; rintro e w' ⟨rfl, rfl⟩)
  go_ret
  exact ⟨rfl, 1, rfl⟩
/-- The sort of the places. -/
theorem osort_any {ts : List Tk} {A : Option Addr} {ca bC g base cap : Nat} {c0 c1 c2 c4 c5 : Value} {w0 w : World} (h1 : 1 ≤ ts.length) (hn : ts.length ≤ 1048576) (hd : (ts.map (·.prio)).Nodup)
    (hb : w.heap[bC]? = some (.cells #[c0, c1, c2, .slice A ts.length ca, c4, c5] 28 (0, 0))) (hbg : bC < base) (ht : Rd w0 A (ts.flatMap tkc)) (h0 : Below w0.heap.size w0 w) (h0b : w0.heap.size ≤ base)
    (ho : w.ownsRow base 3 1 (.slice (some ⟨g, 0, none⟩) ts.length cap) ts.length ((rngI ts.length).map (.int .i64))) :
    Calls Tryz.prog 26 #[.slice (some ⟨g, 0, none⟩) ts.length cap, .func (.func 27) #[] #[.pointer (some ⟨bC, 0, none⟩)]] w fun e w' =>
      e = .returned (.tuple #[]) ∧ w'.ownsRow base 3 1 (.slice (some ⟨g, 0, none⟩) ts.length cap) ts.length ((ordL ts).map fun i : Nat => .int .i64 (i : Int)) ∧ Below w0.heap.size w0 w' ∧ w'.heap[bC]? = w.heap[bC]? := by
  have hgb : base ≤ g ∧ g < w.heap.size := by
    rcases ho.2 with ⟨h1, _⟩ | ⟨g', cap', cur, h1, h2, h3, _⟩
    · cases h1
    · injection h1 with h1
      injection h1 with h1
      injection h1 with h1
      subst h1
      exact ⟨h2, box_lt h3⟩
  letI : Inhabited (Fin ts.length) := ⟨⟨0, h1⟩⟩
  let f : Fin ts.length → Int := fun i => (i.1 : Int)
  let cf : Fin ts.length → Fin ts.length → Int := fun x y => Lib.compareInt (prK ts y.1) (prK ts x.1)
  have hlt : ∀ x y, ltOf cf x y = decide (prK ts y.1 < prK ts x.1) := fun x y => by
    show decide (Lib.compareInt (prK ts y.1) (prK ts x.1) < 0) = _
    unfold Lib.compareInt
    by_cases h1 : prK ts y.1 < prK ts x.1
    · simp [h1]
    · by_cases h2 : prK ts x.1 < prK ts y.1 <;> simp [h1, h2]
  have hO : Go.Sort.SWO (ltOf cf) := ⟨fun x => by rw [hlt]; simp, fun x y z h1 h2 => by rw [hlt] at *; simp at *; omega, fun x y z h1 h2 => by rw [hlt] at *; simp at *; omega⟩
  have hT : ∀ x y, (ltOf cf) x y = false → (ltOf cf) y x = false → x = y := fun x y h1 h2 => by
    rw [hlt] at h1 h2
    have e : prK ts x.1 = prK ts y.1 := by
      have := of_decide_eq_false h1; have := of_decide_eq_false h2; omega
    have hx := x.2; have hy := y.2
    have ex : ∀ (k : Nat) (hk : k < (ts.map (·.prio)).length), (ts.map (·.prio))[k] = prK ts k := fun k hk => by
      have hk2 : k < ts.length := by simpa using hk
      unfold prK; simp [List.getD, hk2]
    have hp := List.pairwise_iff_getElem.1 hd
    have hx2 : x.1 < (ts.map (·.prio)).length := by rw [List.length_map]; exact hx
    have hy2 : y.1 < (ts.map (·.prio)).length := by rw [List.length_map]; exact hy
    rcases Nat.lt_trichotomy x.1 y.1 with h | h | h
    · exact absurd (by rw [ex, ex, e]) (hp x.1 y.1 hx2 hy2 h)
    · exact Fin.ext h
    · exact absurd (by rw [ex, ex, e]) (hp y.1 x.1 hy2 hx2 h)
  have hfin : (List.finRange ts.length).map f = rngI ts.length := by
    refine List.ext_getElem (by rw [rngI_len]; simp) fun i i1 i2 => ?_
    rw [rngI_get]
    simp only [List.getElem_map, List.getElem_finRange, f]
    rfl
  have hsz : (List.finRange ts.length).toArray.size = ts.length := by simp
  have hH : Go.Sort.Holds (fun x : Fin ts.length => Value.int .i64 (f x)) w g 0 (List.finRange ts.length).toArray := fun j hj => by
    have hj' : j < ts.length := by simpa using hj
    obtain ⟨h1, h2⟩ := own_holds ho j (by simpa [rngI_len] using hj')
    refine ⟨?_, h2⟩
    rw [h1]
    rw [getElem!_pos _ j (by simpa [rngI_len] using hj'), getElem!_pos _ j hj]
    simp only [List.getElem_finRange, List.getElem_toArray, f]
    rw [rngI_get]
    rfl
  have hcmp : CmpLays1 Tryz.prog 27 #[.pointer (some ⟨bC, 0, none⟩)] (fun x : Fin ts.length => Value.int .i64 (f x)) cf g 0 (List.finRange ts.length).toArray.size w :=
    CmpReads.lays (fun m os dk hs x y => by
      have hdk : dk.toList.length = (rngI ts.length).length := by rw [rngI_len]; simpa using hs
      have hw := own_sort (q := m) (os := os) (ys := dk.toList.map f) ho (by rw [List.length_map]; exact hdk)
      have e : sortWorld (fun x : Fin ts.length => Value.int .i64 (f x)) w g 0 m dk os = Go.Sort.grow (Go.Sort.putRow (Value.int .i64) (Go.Sort.ahead w m) g 0 (dk.toList.map f).toArray) os := by
        unfold sortWorld
        rw [← putRow_map f]
      rw [e]
      refine by_any ts A ca bC x.1 y.1 c0 c1 c2 c4 c5 _ x.2 y.2 ((hw.2.1 bC (by omega) (box_lt hb)).trans hb) (ht.below (hw.2.2 _ _ h0 (by omega))))
  have hS := Tryz.slices_SortFunc_total (fun x : Fin ts.length => Value.int .i64 (f x)) (fun _ => rfl) cf hO 27 #[.pointer (some ⟨bC, 0, none⟩)] g 0 cap (List.finRange ts.length).toArray w (enters_of Tryz.func27 (by kernel_rfl) rfl) hcmp hH hgb.2 (by rw [hsz]; omega) hT
  rw [hsz] at hS
  refine hS.mono ?_
  rintro e w' ⟨rfl, n, os, rfl⟩
  have em : ((List.finRange ts.length).mergeSort fun x y => !(ltOf cf) y x).map f = (ordL ts).map fun i : Nat => (i : Int) := by
    have e1 : ((List.finRange ts.length).mergeSort fun x y => !(ltOf cf) y x).map (fun x : Fin ts.length => x.1) = ordL ts := by
      rw [List.map_mergeSort (s := fun x y : Nat => decide (prK ts y ≤ prK ts x)) (fun a _ b _ => by
        rw [hlt]
        by_cases h : prK ts b.1 ≤ prK ts a.1
        · simp [h]
        · simp [h]; omega)]
      unfold ordL
      congr 1
      refine List.ext_getElem (by simp) fun i i1 i2 => ?_
      simp only [List.getElem_map, List.getElem_range, List.getElem_finRange]
      rfl
    rw [← e1, List.map_map]
    rfl
  have hw := own_sort (q := n) (os := os) (ys := (ordL ts).map fun i : Nat => (i : Int)) ho (by rw [rngI_len, List.length_map, ord_len])
  have e : sortWorld (fun x : Fin ts.length => Value.int .i64 (f x)) w g 0 n ((List.finRange ts.length).toArray.toList.mergeSort fun x y => !(ltOf cf) y x).toArray os = Go.Sort.grow (Go.Sort.putRow (Value.int .i64) (Go.Sort.ahead w n) g 0 ((ordL ts).map fun i : Nat => (i : Int)).toArray) os := by
    unfold sortWorld
    rw [putRow_map f, ← em]
  rw [e]
  refine ⟨rfl, ?_, hw.2.2 _ _ h0 (by omega), hw.2.1 bC (by omega) (box_lt hb)⟩
  have h9 := hw.1
  rw [List.map_map] at h9
  exact h9
/-- What Order hands back. -/
def RetOr (y : Int) (ts : List Tk) (w : World) (e : Ending) (w' : World) : Prop :=
  (y ≠ 0 → e = .returned (.tuple #[.slice none 0 0, .int .i64 y])) ∧
  (y = 0 → ∃ (P : Option Addr) (cp : Nat), e = .returned (.tuple #[.slice P ts.length cp, .int .i64 0]) ∧ w'.ownsRow w.heap.size 3 1 (.slice P ts.length cp) ts.length ((ordL ts).map fun i : Nat => .int .i64 (i : Int))) ∧
  Below w.heap.size w w'
set_option maxHeartbeats 4000000 in
set_option maxRecDepth 100000 in
theorem order_any (mn mx sw : Int) (ts : List Tk) (ls : List Ln) (hs : List Th) (A : Option Addr) (ca : Nat) (B : Option Addr) (cb : Nat) (D : Option Addr) (cd : Nat) (w : World)
    (hlt0 : ts.length ≤ 1048576) (hll : ls.length ≤ 1048576) (hlh : hs.length ≤ 1048576)
    (ht : Rd w A (ts.flatMap tkc)) (hl : Rd w B (ls.flatMap lnc)) (hh : Rd w D (hs.flatMap thc)) (hmx : I64 mx) (ht64 : ∀ p ∈ ts.map (·.prio) ++ hs.map (·.prio), I64 p) :
    Calls Tryz.prog 10 #[cfv mn mx sw A ts.length ca B ls.length cb D hs.length cd] w (RetOr (Cf.why ⟨mn, mx, sw, ts, ls, hs⟩) ts w) := by
  have c1 := Lib.hid (fun w ht hl hh => check_cfg mn mx sw ts ls hs A ca B cb D cd w hlt0 hll hlh ht hl hh hmx ht64)
  have Ht := Lib.hid ht; have Hl := Lib.hid hl; have Hh := Lib.hid hh
  clear ht hl hh ht64 hmx
  have HIn : Hid (Cf.why ⟨mn, mx, sw, ts, ls, hs⟩ = 0 → 1 ≤ ts.length ∧ (ts.map (·.prio)).Nodup) := Lib.hid (fun h => by
    have hc := cfIn_of h
    have hnd := hc.nodup
    unfold Cf.prios at hnd
    dsimp only at hnd
    exact ⟨hc.nt.1, (List.nodup_append.1 hnd).1⟩)
  unfold RetOr cfv at *
  generalize Cf.why ⟨mn, mx, sw, ts, ls, hs⟩ = y at *
  go_enter Tryz.func10, Tryz.ntmps10
  go_upto_region 1 with fail
  refine name_world fun W hW => ?_
  have HC : Hid (W.heap[w.heap.size]? = some (.cells #[.int .i64 mn, .int .i64 mx, .int .i64 sw, .slice A ts.length ca, .slice B ls.length cb, .slice D hs.length cd] 28 (0, 0))) := Lib.hid (by rw [hW]; exact heap_alloc_new w _)
  have HB : Hid (Below w.heap.size w W) := Lib.hid (by rw [hW]; exact (Below.refl _ _).alloc (Nat.le_refl _) _)
  obtain ⟨cx, cy⟩ := box_rules HC.out
  clear hW
  go_wp2_with fail
  refine (c1.out _ (Ht.out.below HB.out) (Hl.out.below HB.out) (Hh.out.below HB.out)).mono ?_
  rintro e w1 ⟨rfl, hb⟩
  have HB1 := Lib.hid (HB.out.trans (hb.mono HB.out.size))
  have HC1 := Lib.hid (box_keep HC.out hb)
  have s1 := box_lt HC1.out
  clear cx cy hb HC HB c1 Hl Hh
  obtain ⟨cx, cy⟩ := box_rules HC1.out
  by_cases hy : y = 0
  · subst hy
    obtain ⟨h1, hd⟩ := HIn.out rfl
    have HD := Lib.hid hd; have HN := Lib.hid h1
    clear hd h1 HIn
    go_wp2
    go_loopw [5, 15] (fun r i wr => ∃ (k cp : Nat) (P : Option Addr), k ≤ ts.length ∧ i = .int .i64 k ∧ r = .slice P k cp ∧ Hid (wr.ownsRow (w.heap.size + 1) 3 1 (.slice P k cp) k ((rngI k).map (.int .i64))) ∧ Hid (Below w.heap.size w wr) ∧
      Hid (wr.heap[w.heap.size]? = some (.cells #[.int .i64 mn, .int .i64 mx, .int .i64 sw, .slice A ts.length ca, .slice B ls.length cb, .slice D hs.length cd] 28 (0, 0)))) (fun _ i _ => ts.length - (intOf i).toNat)
    case atStart => exact ⟨0, 0, none, by omega, rfl, rfl, Lib.hid (own_nilK _ _ _ _), HB1, HC1⟩
    case round =>
      obtain ⟨k, cp, P, hk, rfl, rfl, HO, HBr, HCr⟩ := hrel
      clear cx cy HC1
      obtain ⟨cx, cy⟩ := box_rules HCr.out
      by_cases hlt : k < ts.length
      · have hle : k ≤ 1048576 := by omega
        have lc := box_lt HCr.out
        have HS := Lib.hid (rngI_snoc k)
        go_wp2_with (at_builtin; go_loud (refine wp_appK rfl _ _ skI (by decide) rfl (own_allocK HO.out _) rfl (by omega) (by simp; omega) _ [.int .i64 (k : Int)] rfl rfl (fun j u hu => new_cell' (by simp) hu) rfl ?_); intro G4 c4 w4 ho4 hg4 hat4; have G4' := Lib.hid (grown_step HO.out hg4); have HO4 := Lib.hid ho4; have HB4 := Lib.hid ((HBr.out.alloc HBr.out.size _).grown hg4 (by have := HBr.out.size; simp; omega) (fun b e => Nat.le_of_succ_le (own_blockK HO.out e).1)); clear ho4 hg4 hat4)
        refine ⟨⟨k + 1, c4, G4, hlt, by go_num, rfl, Lib.hid ?_, HB4, Lib.hid (G4'.out.low HCr.out (Nat.lt_succ_self _))⟩, ?_⟩
        · rw [HS.out, List.map_append]
          exact HO4.out
        · simp [intOf]; omega
      · obtain rfl : k = ts.length := by omega
        obtain ⟨gg, rfl⟩ : ∃ gg, P = some ⟨gg, 0, none⟩ := by
          rcases HO.out.2 with ⟨_, h⟩ | ⟨g', cap, cur, h1, _⟩
          · have := HN.out; omega
          · injection h1 with h1
            exact ⟨g', h1⟩
        have f9 := Lib.hid (fun W hb h0 ho => osort_any (ts := ts) (A := A) (ca := ca) (bC := w.heap.size) (g := gg) (base := w.heap.size + 1) (cap := cp) (c0 := .int .i64 mn) (c1 := .int .i64 mx) (c2 := .int .i64 sw) (c4 := .slice B ls.length cb) (c5 := .slice D hs.length cd) (w0 := w) (w := W) HN.out hlt0 HD.out hb (Nat.lt_succ_self _) Ht.out h0 (Nat.le_succ _) ho)
        go_wp2_with (go_at_call 26; refine (f9.out _ HCr.out HBr.out HO.out).mono ?_; rintro e w5 ⟨rfl, ho5, hb5, _⟩)
        refine bodyPost_ret (v := .tuple #[.slice (some ⟨gg, 0, none⟩) ts.length cp, .int .i64 0]) (by simp [results, Tryz.f10, go_sem]) rfl ?_
        exact ⟨⟨_, _, rfl, own_monoK ho5 (Nat.le_succ _)⟩, hb5⟩
  · have hy2 : (y != 0) = true := by simpa using hy
    go_wp2
    refine bodyPost_ret (v := .tuple #[.slice none 0 0, .int .i64 y]) (by simp [results, Tryz.f10, go_sem]) rfl ?_
    exact ⟨fun _ => rfl, fun h => absurd h hy, HB1.out⟩
end Go.Proofs.YtgampofpabllbaaGreat

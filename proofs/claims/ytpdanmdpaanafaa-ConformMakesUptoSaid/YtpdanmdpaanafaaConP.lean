/- Which marks conform: plain laws, no program in sight. -/
import Derived.Test.YtpdanmdpaanafaaConE
namespace Go.Proofs.Ytpdanmdpaanafaa
open Go.RowKit

/-- The time of the last of somebody's jobs that came among the first k. -/
def lastOf (ts : List Tk) (ms : List Mk) (who : Int) : Nat → Option Int
  | 0 => none
  | k + 1 => if comes ts (ms.getD k mk0) = true ∧ who = (ms.getD k mk0).who then some (ms.getD k mk0).time else lastOf ts ms who k
def perOf (ts : List Tk) (who : Int) : Int := (ts.getD who.toNat tk0).period
def farB (ts : List Tk) (last : Option Int) (m : Mk) : Bool :=
  match last with
  | none => true
  | some t => apartB m.time t (perOf ts m.who)
def mkOk (ts : List Tk) (ms : List Mk) (k : Nat) : Bool := !comes ts (ms.getD k mk0) || farB ts (lastOf ts ms (ms.getD k mk0).who k) (ms.getD k mk0)
def marksN (ts : List Tk) (ms : List Mk) : Nat := countOk (mkOk ts ms) (List.range ms.length)
theorem range_getD {n k : Nat} (h : k < n) : (List.range n).getD k 0 = k := by simp [List.getD, h]
theorem marksN_at {ts : List Tk} {ms : List Mk} {k : Nat} (hk : k < ms.length) (h : ∀ j, j < k → mkOk ts ms j = true) (hb : mkOk ts ms k = false) : marksN ts ms = k := by
  refine countOk_at (d := 0) (by simpa using hk) (fun j hj => ?_) ?_
  · rw [range_getD (by omega)]; exact h j hj
  · rw [range_getD hk]; exact hb
theorem marksN_all {ts : List Tk} {ms : List Mk} (h : ∀ j, j < ms.length → mkOk ts ms j = true) : marksN ts ms = ms.length := by
  have := countOk_all (p := mkOk ts ms) (d := 0) (l := List.range ms.length) (fun j hj => by
    have hj' : j < ms.length := by simpa using hj
    rw [range_getD hj']; exact h j hj')
  rwa [List.length_range] at this

/-- The last times, as a map that is filled one by one. -/
def fOf {ts : List Tk} (pre : List (Arr ts)) : Int → Option Int := pre.foldl (fun f p q => if q = p.1.2.who then some p.1.2.time else f q) (fun _ => none)
theorem fOf_snoc {ts : List Tk} (pre : List (Arr ts)) (x : Arr ts) : fOf (pre ++ [x]) = fun q => if q = x.1.2.who then some x.1.2.time else fOf pre q := by
  unfold fOf
  rw [List.foldl_append]
  rfl
def arOk {ts : List Tk} (a : List (Arr ts)) (x : Arr ts) : Bool := farB ts (fOf a x.1.2.who) x.1.2
def okA {ts : List Tk} (pre : List (Arr ts)) : Prop := ∀ a x b, pre = a ++ x :: b → arOk a x = true
theorem okA_nil {ts : List Tk} : okA ([] : List (Arr ts)) := fun a x b h => by cases a <;> cases h
theorem okA_snoc {ts : List Tk} {pre : List (Arr ts)} {x : Arr ts} (h : okA pre) (hx : arOk pre x = true) : okA (pre ++ [x]) := by
  intro a y b e
  rcases List.eq_nil_or_concat b with rfl | ⟨b', z, rfl⟩
  · obtain ⟨rfl, h2⟩ := List.append_inj' e rfl
    injection h2 with h2
    subst h2
    exact hx
  · refine h a y b' ?_
    have e' : pre ++ [x] = (a ++ y :: b') ++ [z] := by rw [e]; simp
    exact (List.append_inj' e' rfl).1
theorem fOf_arr {ts : List Tk} {ms : List Mk} (h64 : ∀ k, k < ms.length → I64 (ms.getD k mk0).time ∧ I64 (ms.getD k mk0).who) : ∀ k, k ≤ ms.length → fOf (arrA ts ms k) = fun q => lastOf ts ms q k
  | 0, _ => rfl
  | k + 1, hk => by
    have ih := fOf_arr (ts := ts) h64 k (by omega)
    cases hc : comes ts (ms.getD k mk0) with
    | true =>
      rw [arrA_yes rfl ⟨hc, h64 k (by omega)⟩, fOf_snoc, ih]
      funext q
      show _ = if comes ts (ms.getD k mk0) = true ∧ q = (ms.getD k mk0).who then some (ms.getD k mk0).time else lastOf ts ms q k
      by_cases e : q = (ms.getD k mk0).who
      · exact (if_pos e).trans (if_pos ⟨hc, e⟩).symm
      · exact (if_neg e).trans (if_neg (fun h => e h.2)).symm
    | false =>
      rw [arrA_no rfl hc, ih]
      funext q
      show _ = if comes ts (ms.getD k mk0) = true ∧ q = (ms.getD k mk0).who then some (ms.getD k mk0).time else lastOf ts ms q k
      rw [hc, if_neg (by rintro ⟨h, _⟩; cases h)]
theorem arr_split {ts : List Tk} {ms : List Mk} {pre : List (Arr ts)} {x : Arr ts} : ∀ n, pre ++ [x] <+: arrA ts ms n → pre = arrA ts ms x.1.1 ∧ x.1.2 = ms.getD x.1.1 mk0 ∧ x.1.1 < n
  | 0, h => by
    have := h.length_le
    simp [arrA] at this
  | n + 1, h => by
    obtain ⟨t, ht⟩ := h
    change _ = arrA ts ms n ++ _ at ht
    split at ht
    · rename_i hc
      rcases List.eq_nil_or_concat t with rfl | ⟨t', z, rfl⟩
      · rw [List.append_nil] at ht
        obtain ⟨h1, h2⟩ := List.append_inj' ht rfl
        injection h2 with h2
        subst h2
        exact ⟨h1, rfl, Nat.lt_succ_self n⟩
      · have e' : (pre ++ [x] ++ t') ++ [z] = arrA ts ms n ++ [⟨(n, ms.getD n mk0), hc⟩] := by rw [← ht]; simp
        obtain ⟨h1, h2, h3⟩ := arr_split n ⟨t', (List.append_inj' e' rfl).1⟩
        exact ⟨h1, h2, by omega⟩
    · rw [List.append_nil] at ht
      obtain ⟨h1, h2, h3⟩ := arr_split n ⟨t, ht⟩
      exact ⟨h1, h2, by omega⟩
theorem okA_mk {ts : List Tk} {ms : List Mk} (h64 : ∀ k, k < ms.length → I64 (ms.getD k mk0).time ∧ I64 (ms.getD k mk0).who) {n : Nat} (hn : n ≤ ms.length) (h : okA (arrA ts ms n)) (j : Nat) (hj : j < n) : mkOk ts ms j = true := by
  unfold mkOk
  cases hc : comes ts (ms.getD j mk0) with
  | false => rfl
  | true =>
    obtain ⟨t, ht⟩ := arrA_pre ts ms (j + 1) n (by omega)
    rw [arrA_yes rfl ⟨hc, h64 j (by omega)⟩, List.append_assoc] at ht
    have := h (arrA ts ms j) ⟨(j, ms.getD j mk0), hc, h64 j (by omega)⟩ t ht.symm
    unfold arOk at this
    rw [fOf_arr h64 j (by omega)] at this
    exact this
theorem marks_done {ts : List Tk} {ms : List Mk} (h64 : ∀ k, k < ms.length → I64 (ms.getD k mk0).time ∧ I64 (ms.getD k mk0).who) (h : okA (arrA ts ms ms.length)) : marksN ts ms = ms.length :=
  marksN_all (okA_mk h64 (Nat.le_refl _) h)
theorem marks_stop {ts : List Tk} {ms : List Mk} (h64 : ∀ k, k < ms.length → I64 (ms.getD k mk0).time ∧ I64 (ms.getD k mk0).who) {pre : List (Arr ts)} {x : Arr ts} (hp : pre ++ [x] <+: arrA ts ms ms.length) (h : okA pre) (hx : arOk pre x = false) : marksN ts ms = x.1.1 := by
  obtain ⟨rfl, h2, h3⟩ := arr_split _ hp
  refine marksN_at h3 (okA_mk h64 (Nat.le_of_lt h3) h) ?_
  unfold arOk at hx
  rw [fOf_arr h64 _ (Nat.le_of_lt h3), h2] at hx
  unfold mkOk
  rw [← h2, x.2.1, h2]
  simpa using hx
end Go.Proofs.Ytpdanmdpaanafaa

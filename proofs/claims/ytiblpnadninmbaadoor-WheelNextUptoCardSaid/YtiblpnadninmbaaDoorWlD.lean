/- Package vergelaw08: plain laws of the wheel's list, for WheelNext and WheelOnce. Conditions: a wheel's memory. -/
import Derived.Test.YtiblpnadninmbaaDoorRhD
import Derived.Test.YtiblpnadninmbaaDoorMvQ
import Derived.Test.YtiblpnadninmbaaDoorWlA
import Derived.Test.YtiblpnadninmbaaDoorDuL
namespace Go.Proofs.YtiblpnadninmbaaDoor
open Go.RowKit Go.Shelf
theorem min_le_all {L : List Du} {x : Du} (hx : x ∈ L) : minD 4503599627370496 L ≤ x.at' := minD_at L _ hx
theorem min_ge {L : List Du} (hb : ∀ x ∈ L, 0 ≤ x.at' ∧ x.at' ≤ 4503599627370496) : 0 ≤ minD 4503599627370496 L ∧ minD 4503599627370496 L ≤ 4503599627370496 := by
  refine ⟨?_, minD_le _ _⟩
  rcases minD_in L 4503599627370496 with h | ⟨x, h1, h2⟩
  · omega
  · rw [h2]; exact (hb x h1).1
theorem nx_min {L : List Du} (hb : ∀ x ∈ L, 0 ≤ x.at' ∧ x.at' ≤ 4503599627370496) (hne : L ≠ []) : nxR L = minD 4503599627370496 L := by
  unfold nxR
  obtain ⟨x, l, rfl⟩ := List.exists_cons_of_ne_nil hne
  have h1 : minD x.at' (x :: l) = minD 4503599627370496 (x :: l) := by
    have a1 := minD_at (x := x) (x :: l) 4503599627370496 (List.mem_cons_self ..)
    have a2 := minD_le (x :: l) x.at'
    have a3 := (hb x (List.mem_cons_self ..)).2
    rcases minD_in (x :: l) x.at' with h | ⟨y, hy, h⟩ <;> rcases minD_in (x :: l) 4503599627370496 with g | ⟨z, hz, g⟩
    · omega
    · have := minD_at (x := z) (x :: l) x.at' hz
      omega
    · have := minD_at (x := y) (x :: l) 4503599627370496 hy
      omega
    · have := minD_at (x := z) (x :: l) x.at' hz
      have := minD_at (x := y) (x :: l) 4503599627370496 hy
      omega
  exact h1
/-- A move ahead of the next one tells none. -/
theorem mv_none1 {L : List Du} {T : Int} (h : T < minD 4503599627370496 L) : mvD T L = [] ∧ rsD T L = L := mv_nil fun x hx => by
  have := min_le_all hx
  omega
/-- A move to the next one tells one at least. -/
theorem mv_some1 {L : List Du} {T : Int} (hb : ∀ x ∈ L, 0 ≤ x.at' ∧ x.at' ≤ 4503599627370496) (hne : L ≠ []) (hT : minD 4503599627370496 L ≤ T) : 0 < (mvD T L).length ∧ ((mvD T L).getD 0 du0).at' = minD 4503599627370496 L ∧ (rsD T L).length + 1 ≤ L.length := by
  obtain ⟨h1, h2⟩ := mv_head (fun x hx => (hb x hx).2) hne hT
  have := mv_len T L
  exact ⟨h1, h2, by omega⟩
theorem can_len1 {id : Int} : ∀ {L : List Du}, (L.map (·.id)).Nodup → hasD L id = true → (canL L id).length + 1 = L.length
  | x :: L, hn, hm => by
    rw [List.map_cons] at hn
    obtain ⟨n1, n2⟩ := List.nodup_cons.1 hn
    unfold canL
    by_cases hx : x.id = id
    · have : L.filter (fun y => decide (y.id ≠ id)) = L := List.filter_eq_self.2 (fun y hy => by
        simp only [ne_eq, decide_eq_true_eq]
        exact fun h9 => n1 (List.mem_map.2 ⟨y, hy, h9.trans hx.symm⟩))
      rw [List.filter_cons_of_neg (by simpa using hx), this]; rfl
    · rw [List.filter_cons_of_pos (by simpa using hx)]
      have hm2 : hasD L id = true := by
        rw [has_iff'] at hm ⊢
        obtain ⟨y, hy, hi⟩ := hm
        rcases List.mem_cons.1 hy with rfl | hy
        · exact absurd hi hx
        · exact ⟨y, hy, hi⟩
      have h9 := can_len1 n2 hm2
      unfold canL at h9
      simp only [List.length_cons]; omega
/-- What WheelOnce asks, of the lists alone. -/
structure OnI (L : List Du) (id T : Int) : Prop where
  told : ∀ x ∈ mvD T (canL L id), x.at' ≤ T ∧ x.id ≠ id ∧ canC (rsD T (canL L id)) x.id = 3 ∧ I64N x.id
  up : ∀ k, k + 1 < (mvD T (canL L id)).length → ((mvD T (canL L id)).getD k du0).at' ≤ ((mvD T (canL L id)).getD (k + 1) du0).at'
  len : (rsD T (canL L id)).length + (mvD T (canL L id)).length + (if canC L id = 0 then 1 else 0) = L.length
  next : rsD T (canL L id) ≠ [] → T < minD 4503599627370496 (rsD T (canL L id))
theorem nodup_map_inj {L : List Du} : (L.map (·.id)).Nodup → ∀ {a b : Du}, a ∈ L → b ∈ L → a.id = b.id → a = b := by
  induction L with
  | nil => intro _ a b ha; cases ha
  | cons x L ih =>
    intro hn a b ha hb e
    rw [List.map_cons] at hn
    obtain ⟨n1, n2⟩ := List.nodup_cons.1 hn
    rcases List.mem_cons.1 ha with h1 | h1 <;> rcases List.mem_cons.1 hb with h2 | h2
    · rw [h1, h2]
    · exact (n1 (List.mem_map.2 ⟨b, h2, by rw [← e, h1]⟩)).elim
    · exact (n1 (List.mem_map.2 ⟨a, h1, by rw [e, h2]⟩)).elim
    · exact ih n2 h1 h2 e
theorem getD_lt {α : Type} {l : List α} {k : Nat} (h : k < l.length) (d : α) : l.getD k d = l[k] := by
  rw [List.getD_eq_getElem?_getD, List.getElem?_eq_getElem h]; rfl
theorem OnI.mk' {L : List Du} {id T : Int} (hn : (L.map (·.id)).Nodup) (hi : ∀ x ∈ L, I64N x.id) (hb : ∀ x ∈ L, 0 ≤ x.at' ∧ x.at' ≤ 4503599627370496) : OnI L id T := by
  have hc : ∀ x ∈ canL L id, x ∈ L ∧ x.id ≠ id := fun x hx => by
    unfold canL at hx
    obtain ⟨h1, h2⟩ := List.mem_filter.1 hx
    exact ⟨h1, by simpa using h2⟩
  refine ⟨fun x hx => ?_, fun k hk => ?_, ?_, fun hne => ?_⟩
  · obtain ⟨h1, h2⟩ := mv_mem.1 hx
    obtain ⟨h3, h4⟩ := hc x h1
    refine ⟨h2, h4, if_neg fun h9 => ?_, hi x h3⟩
    obtain ⟨y, hy, hyi⟩ := (has_iff' _ _).1 h9
    obtain ⟨h5, h6⟩ := rs_mem.1 hy
    have := nodup_map_inj hn (hc y h5).1 h3 hyi
    subst this
    omega
  · have hu := mv_up T (canL L id)
    have h9 := List.pairwise_iff_getElem.1 hu k (k + 1) (by omega) hk (by omega)
    rw [getD_lt (by omega : k < _), getD_lt hk]
    exact h9
  · have h1 := mv_len T (canL L id)
    by_cases hh : hasD L id = true
    · have h2 := can_len1 hn hh
      have h3 : canC L id = 0 := if_pos hh
      rw [if_pos h3]
      omega
    · have h2 : canL L id = L := can_none (by simpa using hh)
      have h3 : canC L id = 3 := if_neg hh
      rw [h2, h3, if_neg (by decide)]
      have := mv_len T L
      omega
  · obtain ⟨x, l, hl⟩ := List.exists_cons_of_ne_nil hne
    rcases minD_in (rsD T (canL L id)) 4503599627370496 with h | ⟨y, h1, h2⟩
    · have hx : x ∈ rsD T (canL L id) := by rw [hl]; exact List.mem_cons_self ..
      obtain ⟨h5, h6⟩ := rs_mem.1 hx
      have := hb x (hc x h5).1
      omega
    · rw [h2]; exact (rs_mem.1 h1).2
theorem fil_len (room : Nat) (l : List Du) : (filL room l).length ≤ l.length := by
  have : ∀ (l L : List Du), (l.foldl (fun L x => insL room L x.id x.at') L).length ≤ L.length + l.length := fun l => by
    induction l with
    | nil => intro L; simp
    | cons x l ih =>
      intro L
      rw [List.foldl_cons]
      have h1 := ih (insL room L x.id x.at')
      have h2 : (insL room L x.id x.at').length ≤ L.length + 1 := by
        unfold insL
        split
        · simp
        · omega
      simp only [List.length_cons]
      omega
  have h9 := this l []
  rw [List.length_nil, Nat.zero_add] at h9
  exact h9
end Go.Proofs.YtiblpnadninmbaaDoor

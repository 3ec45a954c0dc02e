/- Package wheel, plain: what a wheel holds: its timers, each in the list in which it belongs. No program in sight. -/
import Derived.Test.YtiblpnadninmbaaGreatDoorWhHY
namespace Go.Proofs.YtiblpnadninmbaaGreatDoor
open Go.RowKit Go.Shelf

/-- A timer of a wheel, and its entry. -/
structure Ent where
  i : Nat
  id : Int
  at' : Int
  turn : Int
structure WI (room : Nat) (E : List Ent) (s : WhS) : Prop where
  n0 : 0 ≤ s.now
  n1 : s.now ≤ 4503599627370496
  rm : room ≤ 4096
  idn : (E.map (·.id)).Nodup
  inn : (E.map (·.i)).Nodup
  ilt : ∀ e ∈ E, e.i < room
  ts : ∀ e ∈ E, s.ts.getD e.i tm0 = ⟨e.id, e.at', e.turn⟩
  M : ∀ id i, s.M id = some i ↔ ∃ e ∈ E, e.id = id ∧ (e.i : Int) = i
  sz : s.sz = E.length
  mem : ∀ k i, i ∈ s.ls k ↔ ∃ e ∈ E, e.i = i ∧ homeF s.now e.at' = k
  pile : s.pile.length + E.length = room
  turn : E.Pairwise (fun a b => a.turn < b.turn)
  tle : ∀ e ∈ E, e.turn ≤ s.turns
  at0 : ∀ e ∈ E, 0 ≤ e.at' ∧ e.at' ≤ 4503599627370496
  idr : ∀ e ∈ E, I64N e.id
  fbl : FbL s
  bit : ∀ k, BitOk s k
section
variable {room : Nat} {E : List Ent} {s s' : WhS}
theorem WI.inj (h : WI room E s) {a b : Ent} (ha : a ∈ E) (hb : b ∈ E) (e : a.i = b.i) : a = b := by
  have h1 := h.inn
  have : ∀ {l : List Ent}, (l.map (·.i)).Nodup → a ∈ l → b ∈ l → a = b := by
    intro l
    induction l with
    | nil => intro _ h; cases h
    | cons x l ih =>
      intro hn ha hb
      rw [List.map_cons] at hn
      obtain ⟨n1, n2⟩ := List.nodup_cons.1 hn
      rcases List.mem_cons.1 ha with rfl | ha' <;> rcases List.mem_cons.1 hb with rfl | hb'
      · rfl
      · exact absurd (List.mem_map.2 ⟨b, hb', e.symm⟩) n1
      · exact absurd (List.mem_map.2 ⟨a, ha', e⟩) n1
      · exact ih n2 ha' hb'
  exact this h1 ha hb
theorem WI.ent (h : WI room E s) {k i : Nat} (hi : i ∈ s.ls k) : ∃ e ∈ E, e.i = i ∧ homeF s.now e.at' = k ∧ s.ts.getD i tm0 = ⟨e.id, e.at', e.turn⟩ := by
  obtain ⟨e, he, h1, h2⟩ := (h.mem k i).1 hi
  exact ⟨e, he, h1, h2, h1 ▸ h.ts e he⟩
theorem WI.nil (h : WI room E s) {k : Nat} (hk : s.ls k = []) : ∀ e ∈ E, homeF s.now e.at' ≠ k := fun e he hh => by
  have := (h.mem k e.i).2 ⟨e, he, rfl, hh⟩
  rw [hk] at this; cases this
theorem WI.ahOk (h : WI room E s) : AhOk s := by
  refine ⟨h.n0, h.n1, h.fbl, fun L hL n hn => ?_, fun L hL n hn hne => ?_⟩
  · have := h.bit (64 * L + n) (by omega)
    rwa [show (64 * L + n) / 64 = L by omega, show (64 * L + n) % 64 = n by omega] at this
  · obtain ⟨i, r, hl⟩ := List.exists_cons_of_ne_nil hne
    obtain ⟨e, he, _, hh, _⟩ := h.ent (k := 64 * L + n) (i := i) (by rw [hl]; simp)
    have ha := home_ahead h.n0 hh (by omega)
    obtain rfl | rfl | rfl | rfl : L = 0 ∨ L = 1 ∨ L = 2 ∨ L = 3 := by omega
    · have := ha.1 (by omega); show (s.now % 64).toNat < n; omega
    · have := ha.2.1 (by omega) (by omega); show (s.now / 64 % 64).toNat < n; omega
    · have := ha.2.2.1 (by omega) (by omega); show (s.now / 4096 % 64).toNat < n; omega
    · have := ha.2.2.2 (by omega); show (s.now / 262144 % 64).toNat < n; omega
/-- What ahead tells. -/
structure AhR (s : WhS) (b : Bool) (k : Nat) (z : Int) : Prop where
  no : b = false → k = 0 ∧ z = 0 ∧ ∀ j, j < 257 → s.ls j = []
  yes : b = true → k < 257 ∧ s.ls k ≠ [] ∧ (∀ j, j < k → s.ls j = []) ∧ z = if k = 256 then minL s.ts (s.ls 256) / 16777216 * 16777216 else begF s.now k
theorem least_ne (P : Nat → Prop) (n : Nat) : (∀ j, j < n → ¬ P j) ∨ ∃ k, k < n ∧ P k ∧ ∀ j, j < k → ¬ P j := by
  induction n with
  | zero => exact .inl fun j h => absurd h (by omega)
  | succ n ih =>
    rcases ih with h | ⟨k, h1, h2, h3⟩
    · by_cases hp : P n
      · exact .inr ⟨n, by omega, hp, h⟩
      · exact .inl fun j hj => by
          by_cases e : j = n
          · rw [e]; exact hp
          · exact h j (by omega)
    · exact .inr ⟨k, by omega, h2, h3⟩
theorem ahR_ex (s : WhS) : ∃ b k z, AhR s b k z := by
  rcases least_ne (fun j => s.ls j ≠ []) 257 with h | ⟨k, h1, h2, h3⟩
  · exact ⟨false, 0, 0, ⟨fun _ => ⟨rfl, rfl, fun j hj => Classical.not_not.1 (h j hj)⟩, fun h => by cases h⟩⟩
  · exact ⟨true, k, _, ⟨fun h => (by cases h), fun _ => ⟨h1, h2, fun j hj => Classical.not_not.1 (h3 j hj), rfl⟩⟩⟩
theorem min_at {ts : List Tm} {l : List Nat} {i : Nat} (hi : i ∈ l) : minL ts l ≤ (ts.getD i tm0).at' := by
  unfold minL
  have : ∀ (l : List Nat) (t : Int), i ∈ l → minG ts t l ≤ (ts.getD i tm0).at' := by
    intro l
    induction l with
    | nil => intro _ h; cases h
    | cons x l ih =>
      intro t h
      rcases List.mem_cons.1 h with rfl | h
      · exact Int.le_trans (minG_le ts l _) (Int.min_le_right _ _)
      · exact ih _ h
  exact this l _ hi
theorem min_in {ts : List Tm} {l : List Nat} (hne : l ≠ []) (hl : ∀ i ∈ l, (ts.getD i tm0).at' ≤ 4503599627370496) : ∃ i ∈ l, minL ts l = (ts.getD i tm0).at' := by
  have : ∀ (l : List Nat) (t : Int), minG ts t l = t ∨ ∃ i ∈ l, minG ts t l = (ts.getD i tm0).at' := by
    intro l
    induction l with
    | nil => intro t; exact .inl rfl
    | cons x l ih =>
      intro t
      show minG ts (min t (ts.getD x tm0).at') l = t ∨ _
      rcases ih (min t (ts.getD x tm0).at') with h | ⟨i, hi, h⟩
      · rw [h]
        by_cases e : t ≤ (ts.getD x tm0).at'
        · exact .inl (by omega)
        · exact .inr ⟨x, by simp, by show minG ts (min t (ts.getD x tm0).at') l = _; rw [h]; omega⟩
      · exact .inr ⟨i, by simp [hi], h⟩
  rcases this l 4503599627370496 with h | h
  · obtain ⟨i, r, rfl⟩ := List.exists_cons_of_ne_nil hne
    have h1 := hl i (by simp)
    have h2 := min_at (ts := ts) (l := i :: r) (i := i) (by simp)
    unfold minL at h2 ⊢
    rw [h] at h2 ⊢
    exact ⟨i, by simp, by omega⟩
  · exact h
/-- All lists are behind where the first one begins. -/
theorem WI.stay (h : WI room E s) {b : Bool} {k : Nat} {z T : Int} (hr : AhR s b k z) (hT : s.now ≤ T) (hz : b = true → T < z) : ∀ e ∈ E, homeF T e.at' = homeF s.now e.at' := by
  intro e he
  obtain ⟨q, hq⟩ : ∃ q, homeF s.now e.at' = q := ⟨_, rfl⟩
  rw [hq]
  by_cases h7 : q = 257
  · subst h7
    have := home_due_iff.1 hq
    exact home_due (by omega)
  · have hlt : q < 257 := by have := home_lt (now := s.now) (at' := e.at'); omega
    have hqm := (h.mem q e.i).2 ⟨e, he, rfl, hq⟩
    cases b with
    | false => rw [(hr.no rfl).2.2 q hlt] at hqm; cases hqm
    | true =>
      obtain ⟨h1, h2, h3, h4⟩ := hr.yes rfl
      have hTz := hz rfl
      have hkq : k ≤ q := by
        by_cases e9 : q < k
        · rw [h3 q e9] at hqm; cases hqm
        · omega
      obtain ⟨i, r, hl⟩ := List.exists_cons_of_ne_nil h2
      obtain ⟨e0, he0, _, hh0, _⟩ := h.ent (k := k) (i := i) (by rw [hl]; simp)
      by_cases h6 : k = 256
      · have hq6 : q = 256 := by omega
        subst h6 hq6
        rw [if_pos rfl] at h4
        have hm := min_at (ts := s.ts) hqm
        rw [h.ts e he] at hm
        exact far_stay h.n0 hq hT (by rw [h4] at hTz; dsimp only at hm; omega)
      · rw [if_neg h6] at h4
        by_cases hq6 : q = 256
        · subst hq6
          have := beg_far h.n0 hh0 (by omega) hq
          exact far_stay h.n0 hq hT (by omega)
        · have hb : begF s.now k ≤ begF s.now q := by
            by_cases e9 : k = q
            · rw [e9]; exact Int.le_refl _
            · exact Int.le_of_lt (beg_lt h.n0 hh0 hq (by omega) (by omega))
          exact home_stay h.n0 hq (by omega) hT (by omega)
theorem WI.time (h : WI room E s) {T : Int} (h0 : 0 ≤ T) (h1 : T ≤ 4503599627370496) (hst : ∀ e ∈ E, homeF T e.at' = homeF s.now e.at') : WI room E { s with now := T } :=
  ⟨h0, h1, h.rm, h.idn, h.inn, h.ilt, h.ts, h.M, h.sz, fun k i => by
    rw [show ({ s with now := T } : WhS).ls = s.ls from rfl, h.mem]
    constructor
    · rintro ⟨e, he, a, b⟩; exact ⟨e, he, a, (hst e he).trans b⟩
    · rintro ⟨e, he, a, b⟩; exact ⟨e, he, a, (hst e he).symm.trans b⟩, h.pile, h.turn, h.tle, h.at0, h.idr, h.fbl, h.bit⟩
/-- The first list begins behind the time now; what is not in it stays where it is. -/
theorem WI.next (h : WI room E s) {k : Nat} {z : Int} (hr : AhR s true k z) : s.now < z ∧ ∀ e ∈ E, homeF s.now e.at' ≠ k → homeF z e.at' = homeF s.now e.at' := by
  obtain ⟨h1, h2, h3, h4⟩ := hr.yes rfl
  obtain ⟨i, r, hl⟩ := List.exists_cons_of_ne_nil h2
  have hpos : s.now < z := by
    by_cases h6 : k = 256
    · subst h6
      rw [if_pos rfl] at h4
      obtain ⟨j, hj, hm⟩ := min_in (ts := s.ts) h2 (fun j hj => by
        obtain ⟨e, he, _, _, ht⟩ := h.ent hj
        rw [ht]; exact (h.at0 e he).2)
      obtain ⟨e, he, _, hh, ht⟩ := h.ent hj
      rw [ht] at hm
      have := home_far h.n0 hh
      rw [h4, hm]; exact this
    · rw [if_neg h6] at h4
      obtain ⟨e0, he0, _, hh0, _⟩ := h.ent (k := k) (i := i) (by rw [hl]; simp)
      rw [h4]; exact (home_beg h.n0 hh0 (by omega)).1
  refine ⟨hpos, fun e he hne => ?_⟩
  obtain ⟨q, hq⟩ : ∃ q, homeF s.now e.at' = q := ⟨_, rfl⟩
  rw [hq] at hne ⊢
  by_cases h7 : q = 257
  · subst h7
    have := home_due_iff.1 hq
    exact home_due (by omega)
  · have hlt : q < 257 := by have := home_lt (now := s.now) (at' := e.at'); omega
    have hqm := (h.mem q e.i).2 ⟨e, he, rfl, hq⟩
    have hkq : k < q := by
      by_cases e9 : q < k
      · rw [h3 q e9] at hqm; cases hqm
      · omega
    have h6 : k ≠ 256 := by omega
    rw [if_neg h6] at h4
    obtain ⟨e0, he0, _, hh0, _⟩ := h.ent (k := k) (i := i) (by rw [hl]; simp)
    rw [h4] at hpos ⊢
    by_cases hq6 : q = 256
    · subst hq6
      exact far_stay h.n0 hq (by omega) (beg_far h.n0 hh0 (by omega) hq)
    · exact home_stay h.n0 hq (by omega) (by omega) (beg_lt h.n0 hh0 hq hkq (by omega))
theorem WI.spread (h : WI room E s) {k : Nat} {z : Int} (hz : z ≤ 4503599627370496) (hn : s.now < z) (hst : ∀ e ∈ E, homeF s.now e.at' ≠ k → homeF z e.at' = homeF s.now e.at')
    (hs : SpI { s with now := z } k (s.ls k) s') (hb : ∀ k', BitOk s' k') : WI room E s' := by
  have h0 := h.n0
  have hnow : s'.now = z := hs.now
  refine ⟨by omega, by omega, h.rm, h.idn, h.inn, h.ilt, fun e he => by rw [hs.ts]; exact h.ts e he, fun id i => by rw [hs.M]; exact h.M id i, hs.sz.trans h.sz, fun k' i => ?_, by rw [hs.pile]; exact h.pile, h.turn, fun e he => by rw [hs.turns]; exact h.tle e he, h.at0, h.idr, hs.fbl, hb⟩
  rw [hnow, hs.mem]
  show (i ∈ s.ls k' ∧ ¬ (k' = k ∧ i ∈ s.ls k ∧ homeF z (s.ts.getD i tm0).at' ≠ k)) ∨ (i ∈ s.ls k ∧ homeF z (s.ts.getD i tm0).at' = k' ∧ k' ≠ k) ↔ _
  constructor
  · rintro (⟨h1, h2⟩ | ⟨h1, h2, h3⟩)
    · obtain ⟨e, he, hi, hh, ht⟩ := h.ent h1
      by_cases hk : k' = k
      · subst hk
        refine ⟨e, he, hi, ?_⟩
        rw [ht] at h2
        dsimp only at h2
        exact Classical.not_not.1 (fun g => h2 ⟨rfl, h1, g⟩)
      · exact ⟨e, he, hi, (hst e he (by rw [hh]; exact hk)).trans hh⟩
    · obtain ⟨e, he, hi, hh, ht⟩ := h.ent h1
      rw [ht] at h2
      exact ⟨e, he, hi, h2⟩
  · rintro ⟨e, he, hi, hh⟩
    have ht := h.ts e he
    rw [hi] at ht
    obtain ⟨q, hq⟩ : ∃ q, homeF s.now e.at' = q := ⟨_, rfl⟩
    have hm := (h.mem q i).2 ⟨e, he, hi, hq⟩
    by_cases hqk : q = k
    · subst hqk
      by_cases hk : k' = q
      · subst hk
        refine .inl ⟨hm, fun ⟨_, _, g⟩ => g ?_⟩
        rw [ht]; exact hh
      · refine .inr ⟨hm, ?_, hk⟩
        rw [ht]; exact hh
    · have h9 := hst e he (by rw [hq]; exact hqk)
      rw [hq, hh] at h9
      subst h9
      exact .inl ⟨hm, fun g => hqk g.1⟩
end
end Go.Proofs.YtiblpnadninmbaaGreatDoor

/- Package wheel: what Next, Pop and New answer, of a wheel as a list of timers. Conditions: a wheel's memory, the de Bruijn table. -/
import Derived.Test.YtiblpnadninmbaaGreatDoorWhMY
namespace Go.Proofs.YtiblpnadninmbaaGreatDoor
open Go.RowKit Go.Shelf
attribute [local go_sem] Oper.semAt_some

theorem minD_le : ∀ (L : List Du) (t : Int), minD t L ≤ t
  | [], _ => Int.le_refl _
  | _ :: L, _ => Int.le_trans (minD_le L _) (Int.min_le_left _ _)
theorem minD_at {x : Du} : ∀ (L : List Du) (t : Int), x ∈ L → minD t L ≤ x.at'
  | y :: L, t, h => by
    rcases List.mem_cons.1 h with rfl | h
    · exact Int.le_trans (minD_le L _) (Int.min_le_right _ _)
    · exact minD_at L _ h
theorem minD_in : ∀ (L : List Du) (t : Int), minD t L = t ∨ ∃ x ∈ L, minD t L = x.at'
  | [], _ => .inl rfl
  | y :: L, t => by
    show minD (min t y.at') L = t ∨ _
    rcases minD_in L (min t y.at') with h | ⟨x, hx, h⟩
    · rw [h]
      by_cases e : t ≤ y.at'
      · exact .inl (by omega)
      · exact .inr ⟨y, by simp, by show minD (min t y.at') L = _; rw [h]; omega⟩
    · exact .inr ⟨x, by simp [hx], h⟩
/-- The least time of all, from the one of a list that holds it. -/
theorem min_all {room : Nat} {E : List Ent} {s : WhS} (h : WI room E s) {k : Nat} (hne : s.ls k ≠ []) (hl : ∀ e ∈ E, ∃ e' ∈ E, homeF s.now e'.at' = k ∧ e'.at' ≤ e.at') : minL s.ts (s.ls k) = minD 4503599627370496 (E.map duOf) := by
  obtain ⟨i, hi, hm⟩ := min_in (ts := s.ts) hne (fun j hj => by
    obtain ⟨e, he, _, _, ht⟩ := h.ent hj
    rw [ht]; exact (h.at0 e he).2)
  obtain ⟨e, he, _, hh, ht⟩ := h.ent hi
  rw [ht] at hm
  have g1 : minD 4503599627370496 (E.map duOf) ≤ e.at' := minD_at _ _ (List.mem_map.2 ⟨e, he, rfl⟩)
  have g2 : minL s.ts (s.ls k) ≤ minD 4503599627370496 (E.map duOf) := by
    rcases minD_in (E.map duOf) 4503599627370496 with h9 | ⟨x, hx, h9⟩
    · rw [h9]; exact minG_le _ _ _
    · rw [h9]
      obtain ⟨e1, he1, rfl⟩ := List.mem_map.1 hx
      obtain ⟨e2, he2, hh2, hle⟩ := hl e1 he1
      have hm2 := (h.mem k e2.i).2 ⟨e2, he2, rfl, hh2⟩
      have := min_at (ts := s.ts) hm2
      rw [h.ts e2 he2] at this
      exact Int.le_trans this hle
  dsimp only at hm
  omega
/-- Where the first list holds one that is the earliest of all. -/
theorem WI.firstList {room : Nat} {E : List Ent} {s : WhS} (h : WI room E s) {k : Nat} {z : Int} (hd : s.ls 257 = []) (hr : AhR s true k z) : ∀ e ∈ E, ∃ e' ∈ E, homeF s.now e'.at' = k ∧ e'.at' ≤ e.at' := by
  obtain ⟨h1, h2, h3, h4⟩ := hr.yes rfl
  intro e he
  obtain ⟨q, hq⟩ : ∃ q, homeF s.now e.at' = q := ⟨_, rfl⟩
  have hq257 : q ≠ 257 := fun e9 => h.nil hd e he (hq.trans e9)
  have hlt : q < 257 := by have := home_lt (now := s.now) (at' := e.at'); omega
  have hqm := (h.mem q e.i).2 ⟨e, he, rfl, hq⟩
  by_cases hqk : q = k
  · exact ⟨e, he, hq.trans hqk, Int.le_refl _⟩
  · have hkq : k < q := by
      by_cases e9 : q < k
      · rw [h3 q e9] at hqm; cases hqm
      · omega
    obtain ⟨i, r, hl⟩ := List.exists_cons_of_ne_nil h2
    obtain ⟨e0, he0, _, hh0, _⟩ := h.ent (k := k) (i := i) (by rw [hl]; simp)
    refine ⟨e0, he0, hh0, ?_⟩
    have hx := home_lt0 hh0 hq hkq hlt
    omega
theorem hasD_nil_of {L : List Du} (h : L = []) : L.length = 0 := by rw [h]; rfl
theorem whl_next (f : WhF) (room : Nat) (now : Int) (L : List Du) (tn : Nat) (w : World) (h : Whl w f room now L tn) (hT : Tab w) :
    Calls Tryz.prog 64 #[.pointer (some ⟨f.pw, 0, none⟩)] w fun e w' => e = .returned (.tuple #[.int .i64 (if L = [] then 0 else minD 4503599627370496 L), .bool (!decide (L = []))]) ∧ Below w.heap.size w w' := by
  obtain ⟨E, s, h1, h2, hnow, t0, t1, hL⟩ := h
  by_cases hE : E = []
  · subst hE
    have hLn : L = [] := hL.symm
    have hall : ∀ k, s.ls k = [] := fun k => by
      cases hk : s.ls k with
      | nil => rfl
      | cons i r =>
        obtain ⟨e, he, _⟩ := (h2.mem k i).1 (by rw [hk]; simp)
        cases he
    rw [if_pos hLn, decide_eq_true hLn]
    exact (next_none f room s w h1 h2.ahOk (fun j _ => hall j)).mono fun e w' ⟨g1, j, g2⟩ => ⟨g1, g2 ▸ bdrewN (Below.refl _ _) j⟩
  · have hLn : L ≠ [] := by rw [← hL]; simpa using hE
    rw [if_neg hLn, decide_eq_false hLn, ← hL]
    by_cases hd : s.ls 257 = []
    · obtain ⟨b, k, z, hr⟩ := ahR_ex s
      cases b with
      | false =>
        obtain ⟨e, r, hEr⟩ := List.exists_cons_of_ne_nil hE
        have he : e ∈ E := by rw [hEr]; simp
        have hq := (h2.mem _ e.i).2 ⟨e, he, rfl, rfl⟩
        have hlt := home_lt (now := s.now) (at' := e.at')
        by_cases h9 : homeF s.now e.at' = 257
        · exact absurd h9 (h2.nil hd e he)
        · rw [(hr.no rfl).2.2 _ (by omega)] at hq; cases hq
      | true =>
        obtain ⟨k1, k2, k3, k4⟩ := hr.yes rfl
        have hmin := min_all h2 k2 (h2.firstList hd hr)
        rw [← hmin]
        exact next_ahead f room s w k z h1 hd k1 (fun X hX => ahead_wi f room E s X true k z (h1.below hX) h2 (hT.below (hX.mono (Nat.le_refl _)) hT.lt) hr)
    · have hmin := min_all h2 hd (fun e he => by
        obtain ⟨i, r, hl⟩ := List.exists_cons_of_ne_nil hd
        obtain ⟨e0, he0, _, hh0, _⟩ := h2.ent (k := 257) (i := i) (by rw [hl]; simp)
        by_cases h9 : homeF s.now e.at' = 257
        · exact ⟨e, he, h9, Int.le_refl _⟩
        · refine ⟨e0, he0, hh0, ?_⟩
          have g1 := home_due_iff.1 hh0
          have g2 : ¬ e.at' ≤ s.now := fun h => h9 (home_due h)
          omega)
      rw [← hmin]
      exact next_due f room s w h1 hd
end Go.Proofs.YtiblpnadninmbaaGreatDoor

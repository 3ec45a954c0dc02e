/- Package wheel: a wheel as a list of timers in the order in which they were put in: what its calls answer. Conditions: a wheel's memory. -/
import Derived.Test.YtiblpnadninmbaaGreatDoorWhKY
namespace Go.Proofs.YtiblpnadninmbaaGreatDoor
open Go.RowKit Go.Shelf

/-- A timer as it is told. -/
structure Du where
  id : Int
  at' : Int
deriving DecidableEq
def duOf (e : Ent) : Du := ⟨e.id, e.at'⟩
/-- A wheel in memory: its time, and its timers in the order in which they were put in; tn: a bound on how many were. -/
def Whl (w : World) (f : WhF) (room : Nat) (now : Int) (L : List Du) (tn : Nat) : Prop :=
  ∃ E s, WhM w f room s ∧ WI room E s ∧ s.now = now ∧ 0 ≤ s.turns ∧ s.turns ≤ tn ∧ E.map duOf = L
section
variable {room : Nat} {E : List Ent} {s : WhS}
theorem ent_len : ∀ {E : List Ent} {e0 : Ent}, (E.map (·.id)).Nodup → e0 ∈ E → (E.filter (fun e => decide (e.id ≠ e0.id))).length + 1 = E.length
  | x :: E, e0, hn, hm => by
    rw [List.map_cons] at hn
    obtain ⟨n1, n2⟩ := List.nodup_cons.1 hn
    rcases List.mem_cons.1 hm with rfl | hm
    · have : E.filter (fun e => decide (e.id ≠ e0.id)) = E := List.filter_eq_self.2 (fun y hy => by
        simp only [ne_eq, decide_eq_true_eq]
        exact fun h9 => n1 (List.mem_map.2 ⟨y, hy, h9⟩))
      rw [List.filter_cons_of_neg (by simp), this]; rfl
    · have hne : x.id ≠ e0.id := fun h9 => n1 (List.mem_map.2 ⟨e0, hm, h9.symm⟩)
      rw [List.filter_cons_of_pos (by simpa using hne)]
      have := ent_len n2 hm
      simp only [List.length_cons]; omega
theorem WI.idInj (h : WI room E s) {a b : Ent} (ha : a ∈ E) (hb : b ∈ E) (e : a.id = b.id) : a = b := by
  have h1 := (h.M a.id a.i).2 ⟨a, ha, rfl, rfl⟩
  have h2 := (h.M b.id b.i).2 ⟨b, hb, rfl, rfl⟩
  rw [e, h2] at h1
  injection h1 with h1
  exact h.inj ha hb (by omega)
theorem WI.remove (h : WI room E s) {e0 : Ent} {k : Nat} {a b : List Nat} (he : e0 ∈ E) (hk : homeF s.now e0.at' = k) (hab : s.ls k = a ++ e0.i :: b) (hnd : (s.ls k).Nodup) :
    WI room (E.filter (fun e => decide (e.id ≠ e0.id))) (noteS (outS s k e0.i a b) k) := by
  obtain ⟨e1, e2, e3, e4, e5, e6, e7⟩ := noteS_ls (outS s k e0.i a b) k
  have hts := h.ts e0 he
  have hsub : ∀ e, e ∈ E.filter (fun e => decide (e.id ≠ e0.id)) → e ∈ E := fun e hm => (List.mem_filter.1 hm).1
  have hlen := ent_len h.idn he
  have hfb : FbL (outS s k e0.i a b) := h.fbl
  have hia : e0.i ∉ a ∧ e0.i ∉ b := by
    rw [hab] at hnd
    obtain ⟨_, d2, d3⟩ := List.nodup_append.1 hnd
    exact ⟨fun hm => d3 e0.i hm e0.i (by simp) rfl, (List.nodup_cons.1 d2).1⟩
  refine ⟨by rw [e2]; exact h.n0, by rw [e2]; exact h.n1, h.rm, h.idn.sublist (List.filter_sublist.map _), h.inn.sublist (List.filter_sublist.map _), fun e hm => h.ilt e (hsub e hm), fun e hm => by rw [e3]; exact h.ts e (hsub e hm), fun id i => ?_, ?_, fun k' i => ?_, ?_, h.turn.filter _, fun e hm => by rw [e7]; exact h.tle e (hsub e hm), fun e hm => h.at0 e (hsub e hm), fun e hm => h.idr e (hsub e hm), noteS_fbl hfb, fun k' => note_bit hfb _ _ (fun hne hk6 => ?_)⟩
  · rw [e4]
    show (if id = (s.ts.getD e0.i tm0).id then none else s.M id) = some i ↔ _
    rw [hts]
    by_cases hid : id = e0.id
    · rw [if_pos hid]
      constructor
      · intro h9; cases h9
      · rintro ⟨e, hm, h1, _⟩
        have := (List.mem_filter.1 hm).2
        simp at this
        exact absurd (h1.trans hid) this
    · rw [if_neg hid, h.M]
      constructor
      · rintro ⟨e, hm, h1, h2⟩
        exact ⟨e, List.mem_filter.2 ⟨hm, by simp; rw [h1]; exact hid⟩, h1, h2⟩
      · rintro ⟨e, hm, h1, h2⟩
        exact ⟨e, hsub e hm, h1, h2⟩
  · rw [e5]
    show s.sz - 1 = _
    rw [h.sz]; omega
  · rw [e1, e2]
    show i ∈ upL s.ls k (a ++ b) k' ↔ ∃ e ∈ E.filter (fun e => decide (e.id ≠ e0.id)), e.i = i ∧ homeF s.now e.at' = k'
    have hx : i ∈ upL s.ls k (a ++ b) k' ↔ i ∈ s.ls k' ∧ ¬ (k' = k ∧ i = e0.i) := by
      by_cases hkk : k' = k
      · subst hkk
        rw [upL_eq, hab]
        constructor
        · intro hm
          refine ⟨by rcases List.mem_append.1 hm with h1 | h1 <;> simp [h1], fun ⟨_, h9⟩ => ?_⟩
          subst h9
          rcases List.mem_append.1 hm with h1 | h1
          · exact hia.1 h1
          · exact hia.2 h1
        · rintro ⟨h1, h2⟩
          rcases List.mem_append.1 h1 with h1 | h1
          · simp [h1]
          · rcases List.mem_cons.1 h1 with h1 | h1
            · exact absurd ⟨rfl, h1⟩ h2
            · simp [h1]
      · rw [upL_ne hkk]
        exact ⟨fun h1 => ⟨h1, fun h2 => hkk h2.1⟩, fun h1 => h1.1⟩
    rw [hx, h.mem]
    constructor
    · rintro ⟨⟨e, hm, h1, h2⟩, h3⟩
      refine ⟨e, List.mem_filter.2 ⟨hm, ?_⟩, h1, h2⟩
      simp only [ne_eq, decide_eq_true_eq]
      intro h9
      have := h.idInj hm he h9
      subst this
      exact h3 ⟨h2.symm.trans hk, h1.symm⟩
    · rintro ⟨e, hm, h1, h2⟩
      obtain ⟨g1, g2⟩ := List.mem_filter.1 hm
      refine ⟨⟨e, g1, h1, h2⟩, fun ⟨_, h9⟩ => ?_⟩
      have := h.inj g1 he (h1.trans h9)
      subst this
      simp at g2
  · rw [e6]
    show (e0.i :: s.pile).length + _ = room
    have := h.pile
    rw [List.length_cons]; omega
  · show (s.fb (k' / 64)).testBit (k' % 64) = !decide (upL s.ls k (a ++ b) k' = [])
    rw [upL_ne hne]
    exact h.bit k' hk6
theorem WI.insert (h : WI room E s) {id a : Int} {i : Nat} {r : List Nat} (hp : s.pile = i :: r) (hir : i < room) (hni : ∀ e ∈ E, e.i ≠ i) (hid : ∀ e ∈ E, e.id ≠ id) (hI : I64N id) (h0 : 0 ≤ a) (h1 : a ≤ 4503599627370496) (htl : s.ts.length = room) :
    WI room (E ++ [⟨i, id, a, s.turns + 1⟩]) (noteS (insS s id a i r) (homeF s.now a)) := by
  obtain ⟨k, hk⟩ : ∃ k, homeF s.now a = k := ⟨_, rfl⟩
  have hS : insS s id a i r = { s with turns := s.turns + 1, ts := s.ts.set i ⟨id, a, s.turns + 1⟩, M := fun x => if x = id then some (i : Int) else s.M x, sz := s.sz + 1, pile := r, ls := upL s.ls k (s.ls k ++ [i]) } := by rw [← hk]; rfl
  rw [hk, hS]
  obtain ⟨S', hS'⟩ : ∃ S' : WhS, S' = { s with turns := s.turns + 1, ts := s.ts.set i ⟨id, a, s.turns + 1⟩, M := fun x => if x = id then some (i : Int) else s.M x, sz := s.sz + 1, pile := r, ls := upL s.ls k (s.ls k ++ [i]) } := ⟨_, rfl⟩
  rw [← hS']
  obtain ⟨e1, e2, e3, e4, e5, e6, e7⟩ := noteS_ls S' k
  have hfb : FbL S' := by rw [hS']; exact h.fbl
  have hil : i < s.ts.length := by rw [htl]; exact hir
  have hcase : ∀ {P : Ent → Prop}, (∀ e ∈ E, P e) → P ⟨i, id, a, s.turns + 1⟩ → ∀ e ∈ E ++ [⟨i, id, a, s.turns + 1⟩], P e := fun hE hn e hm => by
    rcases List.mem_append.1 hm with h9 | h9
    · exact hE e h9
    · rw [List.mem_singleton.1 h9]; exact hn
  refine ⟨by rw [e2, hS']; exact h.n0, by rw [e2, hS']; exact h.n1, h.rm, ?_, ?_, hcase h.ilt hir, ?_, fun x j => ?_, ?_, fun k' j => ?_, ?_, ?_, ?_, hcase h.at0 ⟨h0, h1⟩, hcase h.idr hI, noteS_fbl hfb, fun k' => note_bit hfb _ _ (fun hne hk6 => ?_)⟩
  · rw [List.map_append]
    refine List.nodup_append.2 ⟨h.idn, by simp, fun x hx y hy hxy => ?_⟩
    obtain ⟨e, he, rfl⟩ := List.mem_map.1 hx
    simp at hy
    exact hid e he (hxy.trans hy)
  · rw [List.map_append]
    refine List.nodup_append.2 ⟨h.inn, by simp, fun x hx y hy hxy => ?_⟩
    obtain ⟨e, he, rfl⟩ := List.mem_map.1 hx
    simp at hy
    exact hni e he (hxy.trans hy)
  · rw [e3, hS']
    refine hcase (fun e he => ?_) ?_
    · show (s.ts.set i _).getD e.i tm0 = _
      rw [pget_ne (fun h9 => hni e he h9.symm)]; exact h.ts e he
    · show (s.ts.set i _).getD i tm0 = _
      rw [pget_eq hil]
  · rw [e4, hS']
    show (if x = id then some (i : Int) else s.M x) = some j ↔ _
    by_cases hx : x = id
    · rw [if_pos hx]
      constructor
      · intro h9; injection h9 with h9
        exact ⟨⟨i, id, a, s.turns + 1⟩, by simp, hx.symm, h9⟩
      · rintro ⟨e, hm, g1, g2⟩
        rcases List.mem_append.1 hm with h9 | h9
        · exact absurd (g1.trans hx) (hid e h9)
        · have := List.mem_singleton.1 h9
          rw [this] at g2; rw [← g2]
    · rw [if_neg hx, h.M]
      constructor
      · rintro ⟨e, hm, g1, g2⟩; exact ⟨e, by simp [hm], g1, g2⟩
      · rintro ⟨e, hm, g1, g2⟩
        rcases List.mem_append.1 hm with h9 | h9
        · exact ⟨e, h9, g1, g2⟩
        · have := List.mem_singleton.1 h9
          rw [this] at g1; exact absurd g1.symm hx
  · rw [e5, hS']
    show s.sz + 1 = _
    rw [h.sz]; simp
  · rw [e1, e2, hS']
    show j ∈ upL s.ls k (s.ls k ++ [i]) k' ↔ ∃ e ∈ E ++ [(⟨i, id, a, s.turns + 1⟩ : Ent)], e.i = j ∧ homeF s.now e.at' = k'
    have hx : j ∈ upL s.ls k (s.ls k ++ [i]) k' ↔ j ∈ s.ls k' ∨ (k' = k ∧ j = i) := by
      by_cases hkk : k' = k
      · subst hkk; rw [upL_eq]; simp
      · rw [upL_ne hkk]; simp [hkk]
    rw [hx, h.mem]
    constructor
    · rintro (⟨e, hm, g1, g2⟩ | ⟨rfl, rfl⟩)
      · exact ⟨e, by simp [hm], g1, g2⟩
      · exact ⟨⟨j, id, a, s.turns + 1⟩, by simp, rfl, hk⟩
    · rintro ⟨e, hm, g1, g2⟩
      rcases List.mem_append.1 hm with h9 | h9
      · exact .inl ⟨e, h9, g1, g2⟩
      · have := List.mem_singleton.1 h9
        rw [this] at g1 g2
        exact .inr ⟨g2.symm.trans hk, g1.symm⟩
  · rw [e6, hS']
    show r.length + _ = room
    have := h.pile
    rw [hp, List.length_cons] at this
    rw [List.length_append, List.length_singleton]; omega
  · refine List.pairwise_append.2 ⟨h.turn, by simp, fun x hx y hy => ?_⟩
    rw [List.mem_singleton.1 hy]
    have := h.tle x hx
    show x.turn < s.turns + 1
    omega
  · rw [e7, hS']
    refine hcase (fun e he => ?_) (Int.le_refl _)
    have := h.tle e he
    show e.turn ≤ s.turns + 1
    omega
  · rw [hS']
    show (s.fb (k' / 64)).testBit (k' % 64) = !decide (upL s.ls k (s.ls k ++ [i]) k' = [])
    rw [upL_ne hne]
    exact h.bit k' hk6
end
end Go.Proofs.YtiblpnadninmbaaGreatDoor

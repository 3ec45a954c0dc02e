/- Package wheel: what a wheel's calls answer, of a wheel as a list of timers. Conditions: a wheel's memory, the de Bruijn table. -/
import Derived.Test.YtiblpnadninmbaaGreatDoorWhLY
namespace Go.Proofs.YtiblpnadninmbaaGreatDoor
open Go.RowKit Go.Shelf
attribute [local go_sem] Oper.semAt_some

def hasD (L : List Du) (id : Int) : Bool := L.any (fun x => decide (x.id = id))
def insC (room : Nat) (L : List Du) (id a : Int) : Int := if ¬ (0 ≤ a ∧ a ≤ 4503599627370496) then 1 else if hasD L id = true then 4 else if room ≤ L.length then 5 else 0
def insL (room : Nat) (L : List Du) (id a : Int) : List Du := if insC room L id a = 0 then L ++ [⟨id, a⟩] else L
def canC (L : List Du) (id : Int) : Int := if hasD L id = true then 0 else 3
def canL (L : List Du) (id : Int) : List Du := L.filter (fun x => decide (x.id ≠ id))
def atD (L : List Du) (id : Int) : Int := match L with
  | [] => 0
  | x :: l => if x.id = id then x.at' else atD l id
def minD : Int → List Du → Int
  | t, [] => t
  | t, x :: l => minD (min t x.at') l
/-- The first of those that are due the earliest. -/
def popG : Du → List Du → Du
  | b, [] => b
  | b, x :: l => popG (if x.at' < b.at' then x else b) l
section
variable {w w' : World} {f : WhF} {room : Nat} {now : Int} {L : List Du} {tn : Nat} {E : List Ent} {s : WhS}
theorem Whl.tn' {F : List Nat} (h : Whl w f room now L tn) (ht : Tn F w w') (hf : ∀ b ∈ f.l, b ∉ F) : Whl w' f room now L tn := by
  obtain ⟨E, s, h1, h2⟩ := h
  exact ⟨E, s, h1.tn ht hf, h2⟩
theorem Whl.below (h : Whl w f room now L tn) (hb : Below w.heap.size w w') : Whl w' f room now L tn := h.tn' (Tn.of_below [] hb) (fun _ _ => by simp)
theorem Whl.lt (h : Whl w f room now L tn) : ∀ b ∈ f.l, b < w.heap.size := by
  obtain ⟨E, s, h1, _⟩ := h
  exact h1.lt
theorem Whl.mono {tn' : Nat} (h : Whl w f room now L tn) (ht : tn ≤ tn') : Whl w f room now L tn' := by
  obtain ⟨E, s, h1, h2, h3, h4, h5, h6⟩ := h
  exact ⟨E, s, h1, h2, h3, h4, by omega, h6⟩
theorem Whl.n0 (h : Whl w f room now L tn) : 0 ≤ now ∧ now ≤ 4503599627370496 ∧ room ≤ 4096 ∧ L.length ≤ room := by
  obtain ⟨E, s, _, h2, h3, _, _, h6⟩ := h
  have := h2.pile
  refine ⟨h3 ▸ h2.n0, h3 ▸ h2.n1, h2.rm, ?_⟩
  rw [← h6, List.length_map]; omega
theorem has_iff (hL : E.map duOf = L) (id : Int) : hasD L id = true ↔ ∃ e ∈ E, e.id = id := by
  unfold hasD
  rw [← hL, List.any_eq_true]
  constructor
  · rintro ⟨x, hx, h⟩
    obtain ⟨e, he, rfl⟩ := List.mem_map.1 hx
    exact ⟨e, he, of_decide_eq_true h⟩
  · rintro ⟨e, he, h⟩
    exact ⟨duOf e, List.mem_map.2 ⟨e, he, rfl⟩, decide_eq_true h⟩
theorem M_none (h : WI room E s) {id : Int} (hn : ¬ ∃ e ∈ E, e.id = id) : s.M id = none := by
  cases hm : s.M id with
  | none => rfl
  | some i => obtain ⟨e, he, h1, _⟩ := (h.M id i).1 hm; exact absurd ⟨e, he, h1⟩ hn
theorem can_map (id : Int) : ∀ E : List Ent, (E.filter (fun e => decide (e.id ≠ id))).map duOf = canL (E.map duOf) id
  | [] => rfl
  | e :: E => by
    have ih := can_map id E
    unfold canL at ih ⊢
    rw [List.map_cons]
    by_cases h : e.id = id
    · rw [List.filter_cons_of_neg (by simp [h]), List.filter_cons_of_neg (by simp [duOf, h]), ih]
    · rw [List.filter_cons_of_pos (by simp [h]), List.filter_cons_of_pos (by simp [duOf, h]), List.map_cons, ih]
theorem at_ent : ∀ {E : List Ent} {e : Ent}, (E.map (·.id)).Nodup → e ∈ E → atD (E.map duOf) e.id = e.at'
  | x :: E, e, hn, hm => by
    rw [List.map_cons] at hn
    obtain ⟨n1, n2⟩ := List.nodup_cons.1 hn
    show (if x.id = e.id then x.at' else atD (E.map duOf) e.id) = e.at'
    rcases List.mem_cons.1 hm with rfl | hm
    · rw [if_pos rfl]
    · rw [if_neg (fun h9 => n1 (List.mem_map.2 ⟨e, hm, h9.symm⟩)), at_ent n2 hm]
theorem at_none (id : Int) : ∀ {E : List Ent}, (¬ ∃ e ∈ E, e.id = id) → atD (E.map duOf) id = 0
  | [], _ => rfl
  | x :: E, h => by
    show (if x.id = id then x.at' else atD (E.map duOf) id) = 0
    rw [if_neg (fun h9 => h ⟨x, by simp, h9⟩), at_none id (fun ⟨e, he, h9⟩ => h ⟨e, by simp [he], h9⟩)]
end
theorem whl_len (f : WhF) (room : Nat) (now : Int) (L : List Du) (tn : Nat) (w : World) (h : Whl w f room now L tn) :
    Calls Tryz.prog 27 #[.pointer (some ⟨f.pw, 0, none⟩)] w fun e w' => e = .returned (.int .i64 (L.length : Nat)) ∧ w = w' := by
  obtain ⟨E, s, h1, h2, _, _, _, rfl⟩ := h
  have := wlen_any f room s w h1
  rwa [h2.sz, ← List.length_map (f := duOf)] at this
theorem whl_insert (f : WhF) (room : Nat) (now : Int) (L : List Du) (tn : Nat) (w : World) (id a : Int) (h : Whl w f room now L tn) (hi : I64N id) (ht : tn ≤ 1152921504606846976) :
    Calls Tryz.prog 45 #[.pointer (some ⟨f.pw, 0, none⟩), .int .i64 id, .int .i64 a] w fun e w' => e = .returned (.int .i64 (insC room L id a)) ∧ Whl w' f room now (insL room L id a) (tn + 1) ∧ Tn f.l w w' := by
  have h0 := h
  obtain ⟨E, s, h1, h2, hnow, t0, t1, hL⟩ := h
  by_cases ha : 0 ≤ a ∧ a ≤ 4503599627370496
  · obtain ⟨a0, a1⟩ := ha
    by_cases he : ∃ e ∈ E, e.id = id
    · have hc : insC room L id a = 4 := by unfold insC; rw [if_neg (by simp; exact ⟨a0, a1⟩), if_pos ((has_iff hL id).2 he)]
      unfold insL
      rw [hc, if_neg (by omega)]
      obtain ⟨e, he, rfl⟩ := he
      exact (ins_twice f room s w e.id a e.i h1 hi ((h2.M e.id e.i).2 ⟨e, he, rfl, rfl⟩) a0 a1).mono fun e w' ⟨g1, g2⟩ => ⟨g1, g2 ▸ h0.mono (Nat.le_succ _), g2 ▸ Tn.refl _ _⟩
    · have hnh : ¬ hasD L id = true := fun h9 => he ((has_iff hL id).1 h9)
      have hll : L.length = E.length := by rw [← hL, List.length_map]
      have hpl := h2.pile
      cases hp : s.pile with
      | nil =>
        have hc : insC room L id a = 5 := by unfold insC; rw [if_neg (by simp; exact ⟨a0, a1⟩), if_neg hnh, if_pos (by rw [hp] at hpl; simp at hpl; omega)]
        unfold insL
        rw [hc, if_neg (by omega)]
        exact (ins_full f room s w id a h1 hi (M_none h2 he) a0 a1 hp).mono fun e w' ⟨g1, j, g2⟩ => ⟨g1, g2 ▸ (h0.mono (Nat.le_succ _)).below (bdrewN (Below.refl _ _) j), g2 ▸ (Tn.refl _ _).drewN j⟩
      | cons i r =>
        have hc : insC room L id a = 0 := by unfold insC; rw [if_neg (by simp; exact ⟨a0, a1⟩), if_neg hnh, if_neg (by rw [hp] at hpl; simp at hpl; omega)]
        unfold insL
        rw [hc, if_pos rfl]
        have hpool : i < room ∧ ∀ e ∈ E, e.i ≠ i := by
          obtain ⟨p, _, hpi⟩ := h1.pool
          refine ⟨?_, fun e hee h9 => ?_⟩
          · have := pile_lt hpi.pl i (by rw [hp]; simp)
            rwa [hpi.kn] at this
          · have hm := (h2.mem _ e.i).2 ⟨e, hee, rfl, rfl⟩
            exact hpi.ap _ home_lt e.i hm (by rw [hp, h9]; simp)
        refine (ins_ok f room s w id a i r h1 h2.fbl h2.rm hi (M_none h2 he) a0 a1 hp hpool.1 (by rw [h2.sz]; have := h2.rm; omega) (by omega)).mono fun e w' ⟨g1, g2, g3⟩ => ⟨g1, ⟨_, _, g2, h2.insert hp hpool.1 hpool.2 (fun e hee h9 => he ⟨e, hee, h9⟩) hi a0 a1 h1.tl, ?_, ?_, ?_, ?_⟩, g3⟩
        · rw [(noteS_ls _ _).2.1]; exact hnow
        · rw [(noteS_ls _ _).2.2.2.2.2.2]; show 0 ≤ s.turns + 1; omega
        · rw [(noteS_ls _ _).2.2.2.2.2.2]; show s.turns + 1 ≤ _; omega
        · rw [List.map_append, hL]; rfl
  · have hc : insC room L id a = 1 := by unfold insC; rw [if_pos ha]
    unfold insL
    rw [hc, if_neg (by omega)]
    exact (ins_range f id a w ha).mono fun e w' ⟨g1, g2⟩ => ⟨g1, g2 ▸ h0.mono (Nat.le_succ _), g2 ▸ Tn.refl _ _⟩
theorem whl_cancel (f : WhF) (room : Nat) (now : Int) (L : List Du) (tn : Nat) (w : World) (id : Int) (h : Whl w f room now L tn) (hi : I64N id) :
    Calls Tryz.prog 55 #[.pointer (some ⟨f.pw, 0, none⟩), .int .i64 id] w fun e w' => e = .returned (.int .i64 (canC L id)) ∧ Whl w' f room now (canL L id) tn ∧ Tn f.l w w' := by
  have h0 := h
  obtain ⟨E, s, h1, h2, hnow, t0, t1, hL⟩ := h
  by_cases he : ∃ e ∈ E, e.id = id
  · have hc : canC L id = 0 := if_pos ((has_iff hL id).2 he)
    rw [hc]
    obtain ⟨e, he, rfl⟩ := he
    have hm := (h2.mem _ e.i).2 ⟨e, he, rfl, rfl⟩
    obtain ⟨a, b, hab⟩ := List.append_of_mem hm
    have hti := h2.ts e he
    refine (cancel_some f room s w e.id _ e.i a b h1 h2.fbl h2.rm home_lt hab (h2.ilt e he) hi ((h2.M e.id e.i).2 ⟨e, he, rfl, rfl⟩) (by rw [hti])).mono fun e' w' ⟨g1, g2, g3⟩ => ⟨g1, ⟨_, _, g2, h2.remove he rfl hab (h1.nd home_lt).1, ?_, ?_, ?_, ?_⟩, g3⟩
    · rw [(noteS_ls _ _).2.1]; exact hnow
    · rw [(noteS_ls _ _).2.2.2.2.2.2]; exact t0
    · rw [(noteS_ls _ _).2.2.2.2.2.2]; exact t1
    · rw [can_map, hL]
  · have hc : canC L id = 3 := if_neg (fun h9 => he ((has_iff hL id).1 h9))
    have hcl : canL L id = L := List.filter_eq_self.2 (fun y hy => by
      simp only [ne_eq, decide_eq_true_eq]
      intro h9
      rw [← hL] at hy
      obtain ⟨e, hee, rfl⟩ := List.mem_map.1 hy
      exact he ⟨e, hee, h9⟩)
    rw [hc, hcl]
    exact (cancel_none f room s w id h1 hi (M_none h2 he)).mono fun e w' ⟨g1, g2⟩ => ⟨g1, g2 ▸ h0, g2 ▸ Tn.refl _ _⟩
theorem whl_set (f : WhF) (room : Nat) (now : Int) (L : List Du) (tn : Nat) (w : World) (T : Int) (h : Whl w f room now L tn) (hT : Tab w) (hg : 0 ∉ f.l) :
    Calls Tryz.prog 32 #[.pointer (some ⟨f.pw, 0, none⟩), .int .i64 T] w fun e w' => e = .returned (.int .i64 (if now ≤ T ∧ T ≤ 4503599627370496 then 0 else 1)) ∧ Whl w' f room (if now ≤ T ∧ T ≤ 4503599627370496 then T else now) L tn ∧ Tn f.l w w' := by
  have h0 := h
  obtain ⟨E, s, h1, h2, hnow, t0, t1, hL⟩ := h
  by_cases hc : now ≤ T ∧ T ≤ 4503599627370496
  · rw [if_pos hc, if_pos hc]
    exact (set_ok f room E s w T h1 h2 hT hg (by rw [hnow]; exact hc.1) hc.2).mono fun e w' ⟨g1, s', g2, g3, g4, g5, g6⟩ => ⟨g1, ⟨E, s', g2, g3, g4, by rw [g5]; exact t0, by rw [g5]; exact t1, hL⟩, g6⟩
  · rw [if_neg hc, if_neg hc]
    exact (set_bad f room s w T h1 (by rw [hnow]; omega)).mono fun e w' ⟨g1, g2⟩ => ⟨g1, g2 ▸ h0, g2 ▸ Tn.refl _ _⟩
end Go.Proofs.YtiblpnadninmbaaGreatDoor

/- Package vergelaw09: plain laws of TimersParts and TimersDrift. No premise of its own. -/
import Derived.Test.YtiblpnadninmbaaDoorTlB
namespace Go.Proofs.YtiblpnadninmbaaDoor
open Go.RowKit Go.Shelf
theorem popG_ext : ∀ (L : List Du) (b1 b2 : Du), b1.at' ≤ b2.at' → (popG b1 L).at' < b1.at' → popG b2 L = popG b1 L
  | [], b1, b2, _, h => by
    rw [popG] at h
    omega
  | x :: l, b1, b2, hb, h => by
    rw [popG] at h ⊢
    rw [popG]
    by_cases h1 : x.at' < b1.at'
    · rw [if_pos h1, if_pos (by omega)]
    · rw [if_neg h1] at h ⊢
      by_cases h2 : x.at' < b2.at'
      · rw [if_pos h2]; exact popG_ext l b1 x (by omega) h
      · rw [if_neg h2]; exact popG_ext l b1 b2 hb h
theorem popG_le : ∀ (L : List Du) (b : Du), (popG b L).at' ≤ b.at' ∧ ∀ x ∈ L, (popG b L).at' ≤ x.at'
  | [], b => ⟨by rw [popG]; exact Int.le_refl _, fun x h => by cases h⟩
  | y :: l, b => by
    rw [popG]
    by_cases h1 : y.at' < b.at'
    · rw [if_pos h1]
      obtain ⟨q1, q2⟩ := popG_le l y
      refine ⟨by omega, fun x hx => ?_⟩
      rcases List.mem_cons.1 hx with rfl | hx
      · exact q1
      · exact q2 x hx
    · rw [if_neg h1]
      obtain ⟨q1, q2⟩ := popG_le l b
      refine ⟨q1, fun x hx => ?_⟩
      rcases List.mem_cons.1 hx with rfl | hx
      · omega
      · exact q2 x hx
theorem pop_same {a b : Int} {L : List Du} (hab : a ≤ b) (h : (popR a L).at' ≤ a) : popR b L = popR a L :=
  popG_ext L ⟨0, a + 1⟩ ⟨0, b + 1⟩ (by show a + 1 ≤ b + 1; omega) (by show (popR a L).at' < a + 1; omega)
theorem pop_late {a : Int} {L : List Du} (h : ¬ (popR a L).at' ≤ a) : ∀ x ∈ L, a < x.at' := fun x hx => by
  have := (popG_le L ⟨0, a + 1⟩).2 x hx
  change (popR a L).at' ≤ x.at' at this
  omega
/-- More room for rounds is no matter, where they were not used up. -/
theorem run_fuel {room : Nat} {now : Int} : ∀ (n j : Nat) {L : List Du} {P : List Pe}, (runT room now n L P).1.length < n → runT room now (n + j) L P = runT room now n L P
  | 0, j, L, P, h => by rw [run_zero] at h; simp at h
  | n + 1, j, L, P, h => by
    by_cases hd : (popR now L).at' ≤ now
    · rw [run_some n hd] at h ⊢
      rw [show n + 1 + j = (n + j) + 1 by omega, run_some (n + j) hd, run_fuel n j (by simpa using h)]
    · rw [run_none _ hd, run_none _ hd]
/-- A run in two parts. -/
theorem run_two {room : Nat} {a b : Int} (hab : a ≤ b) : ∀ (n : Nat) {L : List Du} {P : List Pe}, (runT room a n L P).1.length < n →
    (runT room b n L P).1.map (·.at') = (runT room a n L P).1.map (·.at') ++ (runT room b (n - (runT room a n L P).1.length) (runT room a n L P).2.1 (runT room a n L P).2.2).1.map (·.at') ∧
    (runT room b n L P).2 = (runT room b (n - (runT room a n L P).1.length) (runT room a n L P).2.1 (runT room a n L P).2.2).2
  | 0, L, P, h => by rw [run_zero] at h; simp at h
  | n + 1, L, P, h => by
    by_cases hd : (popR a L).at' ≤ a
    · have hs := pop_same hab hd
      have hf : fireL room b L P = fireL room a L P := by unfold fireL; rw [hs]
      have hg : fireP room b L P = fireP room a L P := by unfold fireP; rw [hs]
      have ha : (fired b L).at' = (fired a L).at' := by unfold fired; rw [hs]
      rw [run_some n hd] at h ⊢
      rw [run_some n (by rw [hs]; omega), hf, hg]
      obtain ⟨q1, q2⟩ := run_two (room := room) hab n (L := fireL room a L P) (P := fireP room a L P) (by simpa using h)
      dsimp only at q1 q2 ⊢
      rw [List.length_cons, show n + 1 - ((runT room a n (fireL room a L P) (fireP room a L P)).1.length + 1) = n - (runT room a n (fireL room a L P) (fireP room a L P)).1.length by omega]
      refine ⟨?_, q2⟩
      rw [List.map_cons, List.map_cons, q1, ha]
      rfl
    · rw [run_none _ hd]
      exact ⟨by simp, by simp⟩
theorem run_in {room : Nat} {now : Int} : ∀ (n : Nat) {L : List Du} {P : List Pe}, ∀ x ∈ (runT room now n L P).1, x.at' ≤ now ∧ x.late = now - x.at'
  | 0, L, P, x, h => by rw [run_zero] at h; cases h
  | n + 1, L, P, x, h => by
    by_cases hd : (popR now L).at' ≤ now
    · rw [run_some n hd] at h
      rcases List.mem_cons.1 h with rfl | h
      · exact ⟨hd, rfl⟩
      · exact run_in n x h
    · rw [run_none _ hd] at h
      cases h
theorem fire_late {room : Nat} {a now : Int} {L : List Du} {P : List Pe} (hd : (popR now L).at' ≤ now) (hl : ∀ x ∈ L, a < x.at') (hp : ∀ x ∈ P, 1 ≤ x.long ∧ x.long ≤ 4503599627370496) : ∀ x ∈ fireL room now L P, a < x.at' := by
  have h0 := hl _ (pop_in hd)
  have hc : ∀ x ∈ canL L (popR now L).id, a < x.at' := fun x hx => by
    unfold canL at hx
    exact hl x (List.mem_filter.1 hx).1
  unfold fireL
  by_cases hz : perD P (popR now L).id = 0
  · rw [if_pos hz]; exact hc
  · rw [if_neg hz]
    obtain ⟨y, y1, _, y3⟩ := per_in hz
    have := hp y y1
    intro x hx
    unfold insL at hx
    split at hx
    · rcases List.mem_append.1 hx with hx | hx
      · exact hc x hx
      · obtain rfl := List.mem_singleton.1 hx
        show a < _ + _
        omega
    · exact hc x hx
theorem run_late {room : Nat} {a now : Int} : ∀ (n : Nat) {L : List Du} {P : List Pe}, (∀ x ∈ L, a < x.at') → (∀ x ∈ P, 1 ≤ x.long ∧ x.long ≤ 4503599627370496) → ∀ x ∈ (runT room now n L P).1, a < x.at'
  | 0, L, P, _, _, x, h => by rw [run_zero] at h; cases h
  | n + 1, L, P, hl, hp, x, h => by
    by_cases hd : (popR now L).at' ≤ now
    · rw [run_some n hd] at h
      rcases List.mem_cons.1 h with rfl | h
      · exact hl _ (pop_in hd)
      · exact run_late n (fire_late hd hl hp) (fun y hy => hp y ((fireP_le _ _ _ _).2 y hy)) x h
    · rw [run_none _ hd] at h
      cases h
theorem run_end {room : Nat} {now : Int} : ∀ (n : Nat) {L : List Du} {P : List Pe}, (runT room now n L P).1.length < n → ∀ x ∈ (runT room now n L P).2.1, now < x.at'
  | 0, L, P, h, _, _ => by rw [run_zero] at h; simp at h
  | n + 1, L, P, h, x, hx => by
    by_cases hd : (popR now L).at' ≤ now
    · rw [run_some n hd] at h hx
      exact run_end n (by simpa using h) x hx
    · rw [run_none _ hd] at hx
      exact pop_late hd x hx
theorem run_ok {room : Nat} {now : Int} : ∀ (n : Nat) {L : List Du} {P : List Pe}, AtOk L → (∀ x ∈ (runT room now n L P).1, 0 ≤ x.at') ∧ AtOk (runT room now n L P).2.1
  | 0, L, P, h => ⟨fun x hx => (by rw [run_zero] at hx; cases hx), h⟩
  | n + 1, L, P, h => by
    by_cases hd : (popR now L).at' ≤ now
    · rw [run_some n hd]
      obtain ⟨q1, q2⟩ := run_ok (room := room) (now := now) n (h.fire room now P)
      refine ⟨fun x hx => ?_, q2⟩
      rcases List.mem_cons.1 hx with rfl | hx
      · exact (h _ (pop_in hd)).1
      · exact q1 x hx
    · rw [run_none _ hd]
      exact ⟨fun x hx => (by cases hx), h⟩
/-- What TimersParts asks, of lists alone. -/
structure PtI (room : Nat) (a b : Int) (L : List Du) (P : List Pe) (M N K : List Fi) (LN LK : List Du) : Prop where
  lo : ∀ k, k < M.length + N.length → 0 ≤ ((M ++ N).getD k fi0).at'
  len : K.length < 1024 → M.length + N.length = K.length ∧ LN.length = LK.length
  at' : K.length < 1024 → ∀ k, k < M.length + N.length → ((M ++ N).getD k fi0).at' = (K.getD k fi0).at' ∧ (k < M.length → ((M ++ N).getD k fi0).late = a - ((M ++ N).getD k fi0).at' ∧ ((M ++ N).getD k fi0).at' ≤ a) ∧ (¬ k < M.length → a < ((M ++ N).getD k fi0).at')
theorem PtI.mk' {room : Nat} {a b : Int} {L : List Du} {P : List Pe} (hab : a ≤ b) (hi : PI L P) (hok : AtOk L) : PtI room a b L P (runT room a 1024 L P).1 (runT room b 1024 (runT room a 1024 L P).2.1 (runT room a 1024 L P).2.2).1 (runT room b 1024 L P).1
    (runT room b 1024 (runT room a 1024 L P).2.1 (runT room a 1024 L P).2.2).2.1 (runT room b 1024 L P).2.1 := by
  have hlt : (runT room b 1024 L P).1.length < 1024 → (runT room a 1024 L P).1.length < 1024 ∧ (runT room b 1024 L P).1.map (·.at') = (runT room a 1024 L P).1.map (·.at') ++ (runT room b 1024 (runT room a 1024 L P).2.1 (runT room a 1024 L P).2.2).1.map (·.at') ∧ (runT room b 1024 L P).2 = (runT room b 1024 (runT room a 1024 L P).2.1 (runT room a 1024 L P).2.2).2 := by
    intro hk
    have hle : ∀ (n : Nat) (L : List Du) (P : List Pe), (runT room a n L P).1.length ≤ (runT room b n L P).1.length := by
      intro n
      induction n with
      | zero => intro L P; rw [run_zero, run_zero]; exact Nat.le_refl _
      | succ n ih =>
        intro L P
        by_cases hd : (popR a L).at' ≤ a
        · have hs := pop_same hab hd
          have hf : fireL room b L P = fireL room a L P := by unfold fireL; rw [hs]
          have hg : fireP room b L P = fireP room a L P := by unfold fireP; rw [hs]
          rw [run_some n hd, run_some n (by rw [hs]; omega), hf, hg]
          have := ih (fireL room a L P) (fireP room a L P)
          simp only [List.length_cons]
          omega
        · rw [run_none _ hd]; simp
    have ha := hle 1024 L P
    have ha2 : (runT room a 1024 L P).1.length < 1024 := by omega
    obtain ⟨q1, q2⟩ := run_two (room := room) hab 1024 ha2
    have hl := congrArg List.length q1
    rw [List.length_append, List.length_map, List.length_map, List.length_map] at hl
    have hfu := run_fuel (room := room) (now := b) (1024 - (runT room a 1024 L P).1.length) (runT room a 1024 L P).1.length (L := (runT room a 1024 L P).2.1) (P := (runT room a 1024 L P).2.2) (by omega)
    rw [show 1024 - (runT room a 1024 L P).1.length + (runT room a 1024 L P).1.length = 1024 by omega] at hfu
    rw [← hfu] at q1 q2
    exact ⟨ha2, q1, q2⟩
  obtain ⟨hpi, _, _⟩ := run_pi (room := room) (now := a) 1024 hi
  have hin := run_in (room := room) (now := a) 1024 (L := L) (P := P)
  have hen := fun h => run_late (room := room) (a := a) (now := b) 1024 (run_end (room := room) (now := a) 1024 (L := L) (P := P) h) hpi.long
  obtain ⟨o1, o2⟩ := run_ok (room := room) (now := a) 1024 (P := P) hok
  obtain ⟨o3, _⟩ := run_ok (room := room) (now := b) 1024 (P := (runT room a 1024 L P).2.2) o2
  generalize runT room a 1024 L P = RA at *
  generalize runT room b 1024 RA.2.1 RA.2.2 = RB at *
  generalize runT room b 1024 L P = RK at *
  refine ⟨fun k hkl => ?_, fun hk => ?_, fun hk k hkl => ?_⟩
  · have hkm : k < (RA.1 ++ RB.1).length := by rw [List.length_append]; exact hkl
    rw [getD_lt hkm]
    rcases List.mem_append.1 (List.getElem_mem hkm) with h9 | h9
    · exact o1 _ h9
    · exact o3 _ h9
  · obtain ⟨_, q1, q2⟩ := hlt hk
    have hl := congrArg List.length q1
    rw [List.length_append, List.length_map, List.length_map, List.length_map] at hl
    exact ⟨hl.symm, by rw [q2]⟩
  · obtain ⟨q0, q1, q2⟩ := hlt hk
    have hl := congrArg List.length q1
    rw [List.length_append, List.length_map, List.length_map, List.length_map] at hl
    have hkm : k < (RA.1 ++ RB.1).length := by rw [List.length_append]; exact hkl
    have hkk : k < RK.1.length := by omega
    rw [getD_lt hkm, getD_lt hkk]
    refine ⟨?_, fun h => ?_, fun h => ?_⟩
    · have h9 : (RK.1.map (·.at'))[k]? = ((RA.1 ++ RB.1).map (·.at'))[k]? := by rw [q1, List.map_append]
      rw [List.getElem?_map, List.getElem?_map, List.getElem?_eq_getElem hkk, List.getElem?_eq_getElem hkm] at h9
      simpa using h9.symm
    · rw [List.getElem_append_left h]
      have := hin _ (List.getElem_mem h)
      exact ⟨this.2, this.1⟩
    · rw [List.getElem_append_right (by omega)]
      exact hen q0 _ (List.getElem_mem _)
/-- One timer with a period, as it goes on. -/
def DrI (p nx : Int) (L : List Du) (P : List Pe) : Prop := (nx ≤ 4503599627370496 ∧ L = [⟨7, nx⟩] ∧ P = [⟨7, p⟩]) ∨ (4503599627370496 < nx ∧ L = [] ∧ P = [])
theorem dr_fire {p nx s : Int} (h0 : 0 ≤ nx) (h1 : 1 ≤ p) (hs : nx ≤ s) : popR s [⟨7, nx⟩] = ⟨7, nx⟩ ∧ DrI p (nx + p) (fireL 1 s [⟨7, nx⟩] [⟨7, p⟩]) (fireP 1 s [⟨7, nx⟩] [⟨7, p⟩]) := by
  have hp : popR s [⟨7, nx⟩] = ⟨7, nx⟩ := by
    unfold popR
    rw [popG, popG, if_pos (by show nx < s + 1; omega)]
  refine ⟨hp, ?_⟩
  unfold fireL fireP
  rw [hp]
  have hd : perD [⟨7, p⟩] 7 = p := rfl
  have hc : canL [⟨7, nx⟩] 7 = [] := rfl
  dsimp only
  rw [hd, hc, if_neg (by omega), if_neg (by omega)]
  have hh : hasD [] 7 = false := rfl
  by_cases hb : nx + p ≤ 4503599627370496
  · have hi : insC 1 [] 7 (nx + p) = 0 := by
      unfold insC
      rw [if_neg (by simp; omega), hh, if_neg (by decide), if_neg (by decide)]
    unfold insL
    rw [hi, if_pos rfl, if_pos rfl]
    exact .inl ⟨hb, rfl, rfl⟩
  · have hi : insC 1 [] 7 (nx + p) = 1 := by
      unfold insC
      rw [if_pos (by omega)]
    unfold insL
    rw [hi, if_neg (by decide), if_neg (by decide)]
    exact .inr ⟨by omega, rfl, rfl⟩
theorem dr_run {p s : Int} (h1 : 1 ≤ p) (hs : s ≤ 4503599627370496) : ∀ (n : Nat) {nx : Int} {L : List Du} {P : List Pe}, 0 ≤ nx → DrI p nx L P →
    (runT 1 s n L P).1.length ≤ n ∧ (∀ i, i < (runT 1 s n L P).1.length → (runT 1 s n L P).1.getD i fi0 = ⟨7, nx + i * p, s - (nx + i * p)⟩ ∧ nx + i * p ≤ s) ∧ DrI p (nx + (runT 1 s n L P).1.length * p) (runT 1 s n L P).2.1 (runT 1 s n L P).2.2 ∧
    ((runT 1 s n L P).1.length < n → nx + (runT 1 s n L P).1.length * p ≤ 4503599627370496 → s < nx + (runT 1 s n L P).1.length * p)
  | 0, nx, L, P, h0, h => by
    rw [run_zero]
    exact ⟨by simp, fun i hi => by simp at hi, by simpa using h, fun h => by simp at h⟩
  | n + 1, nx, L, P, h0, h => by
    by_cases hd : (popR s L).at' ≤ s
    · obtain ⟨ha, rfl, rfl⟩ : nx ≤ 4503599627370496 ∧ L = [⟨7, nx⟩] ∧ P = [⟨7, p⟩] := by
        rcases h with h | ⟨_, rfl, _⟩
        · exact h
        · have h9 := pop_in hd
          cases h9
      have hle : nx ≤ s := by
        have h9 := pop_in hd
        rw [List.mem_singleton] at h9
        rw [h9] at hd
        exact hd
      obtain ⟨q1, q2⟩ := dr_fire h0 h1 hle
      rw [run_some n hd]
      obtain ⟨r1, r2, r3, r4⟩ := dr_run h1 hs n (by omega) q2
      dsimp only
      rw [List.length_cons]
      have hfi : fired s [⟨7, nx⟩] = ⟨7, nx, s - nx⟩ := by unfold fired; rw [q1]
      have hmul : ∀ m : Nat, nx + ((m + 1 : Nat) : Int) * p = nx + p + (m : Int) * p := fun m => by
        rw [show ((m + 1 : Nat) : Int) = (m : Int) + 1 by omega, Int.add_mul]; omega
      rw [hmul]
      refine ⟨by omega, fun i hi => ?_, r3, fun h9 => r4 (by omega)⟩
      cases i with
      | zero =>
        rw [List.getD_cons_zero, hfi]
        simp
        exact hle
      | succ i =>
        rw [List.getD_cons_succ, hmul]
        exact r2 i (by omega)
    · rw [run_none _ hd]
      refine ⟨by simp, fun i hi => by simp at hi, by simpa using h, fun _ h9 => ?_⟩
      rcases h with ⟨ha, rfl, rfl⟩ | ⟨ha, rfl, rfl⟩
      · have := pop_late hd _ (List.mem_singleton.2 rfl)
        simpa using this
      · simp at h9
        omega
end Go.Proofs.YtiblpnadninmbaaDoor

/- Package vergelaw09: runs of timers and of the document's beside one another, without the rounds. Conditions: timers' memory, lists that read. -/
import Derived.Test.YtiblpnadninmbaaDoorTlP
namespace Go.Proofs.YtiblpnadninmbaaDoor
open Go.RowKit Go.Shelf
/-- A run that was let: what it told, and left. -/
def RunOk (g : TmF) (room : Nat) (M : List Fi) (L2 : List Du) (P2 : List Pe) (tn : Nat) (T : Int) (w : World) (e : Ending) (w' : World) : Prop :=
  ∃ A c, e = .returned (.tuple #[.slice A M.length c, .int .i64 0]) ∧ Rd w' A (M.flatMap fic) ∧ (∀ a, A = some a → w.heap.size ≤ a.block) ∧ Tms w' g room T L2 P2 tn ∧ Tn g.l w w'
/-- A run of the document's that was let. -/
def RefOk (M : List Fi) (L2 : List Du) (P2 : List Pe) (T room : Int) (A Q : Option Addr) (w : World) (e : Ending) (w' : World) : Prop :=
  ∃ A' c' Q' d' B cb, e = .returned (.tuple #[.agg #[.int .i64 T, .int .i64 room, .slice A' L2.length c', .slice Q' P2.length d'], .slice B M.length cb, .int .i64 0]) ∧
    Rd w' A' (L2.flatMap duc) ∧ Rd w' Q' (P2.flatMap pec) ∧ Rd w' B (M.flatMap fic) ∧
    (∀ a, A' = some a → A = some a ∨ (w.heap.size ≤ a.block ∧ a.block < w'.heap.size)) ∧ (∀ a, Q' = some a → Q = some a ∨ (w.heap.size ≤ a.block ∧ a.block < w'.heap.size)) ∧ (∀ a, B = some a → w.heap.size ≤ a.block) ∧ Below w.heap.size w w'
theorem run_one (g : TmF) (room : Nat) (now : Int) (L : List Du) (P : List Pe) (tn : Nat) (T : Int) (hg : 0 ∉ g.f.l) (ht : tn + 1024 ≤ 1152921504606846976) (hc : now ≤ T ∧ T ≤ 4503599627370496) {R : List Fi × List Du × List Pe} (hR : runT room T 1024 L P = R) :
    ∀ X, Tms X g room now L P tn → Tab X → Calls Tryd.prog 23 #[.pointer (some ⟨g.pt, 0, none⟩), .int .i64 T] X (RunOk g room R.1 R.2.1 R.2.2 (tn + 1024) T X) := fun X hX hT => by
  have h9 := trun_any g room now L P tn X T hX hT hg ht
  unfold RetRun at h9
  simp only [if_pos hc] at h9
  rw [hR] at h9
  exact h9
theorem run_both (g : TmF) (room : Nat) (now : Int) (L : List Du) (P : List Pe) (tn : Nat) (T : Int) (A : Option Addr) (c : Nat) (Q : Option Addr) (d : Nat) (w : World) (hg : 0 ∉ g.f.l) (ht : tn + 1024 ≤ 1152921504606846976) (hc : now ≤ T ∧ T ≤ 4503599627370496)
    (hrm : room ≤ 4096) (hL : L.length ≤ 4096) (hP : P.length ≤ 1048575) (h0 : 0 ≤ now) (hat : AtOk L) (hlo : ∀ x ∈ P, 1 ≤ x.long ∧ x.long ≤ 4503599627370496) (hr : Rd w A (L.flatMap duc)) (hq : Rd w Q (P.flatMap pec)) (hA : ∀ a, A = some a → a.block < w.heap.size) (hQ : ∀ a, Q = some a → a.block < w.heap.size) (hi : PI L P) :
    ∃ M2 L2 P2, PI L2 P2 ∧ P2.length ≤ P.length ∧ M2.length ≤ 1024 ∧ (∀ X, Tms X g room now L P tn → Tab X → Calls Tryd.prog 23 #[.pointer (some ⟨g.pt, 0, none⟩), .int .i64 T] X (RunOk g room M2 L2 P2 (tn + 1024) T X)) ∧
      Calls Tryd.prog 22 #[.agg #[.int .i64 now, .int .i64 room, .slice A L.length c, .slice Q P.length d], .int .i64 T] w (RefOk M2 L2 P2 T room A Q w) := by
  have h9 := rrun_any now room T L A c P Q d w hrm hL hP hat hlo hr hq hA hQ
  unfold RetRr rtv at h9
  simp only [if_pos (show (0 ≤ T ∧ T ≤ 4503599627370496) ∧ now ≤ T by omega)] at h9
  obtain ⟨q1, q2, q3⟩ := run_pi (room := room) (now := T) 1024 hi
  exact ⟨_, _, _, q1, q2, q3, run_one g room now L P tn T hg ht hc rfl, h9⟩
theorem run_neither (g : TmF) (room : Nat) (now : Int) (L : List Du) (P : List Pe) (tn : Nat) (T : Int) (A : Option Addr) (c : Nat) (Q : Option Addr) (d : Nat) (w : World) (hg : 0 ∉ g.f.l) (ht : tn + 1024 ≤ 1152921504606846976) (hc : ¬ (now ≤ T ∧ T ≤ 4503599627370496))
    (hrm : room ≤ 4096) (hL : L.length ≤ 4096) (hP : P.length ≤ 1048575) (hat : AtOk L) (hlo : ∀ x ∈ P, 1 ≤ x.long ∧ x.long ≤ 4503599627370496) (hr : Rd w A (L.flatMap duc)) (hq : Rd w Q (P.flatMap pec)) (hA : ∀ a, A = some a → a.block < w.heap.size) (hQ : ∀ a, Q = some a → a.block < w.heap.size) :
    (∀ X, Tms X g room now L P tn → Tab X → Calls Tryd.prog 23 #[.pointer (some ⟨g.pt, 0, none⟩), .int .i64 T] X fun e w' => e = .returned (.tuple #[.slice none 0 0, .int .i64 1]) ∧ Tms w' g room now L P tn ∧ Tn g.l X w') ∧
      Calls Tryd.prog 22 #[.agg #[.int .i64 now, .int .i64 room, .slice A L.length c, .slice Q P.length d], .int .i64 T] w (fun e w' => ∃ (A5 : Option Addr) (c5 : Nat) (Q5 : Option Addr) (d5 : Nat) (L2 : List Du), L2 = L ∧ e = Ending.returned (.tuple #[.agg #[.int .i64 now, .int .i64 room, .slice A5 L2.length c5, .slice Q5 P.length d5], .slice none 0 0, .int .i64 1]) ∧
        Rd w' A5 (L2.flatMap duc) ∧ Rd w' Q5 (P.flatMap pec) ∧ (∀ a, A5 = some a → A = some a ∨ (w.heap.size ≤ a.block ∧ a.block < w'.heap.size)) ∧ (∀ a, Q5 = some a → Q = some a ∨ (w.heap.size ≤ a.block ∧ a.block < w'.heap.size)) ∧ Below w.heap.size w w') := by
  have h9 := rrun_any now room T L A c P Q d w hrm hL hP hat hlo hr hq hA hQ
  unfold RetRr rtv at h9
  simp only [if_neg (show ¬ ((0 ≤ T ∧ T ≤ 4503599627370496) ∧ now ≤ T) by omega)] at h9
  refine ⟨fun X hX hT => ?_, h9.mono fun e w' ⟨q1, q2⟩ => ⟨A, c, Q, d, L, rfl, q1, hr.below q2, hq.below q2, fun a ha => .inl ha, fun a ha => .inl ha, q2⟩⟩
  have h8 := trun_any g room now L P tn X T hX hT hg ht
  unfold RetRun at h8
  simp only [if_neg hc] at h8
  exact h8
/-- The runs of TimersParts. -/
theorem parts_runs (g h : TmF) (room : Nat) (now : Int) (L : List Du) (P : List Pe) (tn : Nat) (a b : Int) (hg : 0 ∉ g.f.l) (hh : 0 ∉ h.f.l) (ht : tn + 2048 ≤ 1152921504606846976) (h1 : now ≤ a) (h2 : a ≤ b) (h3 : b ≤ 4503599627370496) (hi : PI L P) (hok : AtOk L) :
    ∃ M LM PM N LN PN K LK PK, PtI room a b L P M N K LN LK ∧ M.length ≤ 1024 ∧ N.length ≤ 1024 ∧ K.length ≤ 1024 ∧
      (∀ X, Tms X g room now L P tn → Tab X → Calls Tryd.prog 23 #[.pointer (some ⟨g.pt, 0, none⟩), .int .i64 a] X (RunOk g room M LM PM (tn + 1024) a X)) ∧
      (∀ X, Tms X g room a LM PM (tn + 1024) → Tab X → Calls Tryd.prog 23 #[.pointer (some ⟨g.pt, 0, none⟩), .int .i64 b] X (RunOk g room N LN PN (tn + 1024 + 1024) b X)) ∧
      (∀ X, Tms X h room now L P tn → Tab X → Calls Tryd.prog 23 #[.pointer (some ⟨h.pt, 0, none⟩), .int .i64 b] X (RunOk h room K LK PK (tn + 1024) b X)) := by
  obtain ⟨q1, _, q3⟩ := run_pi (room := room) (now := a) 1024 hi
  obtain ⟨_, _, q4⟩ := run_pi (room := room) (now := b) 1024 q1
  obtain ⟨_, _, q5⟩ := run_pi (room := room) (now := b) 1024 hi
  exact ⟨_, _, _, _, _, _, _, _, _, PtI.mk' h2 hi hok, q3, q4, q5, run_one g room now L P tn a hg (by omega) ⟨h1, by omega⟩ rfl, run_one g room a _ _ (tn + 1024) b hg (by omega) ⟨h2, h3⟩ rfl, run_one h room now L P tn b hh (by omega) ⟨by omega, h3⟩ rfl⟩
end Go.Proofs.YtiblpnadninmbaaDoor

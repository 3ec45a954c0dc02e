/- Package wheel: who is in a list of timers. No premise of its own. -/
import Derived.Test.YtiblpnadninmbaaGreatDoorWhOY
namespace Go.Proofs.YtiblpnadninmbaaGreatDoor
open Go.RowKit Go.Shelf
theorem Whl.at0 {w : World} {f : WhF} {room : Nat} {now : Int} {L : List Du} {tn : Nat} (h : Whl w f room now L tn) : ∀ x ∈ L, 0 ≤ x.at' ∧ x.at' ≤ 4503599627370496 := by
  obtain ⟨E, s, _, h2, _, _, _, rfl⟩ := h
  intro x hx
  obtain ⟨e, he, rfl⟩ := List.mem_map.1 hx
  exact h2.at0 e he
theorem Whl.ids {w : World} {f : WhF} {room : Nat} {now : Int} {L : List Du} {tn : Nat} (h : Whl w f room now L tn) : (L.map (·.id)).Nodup ∧ ∀ x ∈ L, I64N x.id := by
  obtain ⟨E, s, _, h2, _, _, _, rfl⟩ := h
  refine ⟨?_, fun x hx => ?_⟩
  · rw [List.map_map]
    exact h2.idn
  · obtain ⟨e, he, rfl⟩ := List.mem_map.1 hx
    exact h2.idr e he
theorem pop_in {now : Int} {L : List Du} (h : (popR now L).at' ≤ now) : popR now L ∈ L := by
  have : ∀ (L : List Du) (b : Du), popG b L = b ∨ popG b L ∈ L := fun L => by
    induction L with
    | nil => intro b; exact .inl rfl
    | cons x L ih =>
      intro b
      rw [popG]
      rcases ih (if x.at' < b.at' then x else b) with h | h
      · rw [h]
        split
        · exact .inr (List.mem_cons_self ..)
        · exact .inl rfl
      · exact .inr (List.mem_cons_of_mem _ h)
  rcases this L ⟨0, now + 1⟩ with h9 | h9
  · unfold popR at h
    rw [h9] at h
    exact absurd h (by show ¬ (now + 1 ≤ now); omega)
  · exact h9
theorem tnHigh {B : Nat} {w w' : World} (h : Below B w w') : ∃ F : List Nat, (∀ b ∈ F, B ≤ b) ∧ Tn F w w' :=
  ⟨(List.range w.heap.size).filter fun b => decide (B ≤ b), fun b hb => by simpa using (List.mem_filter.1 hb).2, h.os, h.tape, h.output, h.size, fun k hk hf => h.block k (by
    by_cases hb : B ≤ k
    · exact absurd (List.mem_filter.2 ⟨List.mem_range.2 hk, by simpa using hb⟩) hf
    · omega)⟩
theorem has_iff' (L : List Du) (id : Int) : hasD L id = true ↔ ∃ x ∈ L, x.id = id := by
  unfold hasD
  simp [List.any_eq_true]
end Go.Proofs.YtiblpnadninmbaaGreatDoor

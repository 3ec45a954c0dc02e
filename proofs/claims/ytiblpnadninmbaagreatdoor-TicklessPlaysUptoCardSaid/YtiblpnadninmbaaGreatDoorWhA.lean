/- Package wheel, plain: the list in which a timer belongs, and when a list begins. No program in sight. -/
import Derived.Test.YtiblpnadninmbaaGreatDoorKit
namespace Go.Proofs.YtiblpnadninmbaaGreatDoor
open Go.RowKit

/-- The list of a timer that is due at a time. -/
def homeF (now at' : Int) : Nat :=
  if at' ≤ now then 257
  else if at' / 64 = now / 64 then (at' % 64).toNat
  else if at' / 4096 = now / 4096 then 64 + (at' / 64 % 64).toNat
  else if at' / 262144 = now / 262144 then 128 + (at' / 4096 % 64).toNat
  else if at' / 16777216 = now / 16777216 then 192 + (at' / 262144 % 64).toNat
  else 256
/-- Where a slot begins. -/
def begF (now : Int) (k : Nat) : Int :=
  if k < 64 then now / 64 * 64 + k
  else if k < 128 then now / 4096 * 4096 + ((k : Int) - 64) * 64
  else if k < 192 then now / 262144 * 262144 + ((k : Int) - 128) * 4096
  else now / 16777216 * 16777216 + ((k : Int) - 192) * 262144
section
variable {now now' at' : Int} {k k' : Nat}
theorem home_lt : homeF now at' < 258 := by
  unfold homeF
  repeat' split
  all_goals omega
theorem home_due (h : at' ≤ now) : homeF now at' = 257 := if_pos h
theorem home_due_iff : homeF now at' = 257 ↔ at' ≤ now := by
  constructor
  · intro h
    unfold homeF at h
    repeat' split at h
    all_goals omega
  · exact home_due
theorem home_beg (_h0 : 0 ≤ now) (h : homeF now at' = k) (hk : k < 256) : now < begF now k ∧ begF now k ≤ at' := by
  unfold homeF at h
  unfold begF
  repeat' split at h
  all_goals (repeat' split)
  all_goals omega
/-- The slot is ahead of the one of the time now. -/
theorem home_ahead (_h0 : 0 ≤ now) (h : homeF now at' = k) (hk : k < 256) :
    (k < 64 → now % 64 < k) ∧ (64 ≤ k → k < 128 → now / 64 % 64 < (k : Int) - 64) ∧ (128 ≤ k → k < 192 → now / 4096 % 64 < (k : Int) - 128) ∧ (192 ≤ k → now / 262144 % 64 < (k : Int) - 192) := by
  unfold homeF at h
  repeat' split at h
  all_goals (refine ⟨fun a => ?_, fun a b => ?_, fun a b => ?_, fun a => ?_⟩)
  all_goals omega
theorem home_stay (h0 : 0 ≤ now) (h : homeF now at' = k) (hk : k < 256) (h1 : now ≤ now') (h2 : now' < begF now k) : homeF now' at' = k := by
  have hb := (home_beg h0 h hk).2
  unfold begF at h2 hb
  unfold homeF at h
  repeat' split at h
  all_goals (unfold homeF; repeat' split at h2; repeat' split at hb)
  all_goals (try omega)
  all_goals (rw [if_neg (by omega)])
  all_goals (try (rw [if_pos (by omega)]; omega))
  all_goals (rw [if_neg (by omega)])
  all_goals (try (rw [if_pos (by omega)]; omega))
  all_goals (rw [if_neg (by omega)])
  all_goals (try (rw [if_pos (by omega)]; omega))
  all_goals (rw [if_neg (by omega)])
  all_goals (try (rw [if_pos (by omega)]; omega))
theorem home_far (_h0 : 0 ≤ now) (h : homeF now at' = 256) : now < at' / 16777216 * 16777216 := by
  unfold homeF at h
  repeat' split at h
  all_goals omega
theorem far_stay (_h0 : 0 ≤ now) (h : homeF now at' = 256) (h1 : now ≤ now') (h2 : now' < at' / 16777216 * 16777216) : homeF now' at' = 256 := by
  unfold homeF at h ⊢
  repeat' split at h
  all_goals (try omega)
  all_goals (rw [if_neg (by omega), if_neg (by omega), if_neg (by omega), if_neg (by omega), if_neg (by omega)])
/-- Slots begin one behind the other. -/
theorem beg_lt {at0 : Int} (h0 : 0 ≤ now) (h : homeF now at0 = k) (h' : homeF now at' = k') (hk : k < k') (hk' : k' < 256) : begF now k < begF now k' := by
  have a := home_ahead h0 h (by omega)
  have a' := home_ahead h0 h' hk'
  unfold begF
  repeat' split
  all_goals omega
theorem beg_far {at0 : Int} (h0 : 0 ≤ now) (h : homeF now at0 = k) (hk : k < 256) (h' : homeF now at' = 256) : begF now k < at' / 16777216 * 16777216 := by
  have a := home_far h0 h'
  have b : at' / 16777216 ≠ now / 16777216 := by
    unfold homeF at h'
    repeat' split at h'
    all_goals omega
  unfold begF
  repeat' split
  all_goals omega
/-- Lists hold times one behind the other. -/
theorem home_lt0 {at0 : Int} (h : homeF now at0 = k) (h' : homeF now at' = k') (hk : k < k') (hk' : k' < 257) : at0 < at' := by
  unfold homeF at h h'
  repeat' split at h
  all_goals (repeat' split at h')
  all_goals omega
theorem home_moved (h0 : 0 ≤ now) (h : homeF now at' = k) (hk : k < 256) : homeF (begF now k) at' ≠ k := by
  have hb := (home_beg h0 h hk).2
  unfold homeF at h
  unfold begF at *
  unfold homeF
  repeat' split at h
  all_goals (repeat' split at hb)
  all_goals (try omega)
  all_goals (repeat' split)
  all_goals omega
end
end Go.Proofs.YtiblpnadninmbaaGreatDoor

/- vergeref06: the walk of active. Conditions: a list that reads; a line below 64. -/
import Derived.Test.YtbhjkfeonhddlaaDoorRefD
namespace Go.Proofs.YtbhjkfeonhddlaaDoor
open Go.RowKit Go.Shelf

/-- Whether one of the first k is n. -/
def seenTo (l : List Int) (n k : Nat) : Prop := ∃ i, i < k ∧ l.getD i 0 = (n : Int)
theorem seen_bit {l : List Int} {n : Nat} (hn : n < 64) {t : Bool} (h : (ofList l).testBit n = t) : t = true ↔ seenTo l n l.length := by
  rw [← h, ofList_bit]
  simp only [hn, decide_true, Bool.true_and]
  rw [List.contains_iff_mem]
  unfold seenTo
  constructor
  · intro h
    obtain ⟨i, hi, e⟩ := List.getElem_of_mem h
    exact ⟨i, hi, by simp [List.getD, hi, e]⟩
  · rintro ⟨i, hi, e⟩
    have h : l[i] ∈ l := List.getElem_mem hi
    simp [List.getD, hi] at e
    rwa [e] at h

set_option maxHeartbeats 2000000 in
theorem ractive_any (d : IC) (hf : d.Fits) (n : Nat) (hn : n < 64) (pA : Option Addr) (pc : Nat) (sA : Option Addr) (sc : Nat) (w : World) (hs : Rd w sA (d.stack.map (.int .i64))) :
    Calls Tryd.prog 37 #[icv d pA pc sA sc, .int .i64 n] w fun e w' => e = .returned (.bool ((ofList d.stack).testBit n)) ∧ Below w.heap.size w w' := by
  have Hs := Lib.hid hs; clear hs
  have hsl := hf.stack
  have bW : w.heap.size ≤ w.heap.size := Nat.le_refl _
  generalize ht : (ofList d.stack).testBit n = t
  have HT := Lib.hid (seen_bit hn ht)
  clear ht
  unfold icv
  have HE : Hid (∀ W, W = w.alloc (.cells #[.int .u64 d.p, .int .u64 d.e, .int .u64 d.r, .int .u64 d.g, .slice pA d.prio.length pc, .int .i64 d.t, .slice sA d.stack.length sc] 25) → Hid (Below w.heap.size w W)) := by
    rintro W rfl
    exact (Below.refl w.heap.size w).alloc bW _
  go_enter Tryd.func37, Tryd.ntmps37
  go_wp2
  refine name_world fun W hW => ?_
  have HB := HE.out W hW
  clear hW HE
  go_loop [10] (fun i => ∃ k : Nat, k ≤ d.stack.length ∧ i = .int .i64 k ∧ Hid (¬ seenTo d.stack n k)) (fun i => d.stack.length - (intOf i).toNat)
  case atStart => exact ⟨0, by omega, rfl, by rintro ⟨i, hi, _⟩; omega⟩
  case round =>
    obtain ⟨k, hk, rfl, hj⟩ := hrel
    by_cases hlt : k < d.stack.length
    · obtain ⟨a, ha, h1⟩ := (Hs.out.below HB.out).int hlt
      subst ha
      have Hk : Hid (d.stack.getD k 0 = (n : Int) → seenTo d.stack n d.stack.length) := fun h => ⟨k, hlt, h⟩
      have Hn : Hid (¬ d.stack.getD k 0 = (n : Int) → ¬ seenTo d.stack n (k + 1)) := by
        rintro h ⟨i, hi, e⟩
        by_cases he : i = k
        · subst he; exact h e
        · exact hj.out ⟨i, by omega, e⟩
      generalize d.stack.getD k 0 = m at *
      by_cases he : m = (n : Int)
      · subst he
        have HS := Lib.hid (HT.out.2 (Hk.out rfl))
        clear Hk Hn
        go_wp2
        go_ret
        exact ⟨ret_bool HS.out.symm, HB.out⟩
      · have HN := Lib.hid (Hn.out he)
        have e1 : (m == (n : Int)) = false := by simpa using he
        clear he Hn Hk
        go_wp2
        go_round
        case rel => exact ⟨k + 1, by omega, by go_num, HN.out⟩
        case measure => simp [intOf]; omega
    · obtain rfl : k = d.stack.length := by omega
      go_wp2
      go_ret
      refine ⟨ret_bool ?_, HB.out⟩
      cases t with
      | false => rfl
      | true => exact absurd (HT.out.1 rfl) hj.out
end Go.Proofs.YtbhjkfeonhddlaaDoor

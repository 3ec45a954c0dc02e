/- Own rows off blocks that turned. No premise of its own. -/
import Derived.Test.YtiblpnadninmbaaGreatDoorTn
import Derived.Test.YtiblpnadninmbaaGreatDoorKitK
namespace Go.Proofs.YtiblpnadninmbaaGreatDoor
open Go.RowKit
theorem Tn.new {F F' : List Nat} {w w1 w2 : World} (h : Tn F w w1) (k : Tn F' w1 w2) (hF : ∀ b ∈ F', w.heap.size ≤ b) : Tn F w w2 :=
  ⟨k.os.trans h.os, k.tape.trans h.tape, k.output.trans h.output, Nat.le_trans h.size k.size, fun i hi hf => (k.block i (Nat.lt_of_lt_of_le hi h.size) (fun e => by have := hF i e; omega)).trans (h.block i hi hf)⟩
theorem own_tn {w w' : World} {base n k : Nat} {e : TypeId} {v : Value} {vs : List Value} {F : List Nat} (h : w.ownsRow base e k v n vs) (ht : Tn F w w') (hF : ∀ b ∈ F, b < base) : w'.ownsRow base e k v n vs :=
  own_keptK h fun g hg => ht.block g (own_blockK h hg).2.1 (fun hm => by have := hF g hm; have := (own_blockK h hg).1; omega)
theorem app_tn {w w' : World} {base n k : Nat} {e : TypeId} {v : Value} {vs : List Value} (h : w.ownsRow base e k v n vs) (hg : w.grownBy w' v.ownBlock) : ∃ F : List Nat, (∀ b ∈ F, base ≤ b) ∧ Tn F w w' :=
  ⟨v.ownBlock.toList, fun b hb => (own_blockK h (by simpa using hb)).1, (Tn.refl _ _).grown hg (fun k e => .inl (by simp [e]))⟩
end Go.Proofs.YtiblpnadninmbaaGreatDoor

/- What turns in named blocks alone: a frame for objects that are written in place. No premise of its own. -/
import Derived.Test.YtiblpnadninmbaaGreatDoorKit
namespace Go.Proofs.YtiblpnadninmbaaGreatDoor
open Go.RowKit

/-- Of what lay in w nothing has turned but in the blocks of F. -/
structure Tn (F : List Nat) (w w' : World) : Prop where
  os : w'.os = w.os
  tape : w'.tape = w.tape
  output : w'.output = w.output
  size : w.heap.size ≤ w'.heap.size
  block : ∀ k, k < w.heap.size → k ∉ F → w'.heap[k]? = w.heap[k]?
section
variable {F F' : List Nat} {w w' w2 : World}
theorem Tn.refl (F : List Nat) (w : World) : Tn F w w := ⟨rfl, rfl, rfl, Nat.le_refl _, fun _ _ _ => rfl⟩
theorem Tn.trans (h : Tn F w w') (k : Tn F w' w2) : Tn F w w2 :=
  ⟨k.os.trans h.os, k.tape.trans h.tape, k.output.trans h.output, Nat.le_trans h.size k.size, fun i hi hf => (k.block i (Nat.lt_of_lt_of_le hi h.size) hf).trans (h.block i hi hf)⟩
theorem Tn.of_below (F : List Nat) (h : Below w.heap.size w w') : Tn F w w' := ⟨h.os, h.tape, h.output, h.size, fun k hk _ => h.block k hk⟩
theorem Tn.mono (h : Tn F w w') (hF : ∀ k, k ∈ F → k ∈ F') : Tn F' w w' := ⟨h.os, h.tape, h.output, h.size, fun k hk hf => h.block k hk (fun e => hf (hF k e))⟩
theorem Tn.drewN (h : Tn F w w') (n : Nat) : Tn F w (w'.drewN n) := ⟨h.os, h.tape, h.output, h.size, h.block⟩
theorem Tn.drew (h : Tn F w w') : Tn F w w'.drew := ⟨h.os, h.tape, h.output, h.size, h.block⟩
theorem Tn.below (h : Tn F w w') (hb : Below w'.heap.size w' w2) : Tn F w w2 := h.trans (Tn.of_below F hb)
theorem Tn.alloc (h : Tn F w w') (o : Obj) : Tn F w (w'.alloc o) := h.below ((Below.refl _ _).alloc (Nat.le_refl _) _)
theorem Tn.setCell (h : Tn F w w') {p : Addr} (hp : p.block ∈ F) (v : Value) : Tn F w (w'.setCell p v) :=
  h.trans ⟨rfl, rfl, rfl, by simp [World.setCell], fun k _ hf => Below.heap_setCell _ _ _ _ (fun e => hf (by rw [e]; exact hp))⟩
/-- A store into what was made since. -/
theorem Tn.setNew (h : Tn F w w') {p : Addr} (hp : w.heap.size ≤ p.block) (v : Value) : Tn F w (w'.setCell p v) :=
  ⟨h.os, h.tape, h.output, by simpa [World.setCell] using h.size, fun k hk hf => (Below.heap_setCell _ _ _ _ (by omega)).trans (h.block k hk hf)⟩
theorem Tn.grown (h : Tn F w w') {row : Option Nat} (hg : w'.grownBy w2 row) (hr : ∀ k, row = some k → k ∈ F ∨ w.heap.size ≤ k) : Tn F w w2 :=
  ⟨hg.os.trans h.os, hg.tape.trans h.tape, hg.output.trans h.output, Nat.le_trans h.size hg.size, fun k hk hf => (hg.block k (Nat.lt_of_lt_of_le hk h.size) (fun e => by rcases hr k e.symm with h1 | h1; exact hf h1; omega)).trans (h.block k hk hf)⟩
theorem Tn.toBelow {B : Nat} (h : Tn F w w') (hF : ∀ k, k ∈ F → B ≤ k) (hB : B ≤ w.heap.size) : Below B w w' :=
  ⟨h.os, h.tape, h.output, h.size, fun k hk => h.block k (by omega) (fun e => by have := hF k e; omega)⟩
theorem Tn.base {B : Nat} {w0 : World} (h0 : Below B w0 w) (h : Tn F w w') (hF : ∀ k, k ∈ F → B ≤ k) (hB : B ≤ w.heap.size) : Below B w0 w' := h0.trans (h.toBelow hF hB)
theorem Tn.box (h : Tn F w w') {b : Nat} {o : Obj} (hb : w.heap[b]? = some o) (hf : b ∉ F) : w'.heap[b]? = some o := (h.block b (box_lt hb) hf).trans hb
theorem Tn.cell (h : Tn F w w') {p : Addr} {v : Value} (hp : w.cell? p = some v) (hf : p.block ∉ F) : w'.cell? p = some v := by
  rw [World.cell?_of_block (w := w) (h.block p.block (World.block_lt_of_cell? w _ hp) hf)]; exact hp
theorem Rd.tn {A : Option Addr} {vs : List Value} (hr : Rd w A vs) (h : Tn F w w') (hA : ∀ a, A = some a → a.block ∉ F) : Rd w' A vs := fun i u hu => by
  obtain ⟨a, ha, hc⟩ := hr i u hu
  exact ⟨a, ha, h.cell hc (by rw [add_block]; exact hA a ha)⟩
end
end Go.Proofs.YtiblpnadninmbaaGreatDoor

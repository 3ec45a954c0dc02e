/- vergelaw06: the walk of lives. Conditions: the de Bruijn table as its initialiser lays it. -/
import Derived.Test.YtbhjkfeonhddlaaDoorRefO
namespace Go.Proofs.YtbhjkfeonhddlaaDoor
open Go.RowKit Go.Shelf

def IC.okP (d : IC) : Prop := 1 ≤ d.prio.length ∧ d.prio.length ≤ 64 ∧ (∀ i, i < d.prio.length → oddP (d.prio.getD i 0) = false) ∧ (∀ i : Nat, i < 64 → d.prio.length ≤ i → d.p.testBit i = false ∧ d.e.testBit i = false ∧ d.r.testBit i = false ∧ d.g.testBit i = false) ∧
    (∀ i : Nat, i < 64 → d.r.testBit i = true → d.g.testBit i = false) ∧ 0 ≤ d.t ∧ d.t ≤ 15 ∧ (∀ i, i < d.stack.length → 0 ≤ d.st i ∧ d.st i < d.prio.length ∧ d.ahead i < d.pr (d.st i))
instance (d : IC) : Decidable d.okP := by unfold IC.okP; infer_instance
theorem IC.ok_of {d : IC} (h : d.okP) : d.ok := by
  obtain ⟨h1, h2, h3, h4, h5, h6, h7, h8⟩ := h
  exact ⟨h1, h2, h3, fun i a b => h4 i b a, h5, h6, h7, h8⟩

def L0 : IC := ⟨0, 7, 0, 1, [3, 5, 5], 0, []⟩
def L1 : IC := ⟨1, 7, 0, 1, [3, 5, 5], 0, []⟩
def L2 : IC := ⟨0, 7, 0, 1, [3, 5, 5], 0, [0]⟩
def L3 : IC := ⟨4, 7, 4, 1, [3, 5, 5], 0, [0]⟩
def L4 : IC := ⟨6, 7, 6, 1, [3, 5, 5], 0, [0]⟩
def L5 : IC := ⟨4, 7, 6, 1, [3, 5, 5], 0, [0, 1]⟩
def L6 : IC := ⟨6, 7, 6, 1, [3, 5, 5], 0, [0]⟩
theorem L0_ok : L0.ok := IC.ok_of (by decide +kernel)
theorem L1_ok : L1.ok := IC.ok_of (by decide +kernel)
theorem L2_ok : L2.ok := IC.ok_of (by decide +kernel)
theorem L3_ok : L3.ok := IC.ok_of (by decide +kernel)
theorem L4_ok : L4.ok := IC.ok_of (by decide +kernel)
theorem L5_ok : L5.ok := IC.ok_of (by decide +kernel)
theorem L6_ok : L6.ok := IC.ok_of (by decide +kernel)
theorem L0_fits : L0.Fits := ⟨by decide, by decide, by decide, by decide, by decide, by decide⟩
theorem L1_fits : L1.Fits := ⟨by decide, by decide, by decide, by decide, by decide, by decide⟩
theorem L2_fits : L2.Fits := ⟨by decide, by decide, by decide, by decide, by decide, by decide⟩
theorem L3_fits : L3.Fits := ⟨by decide, by decide, by decide, by decide, by decide, by decide⟩
theorem L4_fits : L4.Fits := ⟨by decide, by decide, by decide, by decide, by decide, by decide⟩
theorem L5_fits : L5.Fits := ⟨by decide, by decide, by decide, by decide, by decide, by decide⟩
theorem L6_fits : L6.Fits := ⟨by decide, by decide, by decide, by decide, by decide, by decide⟩
theorem L_make : makeC 1 [3, 5, 5] = (L0, 0) := by
  have e : freshC 1 [3, 5, 5] = L0 := by kernel_rfl
  unfold makeC
  rw [e, if_pos L0_ok]
theorem L_r1 : L0.on 0 L0.raiseF = (L1, 0) := (IC.on_in (n := 0) L0_ok (by decide) _).trans (by kernel_rfl)
theorem L_r2 : L1.on 0 L1.raiseF = (L1, 4) := (IC.on_in (n := 0) L1_ok (by decide) _).trans (by kernel_rfl)
theorem L_a1 : L1.three L1.ackF = (L2, 0, 0) := (IC.three_ok L1_ok _).trans (by kernel_rfl)
theorem L_r3 : L2.on 2 L2.raiseF = (L3, 0) := (IC.on_in (n := 2) L2_ok (by decide) _).trans (by kernel_rfl)
theorem L_r4 : L3.on 1 L3.raiseF = (L4, 0) := (IC.on_in (n := 1) L3_ok (by decide) _).trans (by kernel_rfl)
theorem L_n : L4.num L4.nextF = (1, 0) := (IC.num_ok L4_ok _).trans (by kernel_rfl)
theorem L_a2 : L4.three L4.ackF = (L5, 1, 0) := (IC.three_ok L4_ok _).trans (by kernel_rfl)
theorem L_a3 : L5.three L5.ackF = (L5, 64, 0) := (IC.three_ok L5_ok _).trans (by kernel_rfl)
theorem L_l : L5.num (L5.level, 0) = (5, 0) := (IC.num_ok L5_ok _).trans (by kernel_rfl)
theorem L_e : L5.three L5.endF = (L6, 1, 0) := (IC.three_ok L5_ok _).trans (by kernel_rfl)
end Go.Proofs.YtbhjkfeonhddlaaDoor

/- vergelaw06: the walk of does. Conditions: a right controller, lists that read, the de Bruijn table as its initialiser lays it. -/
import Derived.Test.YtbhjkfeonhddlaaDoorNestA
namespace Go.Proofs.YtbhjkfeonhddlaaDoor
open Go.RowKit Go.Shelf

/-- A controller that keeps right, in memory of its own, or the one that was handed in. -/
def DoesPost (d : IC) (pA sA : Option Addr) (w : World) (e : Ending) (w' : World) : Prop :=
  ∃ x qA qc tA tc, e = .returned (icv x qA qc tA tc) ∧ d.Keeps x ∧ Rd w' qA (x.prio.map (.int .i64)) ∧ Rd w' tA (x.stack.map (.int .i64)) ∧ Below w.heap.size w w' ∧
    ((∀ a, qA = some a → w.heap.size ≤ a.block ∨ pA = some a) ∧ (∀ a, tA = some a → w.heap.size ≤ a.block ∨ sA = some a))

section
variable (d : IC) (hf : d.Fits) (hk : d.ok) (pA : Option Addr) (pc : Nat) (sA : Option Addr) (sc : Nat) (w : World) (hp : Rd w pA (d.prio.map (.int .i64))) (hs : Rd w sA (d.stack.map (.int .i64))) (line : Int)
include hf hk hp hs
set_option maxHeartbeats 4000000 in
theorem does_0 : Calls Tryd.prog 22 #[icv d pA pc sA sc, .agg #[.int .i64 0, .int .i64 line]] w (DoesPost d pA sA w) := by
  obtain ⟨X, z, hX⟩ : ∃ X z, d.on line d.raiseF = (X, z) := ⟨_, _, rfl⟩
  have HK : Hid (d.Keeps X) := by have := on_keeps hk hf line d.raiseF (raise_keeps hk hf); rw [hX] at this; exact this
  have f1 : Hid (∀ w, Rd w pA (d.prio.map (.int .i64)) → Rd w sA (d.stack.map (.int .i64)) → Calls Tryd.prog 18 #[icv d pA pc sA sc, .int .i64 line] w (RetI1 X z w)) := fun w hp hs => by have := raise_any d hf pA pc sA sc line w hp hs; rw [hX] at this; exact this
  clear hX
  have HK0 := Lib.hid (IC.Keeps.refl hk hf)
  have Hp := Lib.hid hp
  have Hs := Lib.hid hs
  clear hp hs hk
  unfold icv at *
  go_enter Tryd.func22, Tryd.ntmps22
  have leC : w.heap.size ≤ w.heap.size := by omega
  have leT : w.heap.size ≤ w.heap.size + 1 := by omega
  have leR : w.heap.size ≤ w.heap.size + 2 := by omega
  have leD : w.heap.size ≤ w.heap.size + 3 := by omega
  go_wp2_with fail
  refine (f1.out _ ?_ ?_).mono ?_
  · exact Rd.below Hp.out (by repeat (first | (with_reducible exact Below.refl _ _) | (with_reducible refine Below.setCell ?_ leC _) | (with_reducible refine Below.setCell ?_ leT _) | (with_reducible refine Below.setCell ?_ leR _) | (with_reducible refine Below.setCell ?_ leD _) | (with_reducible refine Below.drew ?_) | (with_reducible refine bdrewN ?_ _) | ((with_reducible refine Below.alloc ?_ ?_ _); rotate_left 1; focus (first | (simp; done) | (simp; omega) | omega))))
  · exact Rd.below Hs.out (by repeat (first | (with_reducible exact Below.refl _ _) | (with_reducible refine Below.setCell ?_ leC _) | (with_reducible refine Below.setCell ?_ leT _) | (with_reducible refine Below.setCell ?_ leR _) | (with_reducible refine Below.setCell ?_ leD _) | (with_reducible refine Below.drew ?_) | (with_reducible refine bdrewN ?_ _) | ((with_reducible refine Below.alloc ?_ ?_ _); rotate_left 1; focus (first | (simp; done) | (simp; omega) | omega))))
  rintro e w1 ⟨A1, k1, B1, j1, rfl, hp, hs, hb, h1, h2⟩
  unfold icv
  have HXC1 : Hid (w1.heap[w.heap.size]? = some (.cells _ _ (0, 0))) := box_keep (by repeat (first | ((with_reducible refine heap_new_at _ ?_); focus (first | (with_reducible rfl) | (simp; done))) | (with_reducible refine box_alloc ?_ _) | (with_reducible apply box_set) | ((with_reducible refine box_far ?_ ?_ _); rotate_left 1; focus (first | (simp; done) | (simp; omega) | omega)) | (with_reducible refine box_drew ?_) | (with_reducible refine box_drewN ?_ _))) hb
  try simp only [List.setIfInBounds_toArray, List.set_cons_zero, List.set_cons_succ] at HXC1
  have HXT1 : Hid (w1.heap[w.heap.size + 1]? = some (.cells _ _ (0, 0))) := box_keep (by repeat (first | ((with_reducible refine heap_new_at _ ?_); focus (first | (with_reducible rfl) | (simp; done))) | (with_reducible refine box_alloc ?_ _) | (with_reducible apply box_set) | ((with_reducible refine box_far ?_ ?_ _); rotate_left 1; focus (first | (simp; done) | (simp; omega) | omega)) | (with_reducible refine box_drew ?_) | (with_reducible refine box_drewN ?_ _))) hb
  try simp only [List.setIfInBounds_toArray, List.set_cons_zero, List.set_cons_succ] at HXT1
  have HXR1 : Hid (w1.heap[w.heap.size + 2]? = some (.cells _ _ (0, 0))) := box_keep (by repeat (first | ((with_reducible refine heap_new_at _ ?_); focus (first | (with_reducible rfl) | (simp; done))) | (with_reducible refine box_alloc ?_ _) | (with_reducible apply box_set) | ((with_reducible refine box_far ?_ ?_ _); rotate_left 1; focus (first | (simp; done) | (simp; omega) | omega)) | (with_reducible refine box_drew ?_) | (with_reducible refine box_drewN ?_ _))) hb
  try simp only [List.setIfInBounds_toArray, List.set_cons_zero, List.set_cons_succ] at HXR1
  have HXD1 : Hid (w1.heap[w.heap.size + 3]? = some (.cells _ _ (0, 0))) := box_keep (by repeat (first | ((with_reducible refine heap_new_at _ ?_); focus (first | (with_reducible rfl) | (simp; done))) | (with_reducible refine box_alloc ?_ _) | (with_reducible apply box_set) | ((with_reducible refine box_far ?_ ?_ _); rotate_left 1; focus (first | (simp; done) | (simp; omega) | omega)) | (with_reducible refine box_drew ?_) | (with_reducible refine box_drewN ?_ _))) hb
  try simp only [List.setIfInBounds_toArray, List.set_cons_zero, List.set_cons_succ] at HXD1
  obtain ⟨xC, yC⟩ := box_rules HXC1.out
  have lC1 := box_lt HXC1.out
  obtain ⟨xT, yT⟩ := box_rules HXT1.out
  have lT1 := box_lt HXT1.out
  obtain ⟨xR, yR⟩ := box_rules HXR1.out
  have lR1 := box_lt HXR1.out
  obtain ⟨xD, yD⟩ := box_rules HXD1.out
  have lD1 := box_lt HXD1.out
  have HB1 : Hid (Below w.heap.size w w1) := Below.trans (by repeat (first | (with_reducible exact Below.refl _ _) | (with_reducible refine Below.setCell ?_ leC _) | (with_reducible refine Below.setCell ?_ leT _) | (with_reducible refine Below.setCell ?_ leR _) | (with_reducible refine Below.setCell ?_ leD _) | (with_reducible refine Below.drew ?_) | (with_reducible refine bdrewN ?_ _) | ((with_reducible refine Below.alloc ?_ ?_ _); rotate_left 1; focus (first | (simp; done) | (simp; omega) | omega)))) (hb.mono (by first | (simp; done) | (simp; omega) | omega | (simp [World.setCell]; omega)))
  have s1 : w.heap.size ≤ w1.heap.size := HB1.out.size
  have RP : Hid (Rd w1 A1 (X.prio.map (.int .i64))) := hp
  have NP : Hid (∀ a, A1 = some a → w.heap.size ≤ a.block) := fun a ha => by have := h1 a ha; (try simp at this); omega
  have QPC : Hid (∀ a, A1 = some a → a.block ≠ w.heap.size) := fun a ha e => by have := h1 a ha; (try simp at this); omega
  have QPT : Hid (∀ a, A1 = some a → a.block ≠ w.heap.size + 1) := fun a ha e => by have := h1 a ha; (try simp at this); omega
  have QPR : Hid (∀ a, A1 = some a → a.block ≠ w.heap.size + 2) := fun a ha e => by have := h1 a ha; (try simp at this); omega
  have QPD : Hid (∀ a, A1 = some a → a.block ≠ w.heap.size + 3) := fun a ha e => by have := h1 a ha; (try simp at this); omega
  have RS : Hid (Rd w1 B1 (X.stack.map (.int .i64))) := hs
  have NS : Hid (∀ a, B1 = some a → w.heap.size ≤ a.block) := fun a ha => by have := h2 a ha; (try simp at this); omega
  have QSC : Hid (∀ a, B1 = some a → a.block ≠ w.heap.size) := fun a ha e => by have := h2 a ha; (try simp at this); omega
  have QST : Hid (∀ a, B1 = some a → a.block ≠ w.heap.size + 1) := fun a ha e => by have := h2 a ha; (try simp at this); omega
  have QSR : Hid (∀ a, B1 = some a → a.block ≠ w.heap.size + 2) := fun a ha e => by have := h2 a ha; (try simp at this); omega
  have QSD : Hid (∀ a, B1 = some a → a.block ≠ w.heap.size + 3) := fun a ha e => by have := h2 a ha; (try simp at this); omega
  clear hp hs hb h1 h2
  by_cases hz : z = 0
  · subst hz
    go_wp2_with fail
    refine bodyPost_ret (v := icv X A1 k1 B1 j1) (by simp [results, icv, Tryd.f22, go_sem, xR]) rfl ?_
    refine ⟨X, A1, k1, B1, j1, rfl, HK.out, ?_, ?_, ?_, fun a ha => .inl (NP.out a ha), fun a ha => .inl (NS.out a ha)⟩
    · repeat (with_reducible first | exact RP.out | refine Rd.set ?_ QPC.out _ | refine Rd.set ?_ QPT.out _ | refine Rd.set ?_ QPR.out _ | refine Rd.set ?_ QPD.out _ | refine Rd.drew ?_ | refine Rd.drewN ?_ _ | refine Rd.alloc ?_ _)
    · repeat (with_reducible first | exact RS.out | refine Rd.set ?_ QSC.out _ | refine Rd.set ?_ QST.out _ | refine Rd.set ?_ QSR.out _ | refine Rd.set ?_ QSD.out _ | refine Rd.drew ?_ | refine Rd.drewN ?_ _ | refine Rd.alloc ?_ _)
    · repeat (first | (with_reducible exact HB1.out) | (with_reducible refine Below.setCell ?_ leC _) | (with_reducible refine Below.setCell ?_ leT _) | (with_reducible refine Below.setCell ?_ leR _) | (with_reducible refine Below.setCell ?_ leD _) | (with_reducible refine Below.drew ?_) | (with_reducible refine bdrewN ?_ _) | ((with_reducible refine Below.alloc ?_ ?_ _); rotate_left 1; focus (first | (simp; done) | (simp; omega) | omega)))
  · have e0 : (z != 0) = true := by simpa using hz
    clear hz
    go_wp2_with fail
    refine bodyPost_ret (v := icv d pA pc sA sc) (by simp [results, icv, Tryd.f22, go_sem, xR]) rfl ?_
    refine ⟨d, pA, pc, sA, sc, rfl, HK0.out, ?_, ?_, ?_, fun a ha => .inr ha, fun a ha => .inr ha⟩
    · exact Rd.below Hp.out (by repeat (first | (with_reducible exact HB1.out) | (with_reducible refine Below.setCell ?_ leC _) | (with_reducible refine Below.setCell ?_ leT _) | (with_reducible refine Below.setCell ?_ leR _) | (with_reducible refine Below.setCell ?_ leD _) | (with_reducible refine Below.drew ?_) | (with_reducible refine bdrewN ?_ _) | ((with_reducible refine Below.alloc ?_ ?_ _); rotate_left 1; focus (first | (simp; done) | (simp; omega) | omega))))
    · exact Rd.below Hs.out (by repeat (first | (with_reducible exact HB1.out) | (with_reducible refine Below.setCell ?_ leC _) | (with_reducible refine Below.setCell ?_ leT _) | (with_reducible refine Below.setCell ?_ leR _) | (with_reducible refine Below.setCell ?_ leD _) | (with_reducible refine Below.drew ?_) | (with_reducible refine bdrewN ?_ _) | ((with_reducible refine Below.alloc ?_ ?_ _); rotate_left 1; focus (first | (simp; done) | (simp; omega) | omega))))
    · repeat (first | (with_reducible exact HB1.out) | (with_reducible refine Below.setCell ?_ leC _) | (with_reducible refine Below.setCell ?_ leT _) | (with_reducible refine Below.setCell ?_ leR _) | (with_reducible refine Below.setCell ?_ leD _) | (with_reducible refine Below.drew ?_) | (with_reducible refine bdrewN ?_ _) | ((with_reducible refine Below.alloc ?_ ?_ _); rotate_left 1; focus (first | (simp; done) | (simp; omega) | omega)))
set_option maxHeartbeats 4000000 in
theorem does_1 : Calls Tryd.prog 22 #[icv d pA pc sA sc, .agg #[.int .i64 1, .int .i64 line]] w (DoesPost d pA sA w) := by
  obtain ⟨X, z, hX⟩ : ∃ X z, d.on line d.lowerF = (X, z) := ⟨_, _, rfl⟩
  have HK : Hid (d.Keeps X) := by have := on_keeps hk hf line d.lowerF (lower_keeps hk hf); rw [hX] at this; exact this
  have f1 : Hid (∀ w, Rd w pA (d.prio.map (.int .i64)) → Rd w sA (d.stack.map (.int .i64)) → Calls Tryd.prog 25 #[icv d pA pc sA sc, .int .i64 line] w (RetI1 X z w)) := fun w hp hs => by have := lower_any d hf pA pc sA sc line w hp hs; rw [hX] at this; exact this
  clear hX
  have HK0 := Lib.hid (IC.Keeps.refl hk hf)
  have Hp := Lib.hid hp
  have Hs := Lib.hid hs
  clear hp hs hk
  unfold icv at *
  go_enter Tryd.func22, Tryd.ntmps22
  have leC : w.heap.size ≤ w.heap.size := by omega
  have leT : w.heap.size ≤ w.heap.size + 1 := by omega
  have leR : w.heap.size ≤ w.heap.size + 2 := by omega
  have leD : w.heap.size ≤ w.heap.size + 3 := by omega
  go_wp2_with fail
  refine (f1.out _ ?_ ?_).mono ?_
  · exact Rd.below Hp.out (by repeat (first | (with_reducible exact Below.refl _ _) | (with_reducible refine Below.setCell ?_ leC _) | (with_reducible refine Below.setCell ?_ leT _) | (with_reducible refine Below.setCell ?_ leR _) | (with_reducible refine Below.setCell ?_ leD _) | (with_reducible refine Below.drew ?_) | (with_reducible refine bdrewN ?_ _) | ((with_reducible refine Below.alloc ?_ ?_ _); rotate_left 1; focus (first | (simp; done) | (simp; omega) | omega))))
  · exact Rd.below Hs.out (by repeat (first | (with_reducible exact Below.refl _ _) | (with_reducible refine Below.setCell ?_ leC _) | (with_reducible refine Below.setCell ?_ leT _) | (with_reducible refine Below.setCell ?_ leR _) | (with_reducible refine Below.setCell ?_ leD _) | (with_reducible refine Below.drew ?_) | (with_reducible refine bdrewN ?_ _) | ((with_reducible refine Below.alloc ?_ ?_ _); rotate_left 1; focus (first | (simp; done) | (simp; omega) | omega))))
  rintro e w1 ⟨A1, k1, B1, j1, rfl, hp, hs, hb, h1, h2⟩
  unfold icv
  have HXC1 : Hid (w1.heap[w.heap.size]? = some (.cells _ _ (0, 0))) := box_keep (by repeat (first | ((with_reducible refine heap_new_at _ ?_); focus (first | (with_reducible rfl) | (simp; done))) | (with_reducible refine box_alloc ?_ _) | (with_reducible apply box_set) | ((with_reducible refine box_far ?_ ?_ _); rotate_left 1; focus (first | (simp; done) | (simp; omega) | omega)) | (with_reducible refine box_drew ?_) | (with_reducible refine box_drewN ?_ _))) hb
  try simp only [List.setIfInBounds_toArray, List.set_cons_zero, List.set_cons_succ] at HXC1
  have HXT1 : Hid (w1.heap[w.heap.size + 1]? = some (.cells _ _ (0, 0))) := box_keep (by repeat (first | ((with_reducible refine heap_new_at _ ?_); focus (first | (with_reducible rfl) | (simp; done))) | (with_reducible refine box_alloc ?_ _) | (with_reducible apply box_set) | ((with_reducible refine box_far ?_ ?_ _); rotate_left 1; focus (first | (simp; done) | (simp; omega) | omega)) | (with_reducible refine box_drew ?_) | (with_reducible refine box_drewN ?_ _))) hb
  try simp only [List.setIfInBounds_toArray, List.set_cons_zero, List.set_cons_succ] at HXT1
  have HXR1 : Hid (w1.heap[w.heap.size + 2]? = some (.cells _ _ (0, 0))) := box_keep (by repeat (first | ((with_reducible refine heap_new_at _ ?_); focus (first | (with_reducible rfl) | (simp; done))) | (with_reducible refine box_alloc ?_ _) | (with_reducible apply box_set) | ((with_reducible refine box_far ?_ ?_ _); rotate_left 1; focus (first | (simp; done) | (simp; omega) | omega)) | (with_reducible refine box_drew ?_) | (with_reducible refine box_drewN ?_ _))) hb
  try simp only [List.setIfInBounds_toArray, List.set_cons_zero, List.set_cons_succ] at HXR1
  have HXD1 : Hid (w1.heap[w.heap.size + 3]? = some (.cells _ _ (0, 0))) := box_keep (by repeat (first | ((with_reducible refine heap_new_at _ ?_); focus (first | (with_reducible rfl) | (simp; done))) | (with_reducible refine box_alloc ?_ _) | (with_reducible apply box_set) | ((with_reducible refine box_far ?_ ?_ _); rotate_left 1; focus (first | (simp; done) | (simp; omega) | omega)) | (with_reducible refine box_drew ?_) | (with_reducible refine box_drewN ?_ _))) hb
  try simp only [List.setIfInBounds_toArray, List.set_cons_zero, List.set_cons_succ] at HXD1
  obtain ⟨xC, yC⟩ := box_rules HXC1.out
  have lC1 := box_lt HXC1.out
  obtain ⟨xT, yT⟩ := box_rules HXT1.out
  have lT1 := box_lt HXT1.out
  obtain ⟨xR, yR⟩ := box_rules HXR1.out
  have lR1 := box_lt HXR1.out
  obtain ⟨xD, yD⟩ := box_rules HXD1.out
  have lD1 := box_lt HXD1.out
  have HB1 : Hid (Below w.heap.size w w1) := Below.trans (by repeat (first | (with_reducible exact Below.refl _ _) | (with_reducible refine Below.setCell ?_ leC _) | (with_reducible refine Below.setCell ?_ leT _) | (with_reducible refine Below.setCell ?_ leR _) | (with_reducible refine Below.setCell ?_ leD _) | (with_reducible refine Below.drew ?_) | (with_reducible refine bdrewN ?_ _) | ((with_reducible refine Below.alloc ?_ ?_ _); rotate_left 1; focus (first | (simp; done) | (simp; omega) | omega)))) (hb.mono (by first | (simp; done) | (simp; omega) | omega | (simp [World.setCell]; omega)))
  have s1 : w.heap.size ≤ w1.heap.size := HB1.out.size
  have RP : Hid (Rd w1 A1 (X.prio.map (.int .i64))) := hp
  have NP : Hid (∀ a, A1 = some a → w.heap.size ≤ a.block) := fun a ha => by have := h1 a ha; (try simp at this); omega
  have QPC : Hid (∀ a, A1 = some a → a.block ≠ w.heap.size) := fun a ha e => by have := h1 a ha; (try simp at this); omega
  have QPT : Hid (∀ a, A1 = some a → a.block ≠ w.heap.size + 1) := fun a ha e => by have := h1 a ha; (try simp at this); omega
  have QPR : Hid (∀ a, A1 = some a → a.block ≠ w.heap.size + 2) := fun a ha e => by have := h1 a ha; (try simp at this); omega
  have QPD : Hid (∀ a, A1 = some a → a.block ≠ w.heap.size + 3) := fun a ha e => by have := h1 a ha; (try simp at this); omega
  have RS : Hid (Rd w1 B1 (X.stack.map (.int .i64))) := hs
  have NS : Hid (∀ a, B1 = some a → w.heap.size ≤ a.block) := fun a ha => by have := h2 a ha; (try simp at this); omega
  have QSC : Hid (∀ a, B1 = some a → a.block ≠ w.heap.size) := fun a ha e => by have := h2 a ha; (try simp at this); omega
  have QST : Hid (∀ a, B1 = some a → a.block ≠ w.heap.size + 1) := fun a ha e => by have := h2 a ha; (try simp at this); omega
  have QSR : Hid (∀ a, B1 = some a → a.block ≠ w.heap.size + 2) := fun a ha e => by have := h2 a ha; (try simp at this); omega
  have QSD : Hid (∀ a, B1 = some a → a.block ≠ w.heap.size + 3) := fun a ha e => by have := h2 a ha; (try simp at this); omega
  clear hp hs hb h1 h2
  by_cases hz : z = 0
  · subst hz
    go_wp2_with fail
    refine bodyPost_ret (v := icv X A1 k1 B1 j1) (by simp [results, icv, Tryd.f22, go_sem, xR]) rfl ?_
    refine ⟨X, A1, k1, B1, j1, rfl, HK.out, ?_, ?_, ?_, fun a ha => .inl (NP.out a ha), fun a ha => .inl (NS.out a ha)⟩
    · repeat (with_reducible first | exact RP.out | refine Rd.set ?_ QPC.out _ | refine Rd.set ?_ QPT.out _ | refine Rd.set ?_ QPR.out _ | refine Rd.set ?_ QPD.out _ | refine Rd.drew ?_ | refine Rd.drewN ?_ _ | refine Rd.alloc ?_ _)
    · repeat (with_reducible first | exact RS.out | refine Rd.set ?_ QSC.out _ | refine Rd.set ?_ QST.out _ | refine Rd.set ?_ QSR.out _ | refine Rd.set ?_ QSD.out _ | refine Rd.drew ?_ | refine Rd.drewN ?_ _ | refine Rd.alloc ?_ _)
    · repeat (first | (with_reducible exact HB1.out) | (with_reducible refine Below.setCell ?_ leC _) | (with_reducible refine Below.setCell ?_ leT _) | (with_reducible refine Below.setCell ?_ leR _) | (with_reducible refine Below.setCell ?_ leD _) | (with_reducible refine Below.drew ?_) | (with_reducible refine bdrewN ?_ _) | ((with_reducible refine Below.alloc ?_ ?_ _); rotate_left 1; focus (first | (simp; done) | (simp; omega) | omega)))
  · have e0 : (z != 0) = true := by simpa using hz
    clear hz
    go_wp2_with fail
    refine bodyPost_ret (v := icv d pA pc sA sc) (by simp [results, icv, Tryd.f22, go_sem, xR]) rfl ?_
    refine ⟨d, pA, pc, sA, sc, rfl, HK0.out, ?_, ?_, ?_, fun a ha => .inr ha, fun a ha => .inr ha⟩
    · exact Rd.below Hp.out (by repeat (first | (with_reducible exact HB1.out) | (with_reducible refine Below.setCell ?_ leC _) | (with_reducible refine Below.setCell ?_ leT _) | (with_reducible refine Below.setCell ?_ leR _) | (with_reducible refine Below.setCell ?_ leD _) | (with_reducible refine Below.drew ?_) | (with_reducible refine bdrewN ?_ _) | ((with_reducible refine Below.alloc ?_ ?_ _); rotate_left 1; focus (first | (simp; done) | (simp; omega) | omega))))
    · exact Rd.below Hs.out (by repeat (first | (with_reducible exact HB1.out) | (with_reducible refine Below.setCell ?_ leC _) | (with_reducible refine Below.setCell ?_ leT _) | (with_reducible refine Below.setCell ?_ leR _) | (with_reducible refine Below.setCell ?_ leD _) | (with_reducible refine Below.drew ?_) | (with_reducible refine bdrewN ?_ _) | ((with_reducible refine Below.alloc ?_ ?_ _); rotate_left 1; focus (first | (simp; done) | (simp; omega) | omega))))
    · repeat (first | (with_reducible exact HB1.out) | (with_reducible refine Below.setCell ?_ leC _) | (with_reducible refine Below.setCell ?_ leT _) | (with_reducible refine Below.setCell ?_ leR _) | (with_reducible refine Below.setCell ?_ leD _) | (with_reducible refine Below.drew ?_) | (with_reducible refine bdrewN ?_ _) | ((with_reducible refine Below.alloc ?_ ?_ _); rotate_left 1; focus (first | (simp; done) | (simp; omega) | omega)))
set_option maxHeartbeats 4000000 in
theorem does_2 : Calls Tryd.prog 22 #[icv d pA pc sA sc, .agg #[.int .i64 2, .int .i64 line]] w (DoesPost d pA sA w) := by
  obtain ⟨X, z, hX⟩ : ∃ X z, d.on line (d.enableF true) = (X, z) := ⟨_, _, rfl⟩
  have HK : Hid (d.Keeps X) := by have := on_keeps hk hf line (d.enableF true) (enable_keeps hk hf true); rw [hX] at this; exact this
  have f1 : Hid (∀ w, Rd w pA (d.prio.map (.int .i64)) → Rd w sA (d.stack.map (.int .i64)) → Calls Tryd.prog 27 #[icv d pA pc sA sc, .int .i64 line, .bool true] w (RetI1 X z w)) := fun w hp hs => by have := enable_any d hf pA pc sA sc line w hp hs true; rw [hX] at this; exact this
  clear hX
  have HK0 := Lib.hid (IC.Keeps.refl hk hf)
  have Hp := Lib.hid hp
  have Hs := Lib.hid hs
  clear hp hs hk
  unfold icv at *
  go_enter Tryd.func22, Tryd.ntmps22
  have leC : w.heap.size ≤ w.heap.size := by omega
  have leT : w.heap.size ≤ w.heap.size + 1 := by omega
  have leR : w.heap.size ≤ w.heap.size + 2 := by omega
  have leD : w.heap.size ≤ w.heap.size + 3 := by omega
  go_wp2_with fail
  refine (f1.out _ ?_ ?_).mono ?_
  · exact Rd.below Hp.out (by repeat (first | (with_reducible exact Below.refl _ _) | (with_reducible refine Below.setCell ?_ leC _) | (with_reducible refine Below.setCell ?_ leT _) | (with_reducible refine Below.setCell ?_ leR _) | (with_reducible refine Below.setCell ?_ leD _) | (with_reducible refine Below.drew ?_) | (with_reducible refine bdrewN ?_ _) | ((with_reducible refine Below.alloc ?_ ?_ _); rotate_left 1; focus (first | (simp; done) | (simp; omega) | omega))))
  · exact Rd.below Hs.out (by repeat (first | (with_reducible exact Below.refl _ _) | (with_reducible refine Below.setCell ?_ leC _) | (with_reducible refine Below.setCell ?_ leT _) | (with_reducible refine Below.setCell ?_ leR _) | (with_reducible refine Below.setCell ?_ leD _) | (with_reducible refine Below.drew ?_) | (with_reducible refine bdrewN ?_ _) | ((with_reducible refine Below.alloc ?_ ?_ _); rotate_left 1; focus (first | (simp; done) | (simp; omega) | omega))))
  rintro e w1 ⟨A1, k1, B1, j1, rfl, hp, hs, hb, h1, h2⟩
  unfold icv
  have HXC1 : Hid (w1.heap[w.heap.size]? = some (.cells _ _ (0, 0))) := box_keep (by repeat (first | ((with_reducible refine heap_new_at _ ?_); focus (first | (with_reducible rfl) | (simp; done))) | (with_reducible refine box_alloc ?_ _) | (with_reducible apply box_set) | ((with_reducible refine box_far ?_ ?_ _); rotate_left 1; focus (first | (simp; done) | (simp; omega) | omega)) | (with_reducible refine box_drew ?_) | (with_reducible refine box_drewN ?_ _))) hb
  try simp only [List.setIfInBounds_toArray, List.set_cons_zero, List.set_cons_succ] at HXC1
  have HXT1 : Hid (w1.heap[w.heap.size + 1]? = some (.cells _ _ (0, 0))) := box_keep (by repeat (first | ((with_reducible refine heap_new_at _ ?_); focus (first | (with_reducible rfl) | (simp; done))) | (with_reducible refine box_alloc ?_ _) | (with_reducible apply box_set) | ((with_reducible refine box_far ?_ ?_ _); rotate_left 1; focus (first | (simp; done) | (simp; omega) | omega)) | (with_reducible refine box_drew ?_) | (with_reducible refine box_drewN ?_ _))) hb
  try simp only [List.setIfInBounds_toArray, List.set_cons_zero, List.set_cons_succ] at HXT1
  have HXR1 : Hid (w1.heap[w.heap.size + 2]? = some (.cells _ _ (0, 0))) := box_keep (by repeat (first | ((with_reducible refine heap_new_at _ ?_); focus (first | (with_reducible rfl) | (simp; done))) | (with_reducible refine box_alloc ?_ _) | (with_reducible apply box_set) | ((with_reducible refine box_far ?_ ?_ _); rotate_left 1; focus (first | (simp; done) | (simp; omega) | omega)) | (with_reducible refine box_drew ?_) | (with_reducible refine box_drewN ?_ _))) hb
  try simp only [List.setIfInBounds_toArray, List.set_cons_zero, List.set_cons_succ] at HXR1
  have HXD1 : Hid (w1.heap[w.heap.size + 3]? = some (.cells _ _ (0, 0))) := box_keep (by repeat (first | ((with_reducible refine heap_new_at _ ?_); focus (first | (with_reducible rfl) | (simp; done))) | (with_reducible refine box_alloc ?_ _) | (with_reducible apply box_set) | ((with_reducible refine box_far ?_ ?_ _); rotate_left 1; focus (first | (simp; done) | (simp; omega) | omega)) | (with_reducible refine box_drew ?_) | (with_reducible refine box_drewN ?_ _))) hb
  try simp only [List.setIfInBounds_toArray, List.set_cons_zero, List.set_cons_succ] at HXD1
  obtain ⟨xC, yC⟩ := box_rules HXC1.out
  have lC1 := box_lt HXC1.out
  obtain ⟨xT, yT⟩ := box_rules HXT1.out
  have lT1 := box_lt HXT1.out
  obtain ⟨xR, yR⟩ := box_rules HXR1.out
  have lR1 := box_lt HXR1.out
  obtain ⟨xD, yD⟩ := box_rules HXD1.out
  have lD1 := box_lt HXD1.out
  have HB1 : Hid (Below w.heap.size w w1) := Below.trans (by repeat (first | (with_reducible exact Below.refl _ _) | (with_reducible refine Below.setCell ?_ leC _) | (with_reducible refine Below.setCell ?_ leT _) | (with_reducible refine Below.setCell ?_ leR _) | (with_reducible refine Below.setCell ?_ leD _) | (with_reducible refine Below.drew ?_) | (with_reducible refine bdrewN ?_ _) | ((with_reducible refine Below.alloc ?_ ?_ _); rotate_left 1; focus (first | (simp; done) | (simp; omega) | omega)))) (hb.mono (by first | (simp; done) | (simp; omega) | omega | (simp [World.setCell]; omega)))
  have s1 : w.heap.size ≤ w1.heap.size := HB1.out.size
  have RP : Hid (Rd w1 A1 (X.prio.map (.int .i64))) := hp
  have NP : Hid (∀ a, A1 = some a → w.heap.size ≤ a.block) := fun a ha => by have := h1 a ha; (try simp at this); omega
  have QPC : Hid (∀ a, A1 = some a → a.block ≠ w.heap.size) := fun a ha e => by have := h1 a ha; (try simp at this); omega
  have QPT : Hid (∀ a, A1 = some a → a.block ≠ w.heap.size + 1) := fun a ha e => by have := h1 a ha; (try simp at this); omega
  have QPR : Hid (∀ a, A1 = some a → a.block ≠ w.heap.size + 2) := fun a ha e => by have := h1 a ha; (try simp at this); omega
  have QPD : Hid (∀ a, A1 = some a → a.block ≠ w.heap.size + 3) := fun a ha e => by have := h1 a ha; (try simp at this); omega
  have RS : Hid (Rd w1 B1 (X.stack.map (.int .i64))) := hs
  have NS : Hid (∀ a, B1 = some a → w.heap.size ≤ a.block) := fun a ha => by have := h2 a ha; (try simp at this); omega
  have QSC : Hid (∀ a, B1 = some a → a.block ≠ w.heap.size) := fun a ha e => by have := h2 a ha; (try simp at this); omega
  have QST : Hid (∀ a, B1 = some a → a.block ≠ w.heap.size + 1) := fun a ha e => by have := h2 a ha; (try simp at this); omega
  have QSR : Hid (∀ a, B1 = some a → a.block ≠ w.heap.size + 2) := fun a ha e => by have := h2 a ha; (try simp at this); omega
  have QSD : Hid (∀ a, B1 = some a → a.block ≠ w.heap.size + 3) := fun a ha e => by have := h2 a ha; (try simp at this); omega
  clear hp hs hb h1 h2
  by_cases hz : z = 0
  · subst hz
    go_wp2_with fail
    refine bodyPost_ret (v := icv X A1 k1 B1 j1) (by simp [results, icv, Tryd.f22, go_sem, xR]) rfl ?_
    refine ⟨X, A1, k1, B1, j1, rfl, HK.out, ?_, ?_, ?_, fun a ha => .inl (NP.out a ha), fun a ha => .inl (NS.out a ha)⟩
    · repeat (with_reducible first | exact RP.out | refine Rd.set ?_ QPC.out _ | refine Rd.set ?_ QPT.out _ | refine Rd.set ?_ QPR.out _ | refine Rd.set ?_ QPD.out _ | refine Rd.drew ?_ | refine Rd.drewN ?_ _ | refine Rd.alloc ?_ _)
    · repeat (with_reducible first | exact RS.out | refine Rd.set ?_ QSC.out _ | refine Rd.set ?_ QST.out _ | refine Rd.set ?_ QSR.out _ | refine Rd.set ?_ QSD.out _ | refine Rd.drew ?_ | refine Rd.drewN ?_ _ | refine Rd.alloc ?_ _)
    · repeat (first | (with_reducible exact HB1.out) | (with_reducible refine Below.setCell ?_ leC _) | (with_reducible refine Below.setCell ?_ leT _) | (with_reducible refine Below.setCell ?_ leR _) | (with_reducible refine Below.setCell ?_ leD _) | (with_reducible refine Below.drew ?_) | (with_reducible refine bdrewN ?_ _) | ((with_reducible refine Below.alloc ?_ ?_ _); rotate_left 1; focus (first | (simp; done) | (simp; omega) | omega)))
  · have e0 : (z != 0) = true := by simpa using hz
    clear hz
    go_wp2_with fail
    refine bodyPost_ret (v := icv d pA pc sA sc) (by simp [results, icv, Tryd.f22, go_sem, xR]) rfl ?_
    refine ⟨d, pA, pc, sA, sc, rfl, HK0.out, ?_, ?_, ?_, fun a ha => .inr ha, fun a ha => .inr ha⟩
    · exact Rd.below Hp.out (by repeat (first | (with_reducible exact HB1.out) | (with_reducible refine Below.setCell ?_ leC _) | (with_reducible refine Below.setCell ?_ leT _) | (with_reducible refine Below.setCell ?_ leR _) | (with_reducible refine Below.setCell ?_ leD _) | (with_reducible refine Below.drew ?_) | (with_reducible refine bdrewN ?_ _) | ((with_reducible refine Below.alloc ?_ ?_ _); rotate_left 1; focus (first | (simp; done) | (simp; omega) | omega))))
    · exact Rd.below Hs.out (by repeat (first | (with_reducible exact HB1.out) | (with_reducible refine Below.setCell ?_ leC _) | (with_reducible refine Below.setCell ?_ leT _) | (with_reducible refine Below.setCell ?_ leR _) | (with_reducible refine Below.setCell ?_ leD _) | (with_reducible refine Below.drew ?_) | (with_reducible refine bdrewN ?_ _) | ((with_reducible refine Below.alloc ?_ ?_ _); rotate_left 1; focus (first | (simp; done) | (simp; omega) | omega))))
    · repeat (first | (with_reducible exact HB1.out) | (with_reducible refine Below.setCell ?_ leC _) | (with_reducible refine Below.setCell ?_ leT _) | (with_reducible refine Below.setCell ?_ leR _) | (with_reducible refine Below.setCell ?_ leD _) | (with_reducible refine Below.drew ?_) | (with_reducible refine bdrewN ?_ _) | ((with_reducible refine Below.alloc ?_ ?_ _); rotate_left 1; focus (first | (simp; done) | (simp; omega) | omega)))
set_option maxHeartbeats 4000000 in
theorem does_3 : Calls Tryd.prog 22 #[icv d pA pc sA sc, .agg #[.int .i64 3, .int .i64 line]] w (DoesPost d pA sA w) := by
  obtain ⟨X, z, hX⟩ : ∃ X z, d.on line (d.enableF false) = (X, z) := ⟨_, _, rfl⟩
  have HK : Hid (d.Keeps X) := by have := on_keeps hk hf line (d.enableF false) (enable_keeps hk hf false); rw [hX] at this; exact this
  have f1 : Hid (∀ w, Rd w pA (d.prio.map (.int .i64)) → Rd w sA (d.stack.map (.int .i64)) → Calls Tryd.prog 27 #[icv d pA pc sA sc, .int .i64 line, .bool false] w (RetI1 X z w)) := fun w hp hs => by have := enable_any d hf pA pc sA sc line w hp hs false; rw [hX] at this; exact this
  clear hX
  have HK0 := Lib.hid (IC.Keeps.refl hk hf)
  have Hp := Lib.hid hp
  have Hs := Lib.hid hs
  clear hp hs hk
  unfold icv at *
  go_enter Tryd.func22, Tryd.ntmps22
  have leC : w.heap.size ≤ w.heap.size := by omega
  have leT : w.heap.size ≤ w.heap.size + 1 := by omega
  have leR : w.heap.size ≤ w.heap.size + 2 := by omega
  have leD : w.heap.size ≤ w.heap.size + 3 := by omega
  go_wp2_with fail
  refine (f1.out _ ?_ ?_).mono ?_
  · exact Rd.below Hp.out (by repeat (first | (with_reducible exact Below.refl _ _) | (with_reducible refine Below.setCell ?_ leC _) | (with_reducible refine Below.setCell ?_ leT _) | (with_reducible refine Below.setCell ?_ leR _) | (with_reducible refine Below.setCell ?_ leD _) | (with_reducible refine Below.drew ?_) | (with_reducible refine bdrewN ?_ _) | ((with_reducible refine Below.alloc ?_ ?_ _); rotate_left 1; focus (first | (simp; done) | (simp; omega) | omega))))
  · exact Rd.below Hs.out (by repeat (first | (with_reducible exact Below.refl _ _) | (with_reducible refine Below.setCell ?_ leC _) | (with_reducible refine Below.setCell ?_ leT _) | (with_reducible refine Below.setCell ?_ leR _) | (with_reducible refine Below.setCell ?_ leD _) | (with_reducible refine Below.drew ?_) | (with_reducible refine bdrewN ?_ _) | ((with_reducible refine Below.alloc ?_ ?_ _); rotate_left 1; focus (first | (simp; done) | (simp; omega) | omega))))
  rintro e w1 ⟨A1, k1, B1, j1, rfl, hp, hs, hb, h1, h2⟩
  unfold icv
  have HXC1 : Hid (w1.heap[w.heap.size]? = some (.cells _ _ (0, 0))) := box_keep (by repeat (first | ((with_reducible refine heap_new_at _ ?_); focus (first | (with_reducible rfl) | (simp; done))) | (with_reducible refine box_alloc ?_ _) | (with_reducible apply box_set) | ((with_reducible refine box_far ?_ ?_ _); rotate_left 1; focus (first | (simp; done) | (simp; omega) | omega)) | (with_reducible refine box_drew ?_) | (with_reducible refine box_drewN ?_ _))) hb
  try simp only [List.setIfInBounds_toArray, List.set_cons_zero, List.set_cons_succ] at HXC1
  have HXT1 : Hid (w1.heap[w.heap.size + 1]? = some (.cells _ _ (0, 0))) := box_keep (by repeat (first | ((with_reducible refine heap_new_at _ ?_); focus (first | (with_reducible rfl) | (simp; done))) | (with_reducible refine box_alloc ?_ _) | (with_reducible apply box_set) | ((with_reducible refine box_far ?_ ?_ _); rotate_left 1; focus (first | (simp; done) | (simp; omega) | omega)) | (with_reducible refine box_drew ?_) | (with_reducible refine box_drewN ?_ _))) hb
  try simp only [List.setIfInBounds_toArray, List.set_cons_zero, List.set_cons_succ] at HXT1
  have HXR1 : Hid (w1.heap[w.heap.size + 2]? = some (.cells _ _ (0, 0))) := box_keep (by repeat (first | ((with_reducible refine heap_new_at _ ?_); focus (first | (with_reducible rfl) | (simp; done))) | (with_reducible refine box_alloc ?_ _) | (with_reducible apply box_set) | ((with_reducible refine box_far ?_ ?_ _); rotate_left 1; focus (first | (simp; done) | (simp; omega) | omega)) | (with_reducible refine box_drew ?_) | (with_reducible refine box_drewN ?_ _))) hb
  try simp only [List.setIfInBounds_toArray, List.set_cons_zero, List.set_cons_succ] at HXR1
  have HXD1 : Hid (w1.heap[w.heap.size + 3]? = some (.cells _ _ (0, 0))) := box_keep (by repeat (first | ((with_reducible refine heap_new_at _ ?_); focus (first | (with_reducible rfl) | (simp; done))) | (with_reducible refine box_alloc ?_ _) | (with_reducible apply box_set) | ((with_reducible refine box_far ?_ ?_ _); rotate_left 1; focus (first | (simp; done) | (simp; omega) | omega)) | (with_reducible refine box_drew ?_) | (with_reducible refine box_drewN ?_ _))) hb
  try simp only [List.setIfInBounds_toArray, List.set_cons_zero, List.set_cons_succ] at HXD1
  obtain ⟨xC, yC⟩ := box_rules HXC1.out
  have lC1 := box_lt HXC1.out
  obtain ⟨xT, yT⟩ := box_rules HXT1.out
  have lT1 := box_lt HXT1.out
  obtain ⟨xR, yR⟩ := box_rules HXR1.out
  have lR1 := box_lt HXR1.out
  obtain ⟨xD, yD⟩ := box_rules HXD1.out
  have lD1 := box_lt HXD1.out
  have HB1 : Hid (Below w.heap.size w w1) := Below.trans (by repeat (first | (with_reducible exact Below.refl _ _) | (with_reducible refine Below.setCell ?_ leC _) | (with_reducible refine Below.setCell ?_ leT _) | (with_reducible refine Below.setCell ?_ leR _) | (with_reducible refine Below.setCell ?_ leD _) | (with_reducible refine Below.drew ?_) | (with_reducible refine bdrewN ?_ _) | ((with_reducible refine Below.alloc ?_ ?_ _); rotate_left 1; focus (first | (simp; done) | (simp; omega) | omega)))) (hb.mono (by first | (simp; done) | (simp; omega) | omega | (simp [World.setCell]; omega)))
  have s1 : w.heap.size ≤ w1.heap.size := HB1.out.size
  have RP : Hid (Rd w1 A1 (X.prio.map (.int .i64))) := hp
  have NP : Hid (∀ a, A1 = some a → w.heap.size ≤ a.block) := fun a ha => by have := h1 a ha; (try simp at this); omega
  have QPC : Hid (∀ a, A1 = some a → a.block ≠ w.heap.size) := fun a ha e => by have := h1 a ha; (try simp at this); omega
  have QPT : Hid (∀ a, A1 = some a → a.block ≠ w.heap.size + 1) := fun a ha e => by have := h1 a ha; (try simp at this); omega
  have QPR : Hid (∀ a, A1 = some a → a.block ≠ w.heap.size + 2) := fun a ha e => by have := h1 a ha; (try simp at this); omega
  have QPD : Hid (∀ a, A1 = some a → a.block ≠ w.heap.size + 3) := fun a ha e => by have := h1 a ha; (try simp at this); omega
  have RS : Hid (Rd w1 B1 (X.stack.map (.int .i64))) := hs
  have NS : Hid (∀ a, B1 = some a → w.heap.size ≤ a.block) := fun a ha => by have := h2 a ha; (try simp at this); omega
  have QSC : Hid (∀ a, B1 = some a → a.block ≠ w.heap.size) := fun a ha e => by have := h2 a ha; (try simp at this); omega
  have QST : Hid (∀ a, B1 = some a → a.block ≠ w.heap.size + 1) := fun a ha e => by have := h2 a ha; (try simp at this); omega
  have QSR : Hid (∀ a, B1 = some a → a.block ≠ w.heap.size + 2) := fun a ha e => by have := h2 a ha; (try simp at this); omega
  have QSD : Hid (∀ a, B1 = some a → a.block ≠ w.heap.size + 3) := fun a ha e => by have := h2 a ha; (try simp at this); omega
  clear hp hs hb h1 h2
  by_cases hz : z = 0
  · subst hz
    go_wp2_with fail
    refine bodyPost_ret (v := icv X A1 k1 B1 j1) (by simp [results, icv, Tryd.f22, go_sem, xR]) rfl ?_
    refine ⟨X, A1, k1, B1, j1, rfl, HK.out, ?_, ?_, ?_, fun a ha => .inl (NP.out a ha), fun a ha => .inl (NS.out a ha)⟩
    · repeat (with_reducible first | exact RP.out | refine Rd.set ?_ QPC.out _ | refine Rd.set ?_ QPT.out _ | refine Rd.set ?_ QPR.out _ | refine Rd.set ?_ QPD.out _ | refine Rd.drew ?_ | refine Rd.drewN ?_ _ | refine Rd.alloc ?_ _)
    · repeat (with_reducible first | exact RS.out | refine Rd.set ?_ QSC.out _ | refine Rd.set ?_ QST.out _ | refine Rd.set ?_ QSR.out _ | refine Rd.set ?_ QSD.out _ | refine Rd.drew ?_ | refine Rd.drewN ?_ _ | refine Rd.alloc ?_ _)
    · repeat (first | (with_reducible exact HB1.out) | (with_reducible refine Below.setCell ?_ leC _) | (with_reducible refine Below.setCell ?_ leT _) | (with_reducible refine Below.setCell ?_ leR _) | (with_reducible refine Below.setCell ?_ leD _) | (with_reducible refine Below.drew ?_) | (with_reducible refine bdrewN ?_ _) | ((with_reducible refine Below.alloc ?_ ?_ _); rotate_left 1; focus (first | (simp; done) | (simp; omega) | omega)))
  · have e0 : (z != 0) = true := by simpa using hz
    clear hz
    go_wp2_with fail
    refine bodyPost_ret (v := icv d pA pc sA sc) (by simp [results, icv, Tryd.f22, go_sem, xR]) rfl ?_
    refine ⟨d, pA, pc, sA, sc, rfl, HK0.out, ?_, ?_, ?_, fun a ha => .inr ha, fun a ha => .inr ha⟩
    · exact Rd.below Hp.out (by repeat (first | (with_reducible exact HB1.out) | (with_reducible refine Below.setCell ?_ leC _) | (with_reducible refine Below.setCell ?_ leT _) | (with_reducible refine Below.setCell ?_ leR _) | (with_reducible refine Below.setCell ?_ leD _) | (with_reducible refine Below.drew ?_) | (with_reducible refine bdrewN ?_ _) | ((with_reducible refine Below.alloc ?_ ?_ _); rotate_left 1; focus (first | (simp; done) | (simp; omega) | omega))))
    · exact Rd.below Hs.out (by repeat (first | (with_reducible exact HB1.out) | (with_reducible refine Below.setCell ?_ leC _) | (with_reducible refine Below.setCell ?_ leT _) | (with_reducible refine Below.setCell ?_ leR _) | (with_reducible refine Below.setCell ?_ leD _) | (with_reducible refine Below.drew ?_) | (with_reducible refine bdrewN ?_ _) | ((with_reducible refine Below.alloc ?_ ?_ _); rotate_left 1; focus (first | (simp; done) | (simp; omega) | omega))))
    · repeat (first | (with_reducible exact HB1.out) | (with_reducible refine Below.setCell ?_ leC _) | (with_reducible refine Below.setCell ?_ leT _) | (with_reducible refine Below.setCell ?_ leR _) | (with_reducible refine Below.setCell ?_ leD _) | (with_reducible refine Below.drew ?_) | (with_reducible refine bdrewN ?_ _) | ((with_reducible refine Below.alloc ?_ ?_ _); rotate_left 1; focus (first | (simp; done) | (simp; omega) | omega)))
set_option maxHeartbeats 4000000 in
theorem does_4 (hT : Tab w) : Calls Tryd.prog 22 #[icv d pA pc sA sc, .agg #[.int .i64 4, .int .i64 line]] w (DoesPost d pA sA w) := by
  obtain ⟨X, n, z, hX⟩ : ∃ X n z, d.three d.ackF = (X, n, z) := ⟨_, _, _, rfl⟩
  have HK : Hid (d.Keeps X) := by have := ack_keeps hk hf; rw [hX] at this; exact this
  have f1 : Hid (∀ w, Rd w pA (d.prio.map (.int .i64)) → Rd w sA (d.stack.map (.int .i64)) → Tab w → Calls Tryd.prog 12 #[icv d pA pc sA sc] w (RetI2 X n z w)) := fun w hp hs hT => by have := ack_any d hf pA pc sA sc w hp hs hT; rw [hX] at this; exact this
  have HT := Lib.hid hT
  have lT := hT.lt
  clear hX hT
  have HK0 := Lib.hid (IC.Keeps.refl hk hf)
  have Hp := Lib.hid hp
  have Hs := Lib.hid hs
  clear hp hs hk
  unfold icv at *
  go_enter Tryd.func22, Tryd.ntmps22
  have leC : w.heap.size ≤ w.heap.size := by omega
  have leT : w.heap.size ≤ w.heap.size + 1 := by omega
  have leR : w.heap.size ≤ w.heap.size + 2 := by omega
  have leD : w.heap.size ≤ w.heap.size + 3 := by omega
  go_wp2_with fail
  refine (f1.out _ ?_ ?_ ?_).mono ?_
  · exact Rd.below Hp.out (by repeat (first | (with_reducible exact Below.refl _ _) | (with_reducible refine Below.setCell ?_ leC _) | (with_reducible refine Below.setCell ?_ leT _) | (with_reducible refine Below.setCell ?_ leR _) | (with_reducible refine Below.setCell ?_ leD _) | (with_reducible refine Below.drew ?_) | (with_reducible refine bdrewN ?_ _) | ((with_reducible refine Below.alloc ?_ ?_ _); rotate_left 1; focus (first | (simp; done) | (simp; omega) | omega))))
  · exact Rd.below Hs.out (by repeat (first | (with_reducible exact Below.refl _ _) | (with_reducible refine Below.setCell ?_ leC _) | (with_reducible refine Below.setCell ?_ leT _) | (with_reducible refine Below.setCell ?_ leR _) | (with_reducible refine Below.setCell ?_ leD _) | (with_reducible refine Below.drew ?_) | (with_reducible refine bdrewN ?_ _) | ((with_reducible refine Below.alloc ?_ ?_ _); rotate_left 1; focus (first | (simp; done) | (simp; omega) | omega))))
  · refine HT.out.below (B := w.heap.size) ?_ lT
    repeat (first | (with_reducible exact Below.refl _ _) | (with_reducible refine Below.setCell ?_ leC _) | (with_reducible refine Below.setCell ?_ leT _) | (with_reducible refine Below.setCell ?_ leR _) | (with_reducible refine Below.setCell ?_ leD _) | (with_reducible refine Below.drew ?_) | (with_reducible refine bdrewN ?_ _) | ((with_reducible refine Below.alloc ?_ ?_ _); rotate_left 1; focus (first | (simp; done) | (simp; omega) | omega)))
  rintro e w1 ⟨A1, k1, B1, j1, rfl, hp, hs, hb, h1, h2⟩
  unfold icv
  have HXC1 : Hid (w1.heap[w.heap.size]? = some (.cells _ _ (0, 0))) := box_keep (by repeat (first | ((with_reducible refine heap_new_at _ ?_); focus (first | (with_reducible rfl) | (simp; done))) | (with_reducible refine box_alloc ?_ _) | (with_reducible apply box_set) | ((with_reducible refine box_far ?_ ?_ _); rotate_left 1; focus (first | (simp; done) | (simp; omega) | omega)) | (with_reducible refine box_drew ?_) | (with_reducible refine box_drewN ?_ _))) hb
  try simp only [List.setIfInBounds_toArray, List.set_cons_zero, List.set_cons_succ] at HXC1
  have HXT1 : Hid (w1.heap[w.heap.size + 1]? = some (.cells _ _ (0, 0))) := box_keep (by repeat (first | ((with_reducible refine heap_new_at _ ?_); focus (first | (with_reducible rfl) | (simp; done))) | (with_reducible refine box_alloc ?_ _) | (with_reducible apply box_set) | ((with_reducible refine box_far ?_ ?_ _); rotate_left 1; focus (first | (simp; done) | (simp; omega) | omega)) | (with_reducible refine box_drew ?_) | (with_reducible refine box_drewN ?_ _))) hb
  try simp only [List.setIfInBounds_toArray, List.set_cons_zero, List.set_cons_succ] at HXT1
  have HXR1 : Hid (w1.heap[w.heap.size + 2]? = some (.cells _ _ (0, 0))) := box_keep (by repeat (first | ((with_reducible refine heap_new_at _ ?_); focus (first | (with_reducible rfl) | (simp; done))) | (with_reducible refine box_alloc ?_ _) | (with_reducible apply box_set) | ((with_reducible refine box_far ?_ ?_ _); rotate_left 1; focus (first | (simp; done) | (simp; omega) | omega)) | (with_reducible refine box_drew ?_) | (with_reducible refine box_drewN ?_ _))) hb
  try simp only [List.setIfInBounds_toArray, List.set_cons_zero, List.set_cons_succ] at HXR1
  have HXD1 : Hid (w1.heap[w.heap.size + 3]? = some (.cells _ _ (0, 0))) := box_keep (by repeat (first | ((with_reducible refine heap_new_at _ ?_); focus (first | (with_reducible rfl) | (simp; done))) | (with_reducible refine box_alloc ?_ _) | (with_reducible apply box_set) | ((with_reducible refine box_far ?_ ?_ _); rotate_left 1; focus (first | (simp; done) | (simp; omega) | omega)) | (with_reducible refine box_drew ?_) | (with_reducible refine box_drewN ?_ _))) hb
  try simp only [List.setIfInBounds_toArray, List.set_cons_zero, List.set_cons_succ] at HXD1
  obtain ⟨xC, yC⟩ := box_rules HXC1.out
  have lC1 := box_lt HXC1.out
  obtain ⟨xT, yT⟩ := box_rules HXT1.out
  have lT1 := box_lt HXT1.out
  obtain ⟨xR, yR⟩ := box_rules HXR1.out
  have lR1 := box_lt HXR1.out
  obtain ⟨xD, yD⟩ := box_rules HXD1.out
  have lD1 := box_lt HXD1.out
  have HB1 : Hid (Below w.heap.size w w1) := Below.trans (by repeat (first | (with_reducible exact Below.refl _ _) | (with_reducible refine Below.setCell ?_ leC _) | (with_reducible refine Below.setCell ?_ leT _) | (with_reducible refine Below.setCell ?_ leR _) | (with_reducible refine Below.setCell ?_ leD _) | (with_reducible refine Below.drew ?_) | (with_reducible refine bdrewN ?_ _) | ((with_reducible refine Below.alloc ?_ ?_ _); rotate_left 1; focus (first | (simp; done) | (simp; omega) | omega)))) (hb.mono (by first | (simp; done) | (simp; omega) | omega | (simp [World.setCell]; omega)))
  have s1 : w.heap.size ≤ w1.heap.size := HB1.out.size
  have RP : Hid (Rd w1 A1 (X.prio.map (.int .i64))) := hp
  have NP : Hid (∀ a, A1 = some a → w.heap.size ≤ a.block) := fun a ha => by have := h1 a ha; (try simp at this); omega
  have QPC : Hid (∀ a, A1 = some a → a.block ≠ w.heap.size) := fun a ha e => by have := h1 a ha; (try simp at this); omega
  have QPT : Hid (∀ a, A1 = some a → a.block ≠ w.heap.size + 1) := fun a ha e => by have := h1 a ha; (try simp at this); omega
  have QPR : Hid (∀ a, A1 = some a → a.block ≠ w.heap.size + 2) := fun a ha e => by have := h1 a ha; (try simp at this); omega
  have QPD : Hid (∀ a, A1 = some a → a.block ≠ w.heap.size + 3) := fun a ha e => by have := h1 a ha; (try simp at this); omega
  have RS : Hid (Rd w1 B1 (X.stack.map (.int .i64))) := hs
  have NS : Hid (∀ a, B1 = some a → w.heap.size ≤ a.block) := fun a ha => by have := h2 a ha; (try simp at this); omega
  have QSC : Hid (∀ a, B1 = some a → a.block ≠ w.heap.size) := fun a ha e => by have := h2 a ha; (try simp at this); omega
  have QST : Hid (∀ a, B1 = some a → a.block ≠ w.heap.size + 1) := fun a ha e => by have := h2 a ha; (try simp at this); omega
  have QSR : Hid (∀ a, B1 = some a → a.block ≠ w.heap.size + 2) := fun a ha e => by have := h2 a ha; (try simp at this); omega
  have QSD : Hid (∀ a, B1 = some a → a.block ≠ w.heap.size + 3) := fun a ha e => by have := h2 a ha; (try simp at this); omega
  clear hp hs hb h1 h2
  by_cases hz : z = 0
  · subst hz
    go_wp2_with fail
    refine bodyPost_ret (v := icv X A1 k1 B1 j1) (by simp [results, icv, Tryd.f22, go_sem, xR]) rfl ?_
    refine ⟨X, A1, k1, B1, j1, rfl, HK.out, ?_, ?_, ?_, fun a ha => .inl (NP.out a ha), fun a ha => .inl (NS.out a ha)⟩
    · repeat (with_reducible first | exact RP.out | refine Rd.set ?_ QPC.out _ | refine Rd.set ?_ QPT.out _ | refine Rd.set ?_ QPR.out _ | refine Rd.set ?_ QPD.out _ | refine Rd.drew ?_ | refine Rd.drewN ?_ _ | refine Rd.alloc ?_ _)
    · repeat (with_reducible first | exact RS.out | refine Rd.set ?_ QSC.out _ | refine Rd.set ?_ QST.out _ | refine Rd.set ?_ QSR.out _ | refine Rd.set ?_ QSD.out _ | refine Rd.drew ?_ | refine Rd.drewN ?_ _ | refine Rd.alloc ?_ _)
    · repeat (first | (with_reducible exact HB1.out) | (with_reducible refine Below.setCell ?_ leC _) | (with_reducible refine Below.setCell ?_ leT _) | (with_reducible refine Below.setCell ?_ leR _) | (with_reducible refine Below.setCell ?_ leD _) | (with_reducible refine Below.drew ?_) | (with_reducible refine bdrewN ?_ _) | ((with_reducible refine Below.alloc ?_ ?_ _); rotate_left 1; focus (first | (simp; done) | (simp; omega) | omega)))
  · have e0 : (z != 0) = true := by simpa using hz
    clear hz
    go_wp2_with fail
    refine bodyPost_ret (v := icv d pA pc sA sc) (by simp [results, icv, Tryd.f22, go_sem, xR]) rfl ?_
    refine ⟨d, pA, pc, sA, sc, rfl, HK0.out, ?_, ?_, ?_, fun a ha => .inr ha, fun a ha => .inr ha⟩
    · exact Rd.below Hp.out (by repeat (first | (with_reducible exact HB1.out) | (with_reducible refine Below.setCell ?_ leC _) | (with_reducible refine Below.setCell ?_ leT _) | (with_reducible refine Below.setCell ?_ leR _) | (with_reducible refine Below.setCell ?_ leD _) | (with_reducible refine Below.drew ?_) | (with_reducible refine bdrewN ?_ _) | ((with_reducible refine Below.alloc ?_ ?_ _); rotate_left 1; focus (first | (simp; done) | (simp; omega) | omega))))
    · exact Rd.below Hs.out (by repeat (first | (with_reducible exact HB1.out) | (with_reducible refine Below.setCell ?_ leC _) | (with_reducible refine Below.setCell ?_ leT _) | (with_reducible refine Below.setCell ?_ leR _) | (with_reducible refine Below.setCell ?_ leD _) | (with_reducible refine Below.drew ?_) | (with_reducible refine bdrewN ?_ _) | ((with_reducible refine Below.alloc ?_ ?_ _); rotate_left 1; focus (first | (simp; done) | (simp; omega) | omega))))
    · repeat (first | (with_reducible exact HB1.out) | (with_reducible refine Below.setCell ?_ leC _) | (with_reducible refine Below.setCell ?_ leT _) | (with_reducible refine Below.setCell ?_ leR _) | (with_reducible refine Below.setCell ?_ leD _) | (with_reducible refine Below.drew ?_) | (with_reducible refine bdrewN ?_ _) | ((with_reducible refine Below.alloc ?_ ?_ _); rotate_left 1; focus (first | (simp; done) | (simp; omega) | omega)))
set_option maxHeartbeats 4000000 in
theorem does_5 : Calls Tryd.prog 22 #[icv d pA pc sA sc, .agg #[.int .i64 5, .int .i64 line]] w (DoesPost d pA sA w) := by
  obtain ⟨X, n, z, hX⟩ : ∃ X n z, d.three d.endF = (X, n, z) := ⟨_, _, _, rfl⟩
  have HK : Hid (d.Keeps X) := by have := end_keeps hk hf; rw [hX] at this; exact this
  have f1 : Hid (∀ w, Rd w pA (d.prio.map (.int .i64)) → Rd w sA (d.stack.map (.int .i64)) → Calls Tryd.prog 14 #[icv d pA pc sA sc] w (RetI2 X n z w)) := fun w hp hs => by have := end_any d hf pA pc sA sc w hp hs; rw [hX] at this; exact this
  clear hX
  have HK0 := Lib.hid (IC.Keeps.refl hk hf)
  have Hp := Lib.hid hp
  have Hs := Lib.hid hs
  clear hp hs hk
  unfold icv at *
  go_enter Tryd.func22, Tryd.ntmps22
  have leC : w.heap.size ≤ w.heap.size := by omega
  have leT : w.heap.size ≤ w.heap.size + 1 := by omega
  have leR : w.heap.size ≤ w.heap.size + 2 := by omega
  have leD : w.heap.size ≤ w.heap.size + 3 := by omega
  go_wp2_with fail
  refine (f1.out _ ?_ ?_).mono ?_
  · exact Rd.below Hp.out (by repeat (first | (with_reducible exact Below.refl _ _) | (with_reducible refine Below.setCell ?_ leC _) | (with_reducible refine Below.setCell ?_ leT _) | (with_reducible refine Below.setCell ?_ leR _) | (with_reducible refine Below.setCell ?_ leD _) | (with_reducible refine Below.drew ?_) | (with_reducible refine bdrewN ?_ _) | ((with_reducible refine Below.alloc ?_ ?_ _); rotate_left 1; focus (first | (simp; done) | (simp; omega) | omega))))
  · exact Rd.below Hs.out (by repeat (first | (with_reducible exact Below.refl _ _) | (with_reducible refine Below.setCell ?_ leC _) | (with_reducible refine Below.setCell ?_ leT _) | (with_reducible refine Below.setCell ?_ leR _) | (with_reducible refine Below.setCell ?_ leD _) | (with_reducible refine Below.drew ?_) | (with_reducible refine bdrewN ?_ _) | ((with_reducible refine Below.alloc ?_ ?_ _); rotate_left 1; focus (first | (simp; done) | (simp; omega) | omega))))
  rintro e w1 ⟨A1, k1, B1, j1, rfl, hp, hs, hb, h1, h2⟩
  unfold icv
  have HXC1 : Hid (w1.heap[w.heap.size]? = some (.cells _ _ (0, 0))) := box_keep (by repeat (first | ((with_reducible refine heap_new_at _ ?_); focus (first | (with_reducible rfl) | (simp; done))) | (with_reducible refine box_alloc ?_ _) | (with_reducible apply box_set) | ((with_reducible refine box_far ?_ ?_ _); rotate_left 1; focus (first | (simp; done) | (simp; omega) | omega)) | (with_reducible refine box_drew ?_) | (with_reducible refine box_drewN ?_ _))) hb
  try simp only [List.setIfInBounds_toArray, List.set_cons_zero, List.set_cons_succ] at HXC1
  have HXT1 : Hid (w1.heap[w.heap.size + 1]? = some (.cells _ _ (0, 0))) := box_keep (by repeat (first | ((with_reducible refine heap_new_at _ ?_); focus (first | (with_reducible rfl) | (simp; done))) | (with_reducible refine box_alloc ?_ _) | (with_reducible apply box_set) | ((with_reducible refine box_far ?_ ?_ _); rotate_left 1; focus (first | (simp; done) | (simp; omega) | omega)) | (with_reducible refine box_drew ?_) | (with_reducible refine box_drewN ?_ _))) hb
  try simp only [List.setIfInBounds_toArray, List.set_cons_zero, List.set_cons_succ] at HXT1
  have HXR1 : Hid (w1.heap[w.heap.size + 2]? = some (.cells _ _ (0, 0))) := box_keep (by repeat (first | ((with_reducible refine heap_new_at _ ?_); focus (first | (with_reducible rfl) | (simp; done))) | (with_reducible refine box_alloc ?_ _) | (with_reducible apply box_set) | ((with_reducible refine box_far ?_ ?_ _); rotate_left 1; focus (first | (simp; done) | (simp; omega) | omega)) | (with_reducible refine box_drew ?_) | (with_reducible refine box_drewN ?_ _))) hb
  try simp only [List.setIfInBounds_toArray, List.set_cons_zero, List.set_cons_succ] at HXR1
  have HXD1 : Hid (w1.heap[w.heap.size + 3]? = some (.cells _ _ (0, 0))) := box_keep (by repeat (first | ((with_reducible refine heap_new_at _ ?_); focus (first | (with_reducible rfl) | (simp; done))) | (with_reducible refine box_alloc ?_ _) | (with_reducible apply box_set) | ((with_reducible refine box_far ?_ ?_ _); rotate_left 1; focus (first | (simp; done) | (simp; omega) | omega)) | (with_reducible refine box_drew ?_) | (with_reducible refine box_drewN ?_ _))) hb
  try simp only [List.setIfInBounds_toArray, List.set_cons_zero, List.set_cons_succ] at HXD1
  obtain ⟨xC, yC⟩ := box_rules HXC1.out
  have lC1 := box_lt HXC1.out
  obtain ⟨xT, yT⟩ := box_rules HXT1.out
  have lT1 := box_lt HXT1.out
  obtain ⟨xR, yR⟩ := box_rules HXR1.out
  have lR1 := box_lt HXR1.out
  obtain ⟨xD, yD⟩ := box_rules HXD1.out
  have lD1 := box_lt HXD1.out
  have HB1 : Hid (Below w.heap.size w w1) := Below.trans (by repeat (first | (with_reducible exact Below.refl _ _) | (with_reducible refine Below.setCell ?_ leC _) | (with_reducible refine Below.setCell ?_ leT _) | (with_reducible refine Below.setCell ?_ leR _) | (with_reducible refine Below.setCell ?_ leD _) | (with_reducible refine Below.drew ?_) | (with_reducible refine bdrewN ?_ _) | ((with_reducible refine Below.alloc ?_ ?_ _); rotate_left 1; focus (first | (simp; done) | (simp; omega) | omega)))) (hb.mono (by first | (simp; done) | (simp; omega) | omega | (simp [World.setCell]; omega)))
  have s1 : w.heap.size ≤ w1.heap.size := HB1.out.size
  have RP : Hid (Rd w1 A1 (X.prio.map (.int .i64))) := hp
  have NP : Hid (∀ a, A1 = some a → w.heap.size ≤ a.block) := fun a ha => by have := h1 a ha; (try simp at this); omega
  have QPC : Hid (∀ a, A1 = some a → a.block ≠ w.heap.size) := fun a ha e => by have := h1 a ha; (try simp at this); omega
  have QPT : Hid (∀ a, A1 = some a → a.block ≠ w.heap.size + 1) := fun a ha e => by have := h1 a ha; (try simp at this); omega
  have QPR : Hid (∀ a, A1 = some a → a.block ≠ w.heap.size + 2) := fun a ha e => by have := h1 a ha; (try simp at this); omega
  have QPD : Hid (∀ a, A1 = some a → a.block ≠ w.heap.size + 3) := fun a ha e => by have := h1 a ha; (try simp at this); omega
  have RS : Hid (Rd w1 B1 (X.stack.map (.int .i64))) := hs
  have NS : Hid (∀ a, B1 = some a → w.heap.size ≤ a.block) := fun a ha => by have := h2 a ha; (try simp at this); omega
  have QSC : Hid (∀ a, B1 = some a → a.block ≠ w.heap.size) := fun a ha e => by have := h2 a ha; (try simp at this); omega
  have QST : Hid (∀ a, B1 = some a → a.block ≠ w.heap.size + 1) := fun a ha e => by have := h2 a ha; (try simp at this); omega
  have QSR : Hid (∀ a, B1 = some a → a.block ≠ w.heap.size + 2) := fun a ha e => by have := h2 a ha; (try simp at this); omega
  have QSD : Hid (∀ a, B1 = some a → a.block ≠ w.heap.size + 3) := fun a ha e => by have := h2 a ha; (try simp at this); omega
  clear hp hs hb h1 h2
  by_cases hz : z = 0
  · subst hz
    go_wp2_with fail
    refine bodyPost_ret (v := icv X A1 k1 B1 j1) (by simp [results, icv, Tryd.f22, go_sem, xR]) rfl ?_
    refine ⟨X, A1, k1, B1, j1, rfl, HK.out, ?_, ?_, ?_, fun a ha => .inl (NP.out a ha), fun a ha => .inl (NS.out a ha)⟩
    · repeat (with_reducible first | exact RP.out | refine Rd.set ?_ QPC.out _ | refine Rd.set ?_ QPT.out _ | refine Rd.set ?_ QPR.out _ | refine Rd.set ?_ QPD.out _ | refine Rd.drew ?_ | refine Rd.drewN ?_ _ | refine Rd.alloc ?_ _)
    · repeat (with_reducible first | exact RS.out | refine Rd.set ?_ QSC.out _ | refine Rd.set ?_ QST.out _ | refine Rd.set ?_ QSR.out _ | refine Rd.set ?_ QSD.out _ | refine Rd.drew ?_ | refine Rd.drewN ?_ _ | refine Rd.alloc ?_ _)
    · repeat (first | (with_reducible exact HB1.out) | (with_reducible refine Below.setCell ?_ leC _) | (with_reducible refine Below.setCell ?_ leT _) | (with_reducible refine Below.setCell ?_ leR _) | (with_reducible refine Below.setCell ?_ leD _) | (with_reducible refine Below.drew ?_) | (with_reducible refine bdrewN ?_ _) | ((with_reducible refine Below.alloc ?_ ?_ _); rotate_left 1; focus (first | (simp; done) | (simp; omega) | omega)))
  · have e0 : (z != 0) = true := by simpa using hz
    clear hz
    go_wp2_with fail
    refine bodyPost_ret (v := icv d pA pc sA sc) (by simp [results, icv, Tryd.f22, go_sem, xR]) rfl ?_
    refine ⟨d, pA, pc, sA, sc, rfl, HK0.out, ?_, ?_, ?_, fun a ha => .inr ha, fun a ha => .inr ha⟩
    · exact Rd.below Hp.out (by repeat (first | (with_reducible exact HB1.out) | (with_reducible refine Below.setCell ?_ leC _) | (with_reducible refine Below.setCell ?_ leT _) | (with_reducible refine Below.setCell ?_ leR _) | (with_reducible refine Below.setCell ?_ leD _) | (with_reducible refine Below.drew ?_) | (with_reducible refine bdrewN ?_ _) | ((with_reducible refine Below.alloc ?_ ?_ _); rotate_left 1; focus (first | (simp; done) | (simp; omega) | omega))))
    · exact Rd.below Hs.out (by repeat (first | (with_reducible exact HB1.out) | (with_reducible refine Below.setCell ?_ leC _) | (with_reducible refine Below.setCell ?_ leT _) | (with_reducible refine Below.setCell ?_ leR _) | (with_reducible refine Below.setCell ?_ leD _) | (with_reducible refine Below.drew ?_) | (with_reducible refine bdrewN ?_ _) | ((with_reducible refine Below.alloc ?_ ?_ _); rotate_left 1; focus (first | (simp; done) | (simp; omega) | omega))))
    · repeat (first | (with_reducible exact HB1.out) | (with_reducible refine Below.setCell ?_ leC _) | (with_reducible refine Below.setCell ?_ leT _) | (with_reducible refine Below.setCell ?_ leR _) | (with_reducible refine Below.setCell ?_ leD _) | (with_reducible refine Below.drew ?_) | (with_reducible refine bdrewN ?_ _) | ((with_reducible refine Below.alloc ?_ ?_ _); rotate_left 1; focus (first | (simp; done) | (simp; omega) | omega)))
set_option maxHeartbeats 4000000 in
theorem does_6 (kind : Int) (h0 : kind ≠ 0) (h1 : kind ≠ 1) (h2 : kind ≠ 2) (h3 : kind ≠ 3) (h4 : kind ≠ 4) (h5 : kind ≠ 5) : Calls Tryd.prog 22 #[icv d pA pc sA sc, .agg #[.int .i64 kind, .int .i64 line]] w (DoesPost d pA sA w) := by
  have e0 : (kind == 0) = false := by simpa using h0
  have e1 : (kind == 1) = false := by simpa using h1
  have e2 : (kind == 2) = false := by simpa using h2
  have e3 : (kind == 3) = false := by simpa using h3
  have e4 : (kind == 4) = false := by simpa using h4
  have e5 : (kind == 5) = false := by simpa using h5
  have HK0 := Lib.hid (IC.Keeps.refl hk hf)
  have Hp := Lib.hid hp
  have Hs := Lib.hid hs
  clear hp hs hk
  clear h0 h1 h2 h3 h4 h5
  unfold icv at *
  go_enter Tryd.func22, Tryd.ntmps22
  have leC : w.heap.size ≤ w.heap.size := by omega
  have leT : w.heap.size ≤ w.heap.size + 1 := by omega
  have leR : w.heap.size ≤ w.heap.size + 2 := by omega
  have leD : w.heap.size ≤ w.heap.size + 3 := by omega
  go_wp2_with fail
  refine bodyPost_ret (v := icv d pA pc sA sc) (by simp [results, icv, Tryd.f22, go_sem]) rfl ?_
  refine ⟨d, pA, pc, sA, sc, rfl, HK0.out, ?_, ?_, ?_, fun a ha => .inr ha, fun a ha => .inr ha⟩
  · exact Rd.below Hp.out (by repeat (first | (with_reducible exact Below.refl _ _) | (with_reducible refine Below.setCell ?_ leC _) | (with_reducible refine Below.setCell ?_ leT _) | (with_reducible refine Below.setCell ?_ leR _) | (with_reducible refine Below.setCell ?_ leD _) | (with_reducible refine Below.drew ?_) | (with_reducible refine bdrewN ?_ _) | ((with_reducible refine Below.alloc ?_ ?_ _); rotate_left 1; focus (first | (simp; done) | (simp; omega) | omega))))
  · exact Rd.below Hs.out (by repeat (first | (with_reducible exact Below.refl _ _) | (with_reducible refine Below.setCell ?_ leC _) | (with_reducible refine Below.setCell ?_ leT _) | (with_reducible refine Below.setCell ?_ leR _) | (with_reducible refine Below.setCell ?_ leD _) | (with_reducible refine Below.drew ?_) | (with_reducible refine bdrewN ?_ _) | ((with_reducible refine Below.alloc ?_ ?_ _); rotate_left 1; focus (first | (simp; done) | (simp; omega) | omega))))
  · repeat (first | (with_reducible exact Below.refl _ _) | (with_reducible refine Below.setCell ?_ leC _) | (with_reducible refine Below.setCell ?_ leT _) | (with_reducible refine Below.setCell ?_ leR _) | (with_reducible refine Below.setCell ?_ leD _) | (with_reducible refine Below.drew ?_) | (with_reducible refine bdrewN ?_ _) | ((with_reducible refine Below.alloc ?_ ?_ _); rotate_left 1; focus (first | (simp; done) | (simp; omega) | omega)))
theorem does_any (hT : Tab w) (kind : Int) : Calls Tryd.prog 22 #[icv d pA pc sA sc, .agg #[.int .i64 kind, .int .i64 line]] w (DoesPost d pA sA w) := by
  by_cases h0 : kind = 0
  · subst h0; exact does_0 d hf hk pA pc sA sc w hp hs line
  by_cases h1 : kind = 1
  · subst h1; exact does_1 d hf hk pA pc sA sc w hp hs line
  by_cases h2 : kind = 2
  · subst h2; exact does_2 d hf hk pA pc sA sc w hp hs line
  by_cases h3 : kind = 3
  · subst h3; exact does_3 d hf hk pA pc sA sc w hp hs line
  by_cases h4 : kind = 4
  · subst h4; exact does_4 d hf hk pA pc sA sc w hp hs line hT
  by_cases h5 : kind = 5
  · subst h5; exact does_5 d hf hk pA pc sA sc w hp hs line
  exact does_6 d hf hk pA pc sA sc w hp hs line kind h0 h1 h2 h3 h4 h5
end
end Go.Proofs.YtbhjkfeonhddlaaDoor

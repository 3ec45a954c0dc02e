/- vergelaw06: the walk of lives. Conditions: the de Bruijn table as its initialiser lays it. -/
import Derived.Test.YtbhjkfeonhddlaaDoorLawA
namespace Go.Proofs.YtbhjkfeonhddlaaDoor
open Go.RowKit Go.Shelf

def RetI1 (d : IC) (z : Int) (w : World) (e : Ending) (w' : World) : Prop :=
  ∃ pA pc sA sc, e = .returned (.tuple #[icv d pA pc sA sc, .int .i64 z]) ∧ Rd w' pA (d.prio.map (.int .i64)) ∧ Rd w' sA (d.stack.map (.int .i64)) ∧ Below w.heap.size w w' ∧ (∀ a, pA = some a → w.heap.size ≤ a.block) ∧ (∀ a, sA = some a → w.heap.size ≤ a.block)
def RetI2 (d : IC) (n z : Int) (w : World) (e : Ending) (w' : World) : Prop :=
  ∃ pA pc sA sc, e = .returned (.tuple #[icv d pA pc sA sc, .int .i64 n, .int .i64 z]) ∧ Rd w' pA (d.prio.map (.int .i64)) ∧ Rd w' sA (d.stack.map (.int .i64)) ∧ Below w.heap.size w w' ∧ (∀ a, pA = some a → w.heap.size ≤ a.block) ∧ (∀ a, sA = some a → w.heap.size ≤ a.block)
theorem Rd.fresh (w : World) (vs : List Value) (t : TypeId) : Rd (w.alloc (.cells vs.toArray t)) (some ⟨w.heap.size, 0, none⟩) vs := fun i u hu => by
  refine ⟨_, rfl, ?_⟩
  rw [add_zero_lit, cell_of_row _ _ _ _ _ _ (heap_alloc_new w _)]
  simpa using hu

theorem Rd.fresh' {w : World} {n : Nat} (h : w.heap.size = n) (vs : List Value) (t : TypeId) : Rd (w.alloc (.cells vs.toArray t)) (some ⟨n, 0, none⟩) vs := by subst h; exact Rd.fresh w vs t
theorem box_drewN {w : World} {b : Nat} {o : Obj} (h : w.heap[b]? = some o) (n : Nat) : (w.drewN n).heap[b]? = some o := h
section
variable (pA : Option Addr) (pc : Nat) (sA : Option Addr) (sc : Nat) (w : World)
theorem g_m (hp : Rd w pA ([3, 5, 5].map (.int .i64))) : Calls Tryd.prog 21 #[.int .u64 1, .slice pA 3 pc] w (RetI1 L0 0 w) := by
  have h := make_any 1 (by decide) [3, 5, 5] (by decide) pA pc w hp
  rw [L_make] at h; exact h
theorem g_r1 (hp : Rd w pA (L0.prio.map (.int .i64))) (hs : Rd w sA (L0.stack.map (.int .i64))) : Calls Tryd.prog 18 #[icv L0 pA pc sA sc, .int .i64 0] w (RetI1 L1 0 w) := by
  have h := raise_any L0 L0_fits pA pc sA sc 0 w hp hs
  rw [L_r1] at h; exact h
theorem g_r2 (hp : Rd w pA (L1.prio.map (.int .i64))) (hs : Rd w sA (L1.stack.map (.int .i64))) : Calls Tryd.prog 18 #[icv L1 pA pc sA sc, .int .i64 0] w (RetI1 L1 4 w) := by
  have h := raise_any L1 L1_fits pA pc sA sc 0 w hp hs
  rw [L_r2] at h; exact h
theorem g_r3 (hp : Rd w pA (L2.prio.map (.int .i64))) (hs : Rd w sA (L2.stack.map (.int .i64))) : Calls Tryd.prog 18 #[icv L2 pA pc sA sc, .int .i64 2] w (RetI1 L3 0 w) := by
  have h := raise_any L2 L2_fits pA pc sA sc 2 w hp hs
  rw [L_r3] at h; exact h
theorem g_r4 (hp : Rd w pA (L3.prio.map (.int .i64))) (hs : Rd w sA (L3.stack.map (.int .i64))) : Calls Tryd.prog 18 #[icv L3 pA pc sA sc, .int .i64 1] w (RetI1 L4 0 w) := by
  have h := raise_any L3 L3_fits pA pc sA sc 1 w hp hs
  rw [L_r4] at h; exact h
theorem g_a1 (hT : Tab w) (hp : Rd w pA (L1.prio.map (.int .i64))) (hs : Rd w sA (L1.stack.map (.int .i64))) : Calls Tryd.prog 12 #[icv L1 pA pc sA sc] w (RetI2 L2 0 0 w) := by
  have h := ack_any L1 L1_fits pA pc sA sc w hp hs hT
  rw [L_a1] at h; exact h
theorem g_a2 (hT : Tab w) (hp : Rd w pA (L4.prio.map (.int .i64))) (hs : Rd w sA (L4.stack.map (.int .i64))) : Calls Tryd.prog 12 #[icv L4 pA pc sA sc] w (RetI2 L5 1 0 w) := by
  have h := ack_any L4 L4_fits pA pc sA sc w hp hs hT
  rw [L_a2] at h; exact h
theorem g_a3 (hT : Tab w) (hp : Rd w pA (L5.prio.map (.int .i64))) (hs : Rd w sA (L5.stack.map (.int .i64))) : Calls Tryd.prog 12 #[icv L5 pA pc sA sc] w (RetI2 L5 64 0 w) := by
  have h := ack_any L5 L5_fits pA pc sA sc w hp hs hT
  rw [L_a3] at h; exact h
theorem g_e (hp : Rd w pA (L5.prio.map (.int .i64))) (hs : Rd w sA (L5.stack.map (.int .i64))) : Calls Tryd.prog 14 #[icv L5 pA pc sA sc] w (RetI2 L6 1 0 w) := by
  have h := end_any L5 L5_fits pA pc sA sc w hp hs
  rw [L_e] at h; exact h
theorem g_n (hT : Tab w) (hp : Rd w pA (L4.prio.map (.int .i64))) (hs : Rd w sA (L4.stack.map (.int .i64))) : Calls Tryd.prog 10 #[icv L4 pA pc sA sc] w fun e w' => e = .returned (.tuple #[.int .i64 1, .int .i64 0]) ∧ Below w.heap.size w w' := by
  have h := nextC_any L4 L4_fits pA pc sA sc w hp hs hT
  rw [L_n] at h; exact h
theorem g_l (hp : Rd w pA (L5.prio.map (.int .i64))) (hs : Rd w sA (L5.stack.map (.int .i64))) : Calls Tryd.prog 8 #[icv L5 pA pc sA sc] w fun e w' => e = .returned (.tuple #[.int .i64 5, .int .i64 0]) ∧ Below w.heap.size w w' := by
  have h := levelC_any L5 L5_fits pA pc sA sc w hp hs
  rw [L_l] at h; exact h
theorem g_c (hp : Rd w pA (L6.prio.map (.int .i64))) (hs : Rd w sA (L6.stack.map (.int .i64))) : Calls Tryd.prog 23 #[icv L6 pA pc sA sc] w fun e w' => e = .returned (.int .i64 0) ∧ Below w.heap.size w w' := by
  refine (check_any L6 L6_fits pA pc sA sc w hp hs).mono ?_
  rintro e w' ⟨⟨z, rfl, hz⟩, hb⟩
  rcases hz with ⟨_, rfl⟩ | ⟨h, _⟩
  · exact ⟨rfl, hb⟩
  · exact absurd L6_ok h
end

set_option maxRecDepth 100000 in
set_option maxHeartbeats 8000000 in
theorem lives_any (w : World) (hT : Tab w) : Calls Tryd.prog 16 #[] w fun e w' => e = .returned (.bool true) ∧ Below w.heap.size w w' := by
  have gm := Lib.hid g_m
  have gr1 := Lib.hid g_r1
  have gr2 := Lib.hid g_r2
  have gr3 := Lib.hid g_r3
  have gr4 := Lib.hid g_r4
  have ga1 := Lib.hid g_a1
  have ga2 := Lib.hid g_a2
  have ga3 := Lib.hid g_a3
  have ge := Lib.hid g_e
  have gn := Lib.hid g_n
  have gl := Lib.hid g_l
  have gc := Lib.hid g_c
  have fs := Lib.hid (fun A c B c' w h1 h2 => same_eq A c B c' L6.stack w L6_fits.stack h1 h2)
  have e6 : ((L6.p : Nat) : Int) = 6 := rfl
  have e6' : (((L6.p : Nat) : Int) == 6) = true := rfl
  have E6 := Lib.hid e6
  clear e6
  have HT := Lib.hid hT
  have lT := hT.lt
  clear hT
  unfold icv at *
  go_enter Tryd.func16, Tryd.ntmps16
  go_wp2_with fail
  refine (gm.out (some ⟨w.heap.size, 0, none⟩) 3 _ (Rd.fresh w ([3, 5, 5].map (.int .i64)) _)).mono ?_
  rintro e w1 ⟨A1, k1, A2, k2, rfl, hp, hs, hb, h1, h2⟩
  unfold icv
  have HB1 : Hid (Below w.heap.size w w1) := Below.trans (by repeat (first | (with_reducible exact Below.refl _ _) | (with_reducible refine Below.drew ?_) | (with_reducible refine bdrewN ?_ _) | ((with_reducible refine Below.alloc ?_ ?_ _); rotate_left 1; focus (first | (simp; done) | (simp; omega) | omega)))) (hb.mono (by first | (simp; done) | (simp; omega) | omega | (simp [World.setCell]; omega)))
  have s1 : w.heap.size ≤ w1.heap.size := HB1.out.size
  have RP : Hid (Rd w1 A1 (L0.prio.map (.int .i64))) := hp
  have NP : Hid (∀ a, A1 = some a → w.heap.size ≤ a.block) := fun a ha => by have := h1 a ha; (try simp at this); omega
  have RS : Hid (Rd w1 A2 (L0.stack.map (.int .i64))) := hs
  have NS : Hid (∀ a, A2 = some a → w.heap.size ≤ a.block) := fun a ha => by have := h2 a ha; (try simp at this); omega
  clear hp hs h1 h2 hb
  have leC : w.heap.size ≤ w1.heap.size := by omega
  go_wp2_with fail
  refine (gr1.out A1 k1 A2 k2 _ ?_ ?_).mono ?_
  · repeat (with_reducible first | exact RP.out | refine Rd.drew ?_ | refine Rd.drewN ?_ _ | refine Rd.alloc ?_ _)
  · repeat (with_reducible first | exact RS.out | refine Rd.drew ?_ | refine Rd.drewN ?_ _ | refine Rd.alloc ?_ _)
  rintro e w2 ⟨A1, k1, A2, k2, rfl, hp, hs, hb, h1, h2⟩
  unfold icv
  clear NP RP
  clear NS RS
  have HXC4 : Hid (w2.heap[w1.heap.size]? = some (.cells _ _ (0, 0))) := box_keep (by repeat (first | ((with_reducible refine heap_new_at _ ?_); focus (first | (with_reducible rfl) | (simp; done))) | (with_reducible refine box_alloc ?_ _) | (with_reducible apply box_set) | ((with_reducible refine box_far ?_ ?_ _); rotate_left 1; focus (first | (simp; done) | (simp; omega) | omega)) | (with_reducible refine box_drew ?_) | (with_reducible refine box_drewN ?_ _))) hb
  try simp only [List.setIfInBounds_toArray, List.set_cons_zero, List.set_cons_succ] at HXC4
  obtain ⟨xC, yC⟩ := box_rules HXC4.out
  have lC4 := box_lt HXC4.out
  have HB4 : Hid (Below w.heap.size w w2) := Below.trans (by repeat (first | (with_reducible exact HB1.out) | (with_reducible refine Below.setCell ?_ leC _) | (with_reducible refine Below.drew ?_) | (with_reducible refine bdrewN ?_ _) | ((with_reducible refine Below.alloc ?_ ?_ _); rotate_left 1; focus (first | (simp; done) | (simp; omega) | omega)))) (hb.mono (by first | (simp; done) | (simp; omega) | omega | (simp [World.setCell]; omega)))
  clear HB1
  have s4 : w.heap.size ≤ w2.heap.size := HB4.out.size
  have z4 : w1.heap.size ≤ w2.heap.size := by have := hb.size; (try simp at this); omega
  have RP : Hid (Rd w2 A1 (L1.prio.map (.int .i64))) := hp
  have NP : Hid (∀ a, A1 = some a → w.heap.size ≤ a.block) := fun a ha => by have := h1 a ha; (try simp at this); omega
  have QPC : Hid (∀ a, A1 = some a → a.block ≠ w1.heap.size) := fun a ha e => by have := h1 a ha; (try simp at this); omega
  have RS : Hid (Rd w2 A2 (L1.stack.map (.int .i64))) := hs
  have NS : Hid (∀ a, A2 = some a → w.heap.size ≤ a.block) := fun a ha => by have := h2 a ha; (try simp at this); omega
  have QSC : Hid (∀ a, A2 = some a → a.block ≠ w1.heap.size) := fun a ha e => by have := h2 a ha; (try simp at this); omega
  clear hp hs h1 h2 hb
  go_wp2_with fail
  refine (gr2.out A1 k1 A2 k2 _ ?_ ?_).mono ?_
  · repeat (with_reducible first | exact RP.out | refine Rd.set ?_ QPC.out _ | refine Rd.drew ?_ | refine Rd.drewN ?_ _ | refine Rd.alloc ?_ _)
  · repeat (with_reducible first | exact RS.out | refine Rd.set ?_ QSC.out _ | refine Rd.drew ?_ | refine Rd.drewN ?_ _ | refine Rd.alloc ?_ _)
  rintro e w3 ⟨B1, j1, B2, j2, rfl, hp, hs, hb, h1, h2⟩
  unfold icv
  have HXC7 : Hid (w3.heap[w1.heap.size]? = some (.cells _ _ (0, 0))) := box_keep (by repeat (first | (with_reducible exact HXC4.out) | ((with_reducible refine heap_new_at _ ?_); focus (first | (with_reducible rfl) | (simp; done))) | (with_reducible refine box_alloc ?_ _) | (with_reducible apply box_set) | ((with_reducible refine box_far ?_ ?_ _); rotate_left 1; focus (first | (simp; done) | (simp; omega) | omega)) | (with_reducible refine box_drew ?_) | (with_reducible refine box_drewN ?_ _))) hb
  try simp only [List.setIfInBounds_toArray, List.set_cons_zero, List.set_cons_succ] at HXC7
  clear xC yC
  obtain ⟨xC, yC⟩ := box_rules HXC7.out
  have lC7 := box_lt HXC7.out
  clear HXC4
  have RP7 : Hid (Rd w3 A1 (L1.prio.map (.int .i64))) := Rd.below (by repeat (with_reducible first | exact RP.out | refine Rd.set ?_ QPC.out _ | refine Rd.drew ?_ | refine Rd.drewN ?_ _ | refine Rd.alloc ?_ _)) hb
  clear RP
  have RS7 : Hid (Rd w3 A2 (L1.stack.map (.int .i64))) := Rd.below (by repeat (with_reducible first | exact RS.out | refine Rd.set ?_ QSC.out _ | refine Rd.drew ?_ | refine Rd.drewN ?_ _ | refine Rd.alloc ?_ _)) hb
  clear RS
  have HB7 : Hid (Below w.heap.size w w3) := Below.trans (by repeat (first | (with_reducible exact HB4.out) | (with_reducible refine Below.setCell ?_ leC _) | (with_reducible refine Below.drew ?_) | (with_reducible refine bdrewN ?_ _) | ((with_reducible refine Below.alloc ?_ ?_ _); rotate_left 1; focus (first | (simp; done) | (simp; omega) | omega)))) (hb.mono (by first | (simp; done) | (simp; omega) | omega | (simp [World.setCell]; omega)))
  clear HB4
  have s7 : w.heap.size ≤ w3.heap.size := HB7.out.size
  have z7 : w2.heap.size ≤ w3.heap.size := by have := hb.size; (try simp at this); omega
  clear hp hs h1 h2 hb
  go_wp2_with fail
  refine (ga1.out A1 k1 A2 k2 _ ?_ ?_ ?_).mono ?_
  · refine HT.out.below (B := w.heap.size) ?_ lT
    repeat (first | (with_reducible exact HB7.out) | (with_reducible refine Below.setCell ?_ leC _) | (with_reducible refine Below.drew ?_) | (with_reducible refine bdrewN ?_ _) | ((with_reducible refine Below.alloc ?_ ?_ _); rotate_left 1; focus (first | (simp; done) | (simp; omega) | omega)))
  · repeat (with_reducible first | exact RP7.out | refine Rd.set ?_ QPC.out _ | refine Rd.drew ?_ | refine Rd.drewN ?_ _ | refine Rd.alloc ?_ _)
  · repeat (with_reducible first | exact RS7.out | refine Rd.set ?_ QSC.out _ | refine Rd.drew ?_ | refine Rd.drewN ?_ _ | refine Rd.alloc ?_ _)
  rintro e w4 ⟨A1, k1, A2, k2, rfl, hp, hs, hb, h1, h2⟩
  unfold icv
  clear NP QPC RP7
  clear NS QSC RS7
  have HXC8 : Hid (w4.heap[w1.heap.size]? = some (.cells _ _ (0, 0))) := box_keep (by repeat (first | (with_reducible exact HXC7.out) | ((with_reducible refine heap_new_at _ ?_); focus (first | (with_reducible rfl) | (simp; done))) | (with_reducible refine box_alloc ?_ _) | (with_reducible apply box_set) | ((with_reducible refine box_far ?_ ?_ _); rotate_left 1; focus (first | (simp; done) | (simp; omega) | omega)) | (with_reducible refine box_drew ?_) | (with_reducible refine box_drewN ?_ _))) hb
  try simp only [List.setIfInBounds_toArray, List.set_cons_zero, List.set_cons_succ] at HXC8
  clear xC yC
  obtain ⟨xC, yC⟩ := box_rules HXC8.out
  have lC8 := box_lt HXC8.out
  clear HXC7
  have HB8 : Hid (Below w.heap.size w w4) := Below.trans (by repeat (first | (with_reducible exact HB7.out) | (with_reducible refine Below.setCell ?_ leC _) | (with_reducible refine Below.drew ?_) | (with_reducible refine bdrewN ?_ _) | ((with_reducible refine Below.alloc ?_ ?_ _); rotate_left 1; focus (first | (simp; done) | (simp; omega) | omega)))) (hb.mono (by first | (simp; done) | (simp; omega) | omega | (simp [World.setCell]; omega)))
  clear HB7
  have s8 : w.heap.size ≤ w4.heap.size := HB8.out.size
  have z8 : w3.heap.size ≤ w4.heap.size := by have := hb.size; (try simp at this); omega
  have RP : Hid (Rd w4 A1 (L2.prio.map (.int .i64))) := hp
  have NP : Hid (∀ a, A1 = some a → w.heap.size ≤ a.block) := fun a ha => by have := h1 a ha; (try simp at this); omega
  have QPC : Hid (∀ a, A1 = some a → a.block ≠ w1.heap.size) := fun a ha e => by have := h1 a ha; (try simp at this); omega
  have RS : Hid (Rd w4 A2 (L2.stack.map (.int .i64))) := hs
  have NS : Hid (∀ a, A2 = some a → w.heap.size ≤ a.block) := fun a ha => by have := h2 a ha; (try simp at this); omega
  have QSC : Hid (∀ a, A2 = some a → a.block ≠ w1.heap.size) := fun a ha e => by have := h2 a ha; (try simp at this); omega
  clear hp hs h1 h2 hb
  go_wp2_with fail
  refine (gr3.out A1 k1 A2 k2 _ ?_ ?_).mono ?_
  · repeat (with_reducible first | exact RP.out | refine Rd.set ?_ QPC.out _ | refine Rd.drew ?_ | refine Rd.drewN ?_ _ | refine Rd.alloc ?_ _)
  · repeat (with_reducible first | exact RS.out | refine Rd.set ?_ QSC.out _ | refine Rd.drew ?_ | refine Rd.drewN ?_ _ | refine Rd.alloc ?_ _)
  rintro e w5 ⟨A1, k1, A2, k2, rfl, hp, hs, hb, h1, h2⟩
  unfold icv
  clear NP QPC RP
  clear NS QSC RS
  have HXC11 : Hid (w5.heap[w1.heap.size]? = some (.cells _ _ (0, 0))) := box_keep (by repeat (first | (with_reducible exact HXC8.out) | ((with_reducible refine heap_new_at _ ?_); focus (first | (with_reducible rfl) | (simp; done))) | (with_reducible refine box_alloc ?_ _) | (with_reducible apply box_set) | ((with_reducible refine box_far ?_ ?_ _); rotate_left 1; focus (first | (simp; done) | (simp; omega) | omega)) | (with_reducible refine box_drew ?_) | (with_reducible refine box_drewN ?_ _))) hb
  try simp only [List.setIfInBounds_toArray, List.set_cons_zero, List.set_cons_succ] at HXC11
  clear xC yC
  obtain ⟨xC, yC⟩ := box_rules HXC11.out
  have lC11 := box_lt HXC11.out
  clear HXC8
  have HB11 : Hid (Below w.heap.size w w5) := Below.trans (by repeat (first | (with_reducible exact HB8.out) | (with_reducible refine Below.setCell ?_ leC _) | (with_reducible refine Below.drew ?_) | (with_reducible refine bdrewN ?_ _) | ((with_reducible refine Below.alloc ?_ ?_ _); rotate_left 1; focus (first | (simp; done) | (simp; omega) | omega)))) (hb.mono (by first | (simp; done) | (simp; omega) | omega | (simp [World.setCell]; omega)))
  clear HB8
  have s11 : w.heap.size ≤ w5.heap.size := HB11.out.size
  have z11 : w4.heap.size ≤ w5.heap.size := by have := hb.size; (try simp at this); omega
  have RP : Hid (Rd w5 A1 (L3.prio.map (.int .i64))) := hp
  have NP : Hid (∀ a, A1 = some a → w.heap.size ≤ a.block) := fun a ha => by have := h1 a ha; (try simp at this); omega
  have QPC : Hid (∀ a, A1 = some a → a.block ≠ w1.heap.size) := fun a ha e => by have := h1 a ha; (try simp at this); omega
  have RS : Hid (Rd w5 A2 (L3.stack.map (.int .i64))) := hs
  have NS : Hid (∀ a, A2 = some a → w.heap.size ≤ a.block) := fun a ha => by have := h2 a ha; (try simp at this); omega
  have QSC : Hid (∀ a, A2 = some a → a.block ≠ w1.heap.size) := fun a ha e => by have := h2 a ha; (try simp at this); omega
  clear hp hs h1 h2 hb
  go_wp2_with fail
  refine (gr4.out A1 k1 A2 k2 _ ?_ ?_).mono ?_
  · repeat (with_reducible first | exact RP.out | refine Rd.set ?_ QPC.out _ | refine Rd.drew ?_ | refine Rd.drewN ?_ _ | refine Rd.alloc ?_ _)
  · repeat (with_reducible first | exact RS.out | refine Rd.set ?_ QSC.out _ | refine Rd.drew ?_ | refine Rd.drewN ?_ _ | refine Rd.alloc ?_ _)
  rintro e w6 ⟨A1, k1, A2, k2, rfl, hp, hs, hb, h1, h2⟩
  unfold icv
  clear NP QPC RP
  clear NS QSC RS
  have HXC14 : Hid (w6.heap[w1.heap.size]? = some (.cells _ _ (0, 0))) := box_keep (by repeat (first | (with_reducible exact HXC11.out) | ((with_reducible refine heap_new_at _ ?_); focus (first | (with_reducible rfl) | (simp; done))) | (with_reducible refine box_alloc ?_ _) | (with_reducible apply box_set) | ((with_reducible refine box_far ?_ ?_ _); rotate_left 1; focus (first | (simp; done) | (simp; omega) | omega)) | (with_reducible refine box_drew ?_) | (with_reducible refine box_drewN ?_ _))) hb
  try simp only [List.setIfInBounds_toArray, List.set_cons_zero, List.set_cons_succ] at HXC14
  clear xC yC
  obtain ⟨xC, yC⟩ := box_rules HXC14.out
  have lC14 := box_lt HXC14.out
  clear HXC11
  have HB14 : Hid (Below w.heap.size w w6) := Below.trans (by repeat (first | (with_reducible exact HB11.out) | (with_reducible refine Below.setCell ?_ leC _) | (with_reducible refine Below.drew ?_) | (with_reducible refine bdrewN ?_ _) | ((with_reducible refine Below.alloc ?_ ?_ _); rotate_left 1; focus (first | (simp; done) | (simp; omega) | omega)))) (hb.mono (by first | (simp; done) | (simp; omega) | omega | (simp [World.setCell]; omega)))
  clear HB11
  have s14 : w.heap.size ≤ w6.heap.size := HB14.out.size
  have z14 : w5.heap.size ≤ w6.heap.size := by have := hb.size; (try simp at this); omega
  have RP : Hid (Rd w6 A1 (L4.prio.map (.int .i64))) := hp
  have NP : Hid (∀ a, A1 = some a → w.heap.size ≤ a.block) := fun a ha => by have := h1 a ha; (try simp at this); omega
  have QPC : Hid (∀ a, A1 = some a → a.block ≠ w1.heap.size) := fun a ha e => by have := h1 a ha; (try simp at this); omega
  have RS : Hid (Rd w6 A2 (L4.stack.map (.int .i64))) := hs
  have NS : Hid (∀ a, A2 = some a → w.heap.size ≤ a.block) := fun a ha => by have := h2 a ha; (try simp at this); omega
  have QSC : Hid (∀ a, A2 = some a → a.block ≠ w1.heap.size) := fun a ha e => by have := h2 a ha; (try simp at this); omega
  clear hp hs h1 h2 hb
  go_wp2_with fail
  refine (gn.out A1 k1 A2 k2 _ ?_ ?_ ?_).mono ?_
  · refine HT.out.below (B := w.heap.size) ?_ lT
    repeat (first | (with_reducible exact HB14.out) | (with_reducible refine Below.setCell ?_ leC _) | (with_reducible refine Below.drew ?_) | (with_reducible refine bdrewN ?_ _) | ((with_reducible refine Below.alloc ?_ ?_ _); rotate_left 1; focus (first | (simp; done) | (simp; omega) | omega)))
  · repeat (with_reducible first | exact RP.out | refine Rd.set ?_ QPC.out _ | refine Rd.drew ?_ | refine Rd.drewN ?_ _ | refine Rd.alloc ?_ _)
  · repeat (with_reducible first | exact RS.out | refine Rd.set ?_ QSC.out _ | refine Rd.drew ?_ | refine Rd.drewN ?_ _ | refine Rd.alloc ?_ _)
  rintro e w7 ⟨rfl, hb⟩
  have HXC17 : Hid (w7.heap[w1.heap.size]? = some (.cells _ _ (0, 0))) := box_keep (by repeat (first | (with_reducible exact HXC14.out) | ((with_reducible refine heap_new_at _ ?_); focus (first | (with_reducible rfl) | (simp; done))) | (with_reducible refine box_alloc ?_ _) | (with_reducible apply box_set) | ((with_reducible refine box_far ?_ ?_ _); rotate_left 1; focus (first | (simp; done) | (simp; omega) | omega)) | (with_reducible refine box_drew ?_) | (with_reducible refine box_drewN ?_ _))) hb
  try simp only [List.setIfInBounds_toArray, List.set_cons_zero, List.set_cons_succ] at HXC17
  clear xC yC
  obtain ⟨xC, yC⟩ := box_rules HXC17.out
  have lC17 := box_lt HXC17.out
  clear HXC14
  have RP17 : Hid (Rd w7 A1 (L4.prio.map (.int .i64))) := Rd.below (by repeat (with_reducible first | exact RP.out | refine Rd.set ?_ QPC.out _ | refine Rd.drew ?_ | refine Rd.drewN ?_ _ | refine Rd.alloc ?_ _)) hb
  clear RP
  have RS17 : Hid (Rd w7 A2 (L4.stack.map (.int .i64))) := Rd.below (by repeat (with_reducible first | exact RS.out | refine Rd.set ?_ QSC.out _ | refine Rd.drew ?_ | refine Rd.drewN ?_ _ | refine Rd.alloc ?_ _)) hb
  clear RS
  have HB17 : Hid (Below w.heap.size w w7) := Below.trans (by repeat (first | (with_reducible exact HB14.out) | (with_reducible refine Below.setCell ?_ leC _) | (with_reducible refine Below.drew ?_) | (with_reducible refine bdrewN ?_ _) | ((with_reducible refine Below.alloc ?_ ?_ _); rotate_left 1; focus (first | (simp; done) | (simp; omega) | omega)))) (hb.mono (by first | (simp; done) | (simp; omega) | omega | (simp [World.setCell]; omega)))
  clear HB14
  have s17 : w.heap.size ≤ w7.heap.size := HB17.out.size
  have z17 : w6.heap.size ≤ w7.heap.size := by have := hb.size; (try simp at this); omega
  clear hb
  go_wp2_with fail
  refine (ga2.out A1 k1 A2 k2 _ ?_ ?_ ?_).mono ?_
  · refine HT.out.below (B := w.heap.size) ?_ lT
    repeat (first | (with_reducible exact HB17.out) | (with_reducible refine Below.setCell ?_ leC _) | (with_reducible refine Below.drew ?_) | (with_reducible refine bdrewN ?_ _) | ((with_reducible refine Below.alloc ?_ ?_ _); rotate_left 1; focus (first | (simp; done) | (simp; omega) | omega)))
  · repeat (with_reducible first | exact RP17.out | refine Rd.set ?_ QPC.out _ | refine Rd.drew ?_ | refine Rd.drewN ?_ _ | refine Rd.alloc ?_ _)
  · repeat (with_reducible first | exact RS17.out | refine Rd.set ?_ QSC.out _ | refine Rd.drew ?_ | refine Rd.drewN ?_ _ | refine Rd.alloc ?_ _)
  rintro e w8 ⟨A1, k1, A2, k2, rfl, hp, hs, hb, h1, h2⟩
  unfold icv
  clear NP QPC RP17
  clear NS QSC RS17
  have HXC18 : Hid (w8.heap[w1.heap.size]? = some (.cells _ _ (0, 0))) := box_keep (by repeat (first | (with_reducible exact HXC17.out) | ((with_reducible refine heap_new_at _ ?_); focus (first | (with_reducible rfl) | (simp; done))) | (with_reducible refine box_alloc ?_ _) | (with_reducible apply box_set) | ((with_reducible refine box_far ?_ ?_ _); rotate_left 1; focus (first | (simp; done) | (simp; omega) | omega)) | (with_reducible refine box_drew ?_) | (with_reducible refine box_drewN ?_ _))) hb
  try simp only [List.setIfInBounds_toArray, List.set_cons_zero, List.set_cons_succ] at HXC18
  clear xC yC
  obtain ⟨xC, yC⟩ := box_rules HXC18.out
  have lC18 := box_lt HXC18.out
  clear HXC17
  have HB18 : Hid (Below w.heap.size w w8) := Below.trans (by repeat (first | (with_reducible exact HB17.out) | (with_reducible refine Below.setCell ?_ leC _) | (with_reducible refine Below.drew ?_) | (with_reducible refine bdrewN ?_ _) | ((with_reducible refine Below.alloc ?_ ?_ _); rotate_left 1; focus (first | (simp; done) | (simp; omega) | omega)))) (hb.mono (by first | (simp; done) | (simp; omega) | omega | (simp [World.setCell]; omega)))
  clear HB17
  have s18 : w.heap.size ≤ w8.heap.size := HB18.out.size
  have z18 : w7.heap.size ≤ w8.heap.size := by have := hb.size; (try simp at this); omega
  have RP : Hid (Rd w8 A1 (L5.prio.map (.int .i64))) := hp
  have NP : Hid (∀ a, A1 = some a → w.heap.size ≤ a.block) := fun a ha => by have := h1 a ha; (try simp at this); omega
  have QPC : Hid (∀ a, A1 = some a → a.block ≠ w1.heap.size) := fun a ha e => by have := h1 a ha; (try simp at this); omega
  have RS : Hid (Rd w8 A2 (L5.stack.map (.int .i64))) := hs
  have NS : Hid (∀ a, A2 = some a → w.heap.size ≤ a.block) := fun a ha => by have := h2 a ha; (try simp at this); omega
  have QSC : Hid (∀ a, A2 = some a → a.block ≠ w1.heap.size) := fun a ha e => by have := h2 a ha; (try simp at this); omega
  clear hp hs h1 h2 hb
  go_wp2_with fail
  refine (ga3.out A1 k1 A2 k2 _ ?_ ?_ ?_).mono ?_
  · refine HT.out.below (B := w.heap.size) ?_ lT
    repeat (first | (with_reducible exact HB18.out) | (with_reducible refine Below.setCell ?_ leC _) | (with_reducible refine Below.drew ?_) | (with_reducible refine bdrewN ?_ _) | ((with_reducible refine Below.alloc ?_ ?_ _); rotate_left 1; focus (first | (simp; done) | (simp; omega) | omega)))
  · repeat (with_reducible first | exact RP.out | refine Rd.set ?_ QPC.out _ | refine Rd.drew ?_ | refine Rd.drewN ?_ _ | refine Rd.alloc ?_ _)
  · repeat (with_reducible first | exact RS.out | refine Rd.set ?_ QSC.out _ | refine Rd.drew ?_ | refine Rd.drewN ?_ _ | refine Rd.alloc ?_ _)
  rintro e w9 ⟨B1, j1, B2, j2, rfl, hp, hs, hb, h1, h2⟩
  unfold icv
  have HXC21 : Hid (w9.heap[w1.heap.size]? = some (.cells _ _ (0, 0))) := box_keep (by repeat (first | (with_reducible exact HXC18.out) | ((with_reducible refine heap_new_at _ ?_); focus (first | (with_reducible rfl) | (simp; done))) | (with_reducible refine box_alloc ?_ _) | (with_reducible apply box_set) | ((with_reducible refine box_far ?_ ?_ _); rotate_left 1; focus (first | (simp; done) | (simp; omega) | omega)) | (with_reducible refine box_drew ?_) | (with_reducible refine box_drewN ?_ _))) hb
  try simp only [List.setIfInBounds_toArray, List.set_cons_zero, List.set_cons_succ] at HXC21
  clear xC yC
  obtain ⟨xC, yC⟩ := box_rules HXC21.out
  have lC21 := box_lt HXC21.out
  clear HXC18
  have RP21 : Hid (Rd w9 A1 (L5.prio.map (.int .i64))) := Rd.below (by repeat (with_reducible first | exact RP.out | refine Rd.set ?_ QPC.out _ | refine Rd.drew ?_ | refine Rd.drewN ?_ _ | refine Rd.alloc ?_ _)) hb
  clear RP
  have RS21 : Hid (Rd w9 A2 (L5.stack.map (.int .i64))) := Rd.below (by repeat (with_reducible first | exact RS.out | refine Rd.set ?_ QSC.out _ | refine Rd.drew ?_ | refine Rd.drewN ?_ _ | refine Rd.alloc ?_ _)) hb
  clear RS
  have HB21 : Hid (Below w.heap.size w w9) := Below.trans (by repeat (first | (with_reducible exact HB18.out) | (with_reducible refine Below.setCell ?_ leC _) | (with_reducible refine Below.drew ?_) | (with_reducible refine bdrewN ?_ _) | ((with_reducible refine Below.alloc ?_ ?_ _); rotate_left 1; focus (first | (simp; done) | (simp; omega) | omega)))) (hb.mono (by first | (simp; done) | (simp; omega) | omega | (simp [World.setCell]; omega)))
  clear HB18
  have s21 : w.heap.size ≤ w9.heap.size := HB21.out.size
  have z21 : w8.heap.size ≤ w9.heap.size := by have := hb.size; (try simp at this); omega
  clear hp hs h1 h2 hb
  go_wp2_with fail
  refine (gl.out A1 k1 A2 k2 _ ?_ ?_).mono ?_
  · repeat (with_reducible first | exact RP21.out | refine Rd.set ?_ QPC.out _ | refine Rd.drew ?_ | refine Rd.drewN ?_ _ | refine Rd.alloc ?_ _)
  · repeat (with_reducible first | exact RS21.out | refine Rd.set ?_ QSC.out _ | refine Rd.drew ?_ | refine Rd.drewN ?_ _ | refine Rd.alloc ?_ _)
  rintro e w10 ⟨rfl, hb⟩
  have HXC22 : Hid (w10.heap[w1.heap.size]? = some (.cells _ _ (0, 0))) := box_keep (by repeat (first | (with_reducible exact HXC21.out) | ((with_reducible refine heap_new_at _ ?_); focus (first | (with_reducible rfl) | (simp; done))) | (with_reducible refine box_alloc ?_ _) | (with_reducible apply box_set) | ((with_reducible refine box_far ?_ ?_ _); rotate_left 1; focus (first | (simp; done) | (simp; omega) | omega)) | (with_reducible refine box_drew ?_) | (with_reducible refine box_drewN ?_ _))) hb
  try simp only [List.setIfInBounds_toArray, List.set_cons_zero, List.set_cons_succ] at HXC22
  clear xC yC
  obtain ⟨xC, yC⟩ := box_rules HXC22.out
  have lC22 := box_lt HXC22.out
  clear HXC21
  have RP22 : Hid (Rd w10 A1 (L5.prio.map (.int .i64))) := Rd.below (by repeat (with_reducible first | exact RP21.out | refine Rd.set ?_ QPC.out _ | refine Rd.drew ?_ | refine Rd.drewN ?_ _ | refine Rd.alloc ?_ _)) hb
  clear RP21
  have RS22 : Hid (Rd w10 A2 (L5.stack.map (.int .i64))) := Rd.below (by repeat (with_reducible first | exact RS21.out | refine Rd.set ?_ QSC.out _ | refine Rd.drew ?_ | refine Rd.drewN ?_ _ | refine Rd.alloc ?_ _)) hb
  clear RS21
  have HB22 : Hid (Below w.heap.size w w10) := Below.trans (by repeat (first | (with_reducible exact HB21.out) | (with_reducible refine Below.setCell ?_ leC _) | (with_reducible refine Below.drew ?_) | (with_reducible refine bdrewN ?_ _) | ((with_reducible refine Below.alloc ?_ ?_ _); rotate_left 1; focus (first | (simp; done) | (simp; omega) | omega)))) (hb.mono (by first | (simp; done) | (simp; omega) | omega | (simp [World.setCell]; omega)))
  clear HB21
  have s22 : w.heap.size ≤ w10.heap.size := HB22.out.size
  have z22 : w9.heap.size ≤ w10.heap.size := by have := hb.size; (try simp at this); omega
  clear hb
  go_wp2_with fail
  refine (ge.out A1 k1 A2 k2 _ ?_ ?_).mono ?_
  · repeat (with_reducible first | exact RP22.out | refine Rd.set ?_ QPC.out _ | refine Rd.drew ?_ | refine Rd.drewN ?_ _ | refine Rd.alloc ?_ _)
  · repeat (with_reducible first | exact RS22.out | refine Rd.set ?_ QSC.out _ | refine Rd.drew ?_ | refine Rd.drewN ?_ _ | refine Rd.alloc ?_ _)
  rintro e w11 ⟨A1, k1, A2, k2, rfl, hp, hs, hb, h1, h2⟩
  unfold icv
  clear NP QPC RP22
  clear NS QSC RS22
  have HXC23 : Hid (w11.heap[w1.heap.size]? = some (.cells _ _ (0, 0))) := box_keep (by repeat (first | (with_reducible exact HXC22.out) | ((with_reducible refine heap_new_at _ ?_); focus (first | (with_reducible rfl) | (simp; done))) | (with_reducible refine box_alloc ?_ _) | (with_reducible apply box_set) | ((with_reducible refine box_far ?_ ?_ _); rotate_left 1; focus (first | (simp; done) | (simp; omega) | omega)) | (with_reducible refine box_drew ?_) | (with_reducible refine box_drewN ?_ _))) hb
  try simp only [List.setIfInBounds_toArray, List.set_cons_zero, List.set_cons_succ] at HXC23
  clear xC yC
  obtain ⟨xC, yC⟩ := box_rules HXC23.out
  have lC23 := box_lt HXC23.out
  clear HXC22
  have HB23 : Hid (Below w.heap.size w w11) := Below.trans (by repeat (first | (with_reducible exact HB22.out) | (with_reducible refine Below.setCell ?_ leC _) | (with_reducible refine Below.drew ?_) | (with_reducible refine bdrewN ?_ _) | ((with_reducible refine Below.alloc ?_ ?_ _); rotate_left 1; focus (first | (simp; done) | (simp; omega) | omega)))) (hb.mono (by first | (simp; done) | (simp; omega) | omega | (simp [World.setCell]; omega)))
  clear HB22
  have s23 : w.heap.size ≤ w11.heap.size := HB23.out.size
  have z23 : w10.heap.size ≤ w11.heap.size := by have := hb.size; (try simp at this); omega
  have RP : Hid (Rd w11 A1 (L6.prio.map (.int .i64))) := hp
  have NP : Hid (∀ a, A1 = some a → w.heap.size ≤ a.block) := fun a ha => by have := h1 a ha; (try simp at this); omega
  have QPC : Hid (∀ a, A1 = some a → a.block ≠ w1.heap.size) := fun a ha e => by have := h1 a ha; (try simp at this); omega
  have RS : Hid (Rd w11 A2 (L6.stack.map (.int .i64))) := hs
  have NS : Hid (∀ a, A2 = some a → w.heap.size ≤ a.block) := fun a ha => by have := h2 a ha; (try simp at this); omega
  have QSC : Hid (∀ a, A2 = some a → a.block ≠ w1.heap.size) := fun a ha e => by have := h2 a ha; (try simp at this); omega
  clear hp hs h1 h2 hb
  go_wp2_with fail
  refine (fs.out A2 k2 (some ⟨w11.heap.size, 0, none⟩) 1 _ ?_ ?_).mono ?_
  · repeat (with_reducible first | exact RS.out | refine Rd.set ?_ QSC.out _ | refine Rd.drew ?_ | refine Rd.drewN ?_ _ | refine Rd.alloc ?_ _)
  · exact Rd.fresh' (by simp) [.int .i64 0] _
  rintro e w' ⟨rfl, k, rfl⟩
  go_wp2_with fail
  refine (gc.out A1 k1 A2 k2 _ ?_ ?_).mono ?_
  · repeat (with_reducible first | exact RP.out | refine Rd.set ?_ QPC.out _ | refine Rd.drew ?_ | refine Rd.drewN ?_ _ | refine Rd.alloc ?_ _)
  · repeat (with_reducible first | exact RS.out | refine Rd.set ?_ QSC.out _ | refine Rd.drew ?_ | refine Rd.drewN ?_ _ | refine Rd.alloc ?_ _)
  rintro e w12 ⟨rfl, hb⟩
  have HXC26 : Hid (w12.heap[w1.heap.size]? = some (.cells _ _ (0, 0))) := box_keep (by repeat (first | (with_reducible exact HXC23.out) | ((with_reducible refine heap_new_at _ ?_); focus (first | (with_reducible rfl) | (simp; done))) | (with_reducible refine box_alloc ?_ _) | (with_reducible apply box_set) | ((with_reducible refine box_far ?_ ?_ _); rotate_left 1; focus (first | (simp; done) | (simp; omega) | omega)) | (with_reducible refine box_drew ?_) | (with_reducible refine box_drewN ?_ _))) hb
  try simp only [List.setIfInBounds_toArray, List.set_cons_zero, List.set_cons_succ] at HXC26
  clear xC yC
  obtain ⟨xC, yC⟩ := box_rules HXC26.out
  have lC26 := box_lt HXC26.out
  clear HXC23
  have RP26 : Hid (Rd w12 A1 (L6.prio.map (.int .i64))) := Rd.below (by repeat (with_reducible first | exact RP.out | refine Rd.set ?_ QPC.out _ | refine Rd.drew ?_ | refine Rd.drewN ?_ _ | refine Rd.alloc ?_ _)) hb
  clear RP
  have RS26 : Hid (Rd w12 A2 (L6.stack.map (.int .i64))) := Rd.below (by repeat (with_reducible first | exact RS.out | refine Rd.set ?_ QSC.out _ | refine Rd.drew ?_ | refine Rd.drewN ?_ _ | refine Rd.alloc ?_ _)) hb
  clear RS
  have HB26 : Hid (Below w.heap.size w w12) := Below.trans (by repeat (first | (with_reducible exact HB23.out) | (with_reducible refine Below.setCell ?_ leC _) | (with_reducible refine Below.drew ?_) | (with_reducible refine bdrewN ?_ _) | ((with_reducible refine Below.alloc ?_ ?_ _); rotate_left 1; focus (first | (simp; done) | (simp; omega) | omega)))) (hb.mono (by first | (simp; done) | (simp; omega) | omega | (simp [World.setCell]; omega)))
  clear HB23
  have s26 : w.heap.size ≤ w12.heap.size := HB26.out.size
  have z26 : w11.heap.size ≤ w12.heap.size := by have := hb.size; (try simp at this); omega
  clear hb
  go_wp2_with fail
  go_ret
  exact ⟨rfl, HB26.out⟩
end Go.Proofs.YtbhjkfeonhddlaaDoor

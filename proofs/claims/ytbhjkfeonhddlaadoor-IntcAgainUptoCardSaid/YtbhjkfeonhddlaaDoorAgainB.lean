/- vergelaw06: the walk of IntcAgain. Conditions: words below 2^64, lists that read, the de Bruijn table as its initialiser lays it. -/
import Derived.Test.YtbhjkfeonhddlaaDoorAgainA
namespace Go.Proofs.YtbhjkfeonhddlaaDoor
open Go.RowKit Go.Shelf

section
variable (d : IC) (hf : d.Fits) (pA : Option Addr) (pc : Nat) (sA : Option Addr) (sc : Nat) (w : World) (hp : Rd w pA (d.prio.map (.int .i64))) (hs : Rd w sA (d.stack.map (.int .i64))) (hT : Tab w)
include hf hp hs hT
set_option maxRecDepth 100000 in
set_option maxHeartbeats 8000000 in
theorem again_easy (n z : Int) (D : IC) (h : d.three d.ackF = (D, n, z)) (hz : z = 2 ∨ z = 0 ∧ n = 64) :
    Calls Tryd.prog 4 #[icv d pA pc sA sc] w fun e w' => e = .returned (.bool true) ∧ Below w.heap.size w w' := by
  have f0 := Lib.hid (fun w hT => lives_any w hT)
  have f1 : Hid (∀ pA pc sA sc w, Rd w pA (d.prio.map (.int .i64)) → Rd w sA (d.stack.map (.int .i64)) → Tab w → Calls Tryd.prog 12 #[icv d pA pc sA sc] w (RetI2 D n z w)) := fun pA pc sA sc w hp hs hT => by have := ack_any d hf pA pc sA sc w hp hs hT; rw [h] at this; exact this
  have HT := Lib.hid hT
  have lT := hT.lt
  have Hp := Lib.hid hp
  have Hs := Lib.hid hs
  clear hT hp hs h
  unfold icv at *
  go_enter Tryd.func4, Tryd.ntmps4
  have leV0 : w.heap.size ≤ w.heap.size := by omega
  go_wp2_with fail
  refine (f0.out _ ?_).mono ?_
  · refine HT.out.below (B := w.heap.size) ?_ lT
    repeat (first | (with_reducible exact Below.refl _ _) | (with_reducible refine Below.setCell ?_ leV0 _) | (with_reducible refine Below.drew ?_) | (with_reducible refine bdrewN ?_ _) | ((with_reducible refine Below.alloc ?_ ?_ _); rotate_left 1; focus (first | (simp; done) | (simp; omega) | omega)))
  rintro e w1 ⟨rfl, hb⟩
  have HXV01 : Hid (w1.heap[w.heap.size]? = some (.cells _ _ (0, 0))) := box_keep (by repeat (first | ((with_reducible refine heap_new_at _ ?_); focus (first | (with_reducible rfl) | (simp; done))) | (with_reducible refine box_alloc ?_ _) | (with_reducible apply box_set) | ((with_reducible refine box_far ?_ ?_ _); rotate_left 1; focus (first | (simp; done) | (simp; omega) | omega)) | (with_reducible refine box_drew ?_) | (with_reducible refine box_drewN ?_ _))) hb
  try simp only [List.setIfInBounds_toArray, List.set_cons_zero, List.set_cons_succ] at HXV01
  obtain ⟨xV0, yV0⟩ := box_rules HXV01.out
  have lV01 := box_lt HXV01.out
  have HB1 : Hid (Below w.heap.size w w1) := Below.trans (by repeat (first | (with_reducible exact Below.refl _ _) | (with_reducible refine Below.setCell ?_ leV0 _) | (with_reducible refine Below.drew ?_) | (with_reducible refine bdrewN ?_ _) | ((with_reducible refine Below.alloc ?_ ?_ _); rotate_left 1; focus (first | (simp; done) | (simp; omega) | omega)))) (hb.mono (by first | (simp; done) | (simp; omega) | omega | (simp [World.setCell]; omega)))
  have s1 : w.heap.size ≤ w1.heap.size := HB1.out.size
  clear hb
  go_wp2_with fail
  refine (f1.out pA pc sA sc _ ?_ ?_ ?_).mono ?_
  · exact Rd.below Hp.out (by repeat (first | (with_reducible exact HB1.out) | (with_reducible refine Below.setCell ?_ leV0 _) | (with_reducible refine Below.drew ?_) | (with_reducible refine bdrewN ?_ _) | ((with_reducible refine Below.alloc ?_ ?_ _); rotate_left 1; focus (first | (simp; done) | (simp; omega) | omega))))
  · exact Rd.below Hs.out (by repeat (first | (with_reducible exact HB1.out) | (with_reducible refine Below.setCell ?_ leV0 _) | (with_reducible refine Below.drew ?_) | (with_reducible refine bdrewN ?_ _) | ((with_reducible refine Below.alloc ?_ ?_ _); rotate_left 1; focus (first | (simp; done) | (simp; omega) | omega))))
  · refine HT.out.below (B := w.heap.size) ?_ lT
    repeat (first | (with_reducible exact HB1.out) | (with_reducible refine Below.setCell ?_ leV0 _) | (with_reducible refine Below.drew ?_) | (with_reducible refine bdrewN ?_ _) | ((with_reducible refine Below.alloc ?_ ?_ _); rotate_left 1; focus (first | (simp; done) | (simp; omega) | omega)))
  rintro e w2 ⟨A2, k2, B2, j2, rfl, hp, hs, hb, h1, h2⟩
  unfold icv
  have HXV02 : Hid (w2.heap[w.heap.size]? = some (.cells _ _ (0, 0))) := box_keep (by repeat (first | (with_reducible exact HXV01.out) | ((with_reducible refine heap_new_at _ ?_); focus (first | (with_reducible rfl) | (simp; done))) | (with_reducible refine box_alloc ?_ _) | (with_reducible apply box_set) | ((with_reducible refine box_far ?_ ?_ _); rotate_left 1; focus (first | (simp; done) | (simp; omega) | omega)) | (with_reducible refine box_drew ?_) | (with_reducible refine box_drewN ?_ _))) hb
  try simp only [List.setIfInBounds_toArray, List.set_cons_zero, List.set_cons_succ] at HXV02
  clear xV0 yV0
  obtain ⟨xV0, yV0⟩ := box_rules HXV02.out
  have lV02 := box_lt HXV02.out
  clear HXV01
  have HB2 : Hid (Below w.heap.size w w2) := Below.trans (by repeat (first | (with_reducible exact HB1.out) | (with_reducible refine Below.setCell ?_ leV0 _) | (with_reducible refine Below.drew ?_) | (with_reducible refine bdrewN ?_ _) | ((with_reducible refine Below.alloc ?_ ?_ _); rotate_left 1; focus (first | (simp; done) | (simp; omega) | omega)))) (hb.mono (by first | (simp; done) | (simp; omega) | omega | (simp [World.setCell]; omega)))
  clear HB1
  have s2 : w.heap.size ≤ w2.heap.size := HB2.out.size
  have z2 : w1.heap.size ≤ w2.heap.size := by have := hb.size; (try simp at this); omega
  have RP2 : Hid (Rd w2 A2 (D.prio.map (.int .i64))) := hp
  have NP2 : Hid (∀ a, A2 = some a → w.heap.size ≤ a.block) := fun a ha => by have := h1 a ha; (try simp at this); omega
  have QP2V0 : Hid (∀ a, A2 = some a → a.block ≠ w.heap.size) := fun a ha e => by have := h1 a ha; (try simp at this); omega
  have RS2 : Hid (Rd w2 B2 (D.stack.map (.int .i64))) := hs
  have NS2 : Hid (∀ a, B2 = some a → w.heap.size ≤ a.block) := fun a ha => by have := h2 a ha; (try simp at this); omega
  have QS2V0 : Hid (∀ a, B2 = some a → a.block ≠ w.heap.size) := fun a ha e => by have := h2 a ha; (try simp at this); omega
  have leV2 : w.heap.size ≤ w2.heap.size := by omega
  clear hp hs hb h1 h2
  rcases hz with rfl | ⟨rfl, rfl⟩
  · go_wp2_with fail
    go_ret
    exact ⟨rfl, HB2.out.alloc (by omega) _⟩
  · go_wp2_with fail
    go_ret
    exact ⟨rfl, HB2.out.alloc (by omega) _⟩

set_option maxRecDepth 100000 in
set_option maxHeartbeats 8000000 in
theorem again_served (n : Nat) (hn : n < d.prio.length) (h64 : d.prio.length ≤ 64) (D E F G : IC) (h : AgainIs d D E F G n) :
    Calls Tryd.prog 4 #[icv d pA pc sA sc] w fun e w' => e = .returned (.bool true) ∧ Below w.heap.size w w' := by
  have f0 := Lib.hid (fun w hT => lives_any w hT)
  have f1 : Hid (∀ pA pc sA sc w, Rd w pA (d.prio.map (.int .i64)) → Rd w sA (d.stack.map (.int .i64)) → Tab w → Calls Tryd.prog 12 #[icv d pA pc sA sc] w (RetI2 D n 0 w)) := fun pA pc sA sc w hp hs hT => by have := ack_any d hf pA pc sA sc w hp hs hT; rw [h.ack] at this; exact this
  have f2 : Hid (∀ pA pc sA sc w, Rd w pA (D.prio.map (.int .i64)) → Rd w sA (D.stack.map (.int .i64)) → Calls Tryd.prog 14 #[icv D pA pc sA sc] w (RetI2 E n 0 w)) := fun pA pc sA sc w hp hs => by have := end_any D h.fd pA pc sA sc w hp hs; rw [h.e] at this; exact this
  have f3 : Hid (∀ pA pc sA sc w, Rd w pA (D.prio.map (.int .i64)) → Rd w sA (D.stack.map (.int .i64)) → Calls Tryd.prog 18 #[icv D pA pc sA sc, .int .i64 n] w (RetI1 F 0 w)) := fun pA pc sA sc w hp hs => by have := raise_any D h.fd pA pc sA sc n w hp hs; rw [h.f] at this; exact this
  have f4 : Hid (∀ pA pc sA sc w, Rd w pA (F.prio.map (.int .i64)) → Rd w sA (F.stack.map (.int .i64)) → Calls Tryd.prog 14 #[icv F pA pc sA sc] w (RetI2 G n 0 w)) := fun pA pc sA sc w hp hs => by have := end_any F h.ff pA pc sA sc w hp hs; rw [h.g] at this; exact this
  have f5 := Lib.hid (fun w => has_any D.p n w h.fd.p)
  have f6 := Lib.hid (fun w => has_any G.p n w h.fg.p)
  have f7 := Lib.hid (fun w => has_any E.p n w h.fe.p)
  have f8 := Lib.hid (fun w => has_any d.r n w hf.r)
  rw [hasB_nat] at f5 f6 f7 f8
  rw [h.dp] at f5
  rw [h.gp] at f6
  rw [h.ep] at f7
  have f9 : Hid (∀ A c B c' w, Rd w A (E.stack.map (.int .i64)) → Rd w B (d.stack.map (.int .i64)) → Calls Tryd.prog 20 #[.slice A E.stack.length c, .slice B d.stack.length c'] w fun e w' => e = .returned (.bool true) ∧ ∃ k, w.drewN k = w') := by
    show ∀ _, _
    rw [h.es]
    exact fun A c B c' w h1 h2 => same_eq A c B c' d.stack w hf.stack h1 h2
  generalize d.r.testBit n = t at *
  have HT := Lib.hid hT
  have lT := hT.lt
  have Hp := Lib.hid hp
  have Hs := Lib.hid hs
  have ne : ((n : Int) == 64) = false := by simp; omega
  clear hT hp hs h
  unfold icv at *
  go_enter Tryd.func4, Tryd.ntmps4
  have leV0 : w.heap.size ≤ w.heap.size := by omega
  go_wp2_with fail
  refine (f0.out _ ?_).mono ?_
  · refine HT.out.below (B := w.heap.size) ?_ lT
    repeat (first | (with_reducible exact Below.refl _ _) | (with_reducible refine Below.setCell ?_ leV0 _) | (with_reducible refine Below.drew ?_) | (with_reducible refine bdrewN ?_ _) | ((with_reducible refine Below.alloc ?_ ?_ _); rotate_left 1; focus (first | (simp; done) | (simp; omega) | omega)))
  rintro e w1 ⟨rfl, hb⟩
  have HXV01 : Hid (w1.heap[w.heap.size]? = some (.cells _ _ (0, 0))) := box_keep (by repeat (first | ((with_reducible refine heap_new_at _ ?_); focus (first | (with_reducible rfl) | (simp; done))) | (with_reducible refine box_alloc ?_ _) | (with_reducible apply box_set) | ((with_reducible refine box_far ?_ ?_ _); rotate_left 1; focus (first | (simp; done) | (simp; omega) | omega)) | (with_reducible refine box_drew ?_) | (with_reducible refine box_drewN ?_ _))) hb
  try simp only [List.setIfInBounds_toArray, List.set_cons_zero, List.set_cons_succ] at HXV01
  obtain ⟨xV0, yV0⟩ := box_rules HXV01.out
  have lV01 := box_lt HXV01.out
  have HB1 : Hid (Below w.heap.size w w1) := Below.trans (by repeat (first | (with_reducible exact Below.refl _ _) | (with_reducible refine Below.setCell ?_ leV0 _) | (with_reducible refine Below.drew ?_) | (with_reducible refine bdrewN ?_ _) | ((with_reducible refine Below.alloc ?_ ?_ _); rotate_left 1; focus (first | (simp; done) | (simp; omega) | omega)))) (hb.mono (by first | (simp; done) | (simp; omega) | omega | (simp [World.setCell]; omega)))
  have s1 : w.heap.size ≤ w1.heap.size := HB1.out.size
  clear hb
  go_wp2_with fail
  refine (f1.out pA pc sA sc _ ?_ ?_ ?_).mono ?_
  · exact Rd.below Hp.out (by repeat (first | (with_reducible exact HB1.out) | (with_reducible refine Below.setCell ?_ leV0 _) | (with_reducible refine Below.drew ?_) | (with_reducible refine bdrewN ?_ _) | ((with_reducible refine Below.alloc ?_ ?_ _); rotate_left 1; focus (first | (simp; done) | (simp; omega) | omega))))
  · exact Rd.below Hs.out (by repeat (first | (with_reducible exact HB1.out) | (with_reducible refine Below.setCell ?_ leV0 _) | (with_reducible refine Below.drew ?_) | (with_reducible refine bdrewN ?_ _) | ((with_reducible refine Below.alloc ?_ ?_ _); rotate_left 1; focus (first | (simp; done) | (simp; omega) | omega))))
  · refine HT.out.below (B := w.heap.size) ?_ lT
    repeat (first | (with_reducible exact HB1.out) | (with_reducible refine Below.setCell ?_ leV0 _) | (with_reducible refine Below.drew ?_) | (with_reducible refine bdrewN ?_ _) | ((with_reducible refine Below.alloc ?_ ?_ _); rotate_left 1; focus (first | (simp; done) | (simp; omega) | omega)))
  rintro e w2 ⟨A2, k2, B2, j2, rfl, hp, hs, hb, h1, h2⟩
  unfold icv
  have HXV02 : Hid (w2.heap[w.heap.size]? = some (.cells _ _ (0, 0))) := box_keep (by repeat (first | (with_reducible exact HXV01.out) | ((with_reducible refine heap_new_at _ ?_); focus (first | (with_reducible rfl) | (simp; done))) | (with_reducible refine box_alloc ?_ _) | (with_reducible apply box_set) | ((with_reducible refine box_far ?_ ?_ _); rotate_left 1; focus (first | (simp; done) | (simp; omega) | omega)) | (with_reducible refine box_drew ?_) | (with_reducible refine box_drewN ?_ _))) hb
  try simp only [List.setIfInBounds_toArray, List.set_cons_zero, List.set_cons_succ] at HXV02
  clear xV0 yV0
  obtain ⟨xV0, yV0⟩ := box_rules HXV02.out
  have lV02 := box_lt HXV02.out
  clear HXV01
  have HB2 : Hid (Below w.heap.size w w2) := Below.trans (by repeat (first | (with_reducible exact HB1.out) | (with_reducible refine Below.setCell ?_ leV0 _) | (with_reducible refine Below.drew ?_) | (with_reducible refine bdrewN ?_ _) | ((with_reducible refine Below.alloc ?_ ?_ _); rotate_left 1; focus (first | (simp; done) | (simp; omega) | omega)))) (hb.mono (by first | (simp; done) | (simp; omega) | omega | (simp [World.setCell]; omega)))
  clear HB1
  have s2 : w.heap.size ≤ w2.heap.size := HB2.out.size
  have z2 : w1.heap.size ≤ w2.heap.size := by have := hb.size; (try simp at this); omega
  have RP2 : Hid (Rd w2 A2 (D.prio.map (.int .i64))) := hp
  have NP2 : Hid (∀ a, A2 = some a → w.heap.size ≤ a.block) := fun a ha => by have := h1 a ha; (try simp at this); omega
  have QP2V0 : Hid (∀ a, A2 = some a → a.block ≠ w.heap.size) := fun a ha e => by have := h1 a ha; (try simp at this); omega
  have RS2 : Hid (Rd w2 B2 (D.stack.map (.int .i64))) := hs
  have NS2 : Hid (∀ a, B2 = some a → w.heap.size ≤ a.block) := fun a ha => by have := h2 a ha; (try simp at this); omega
  have QS2V0 : Hid (∀ a, B2 = some a → a.block ≠ w.heap.size) := fun a ha e => by have := h2 a ha; (try simp at this); omega
  have leV2 : w.heap.size ≤ w2.heap.size := by omega
  clear hp hs hb h1 h2
  go_wp2_with fail
  refine (f2.out A2 k2 B2 j2 _ ?_ ?_).mono ?_
  · repeat (with_reducible first | exact RP2.out | refine Rd.set ?_ QP2V0.out _ | refine Rd.drew ?_ | refine Rd.drewN ?_ _ | refine Rd.alloc ?_ _)
  · repeat (with_reducible first | exact RS2.out | refine Rd.set ?_ QS2V0.out _ | refine Rd.drew ?_ | refine Rd.drewN ?_ _ | refine Rd.alloc ?_ _)
  rintro e w3 ⟨A3, k3, B3, j3, rfl, hp, hs, hb, h1, h2⟩
  unfold icv
  have HXV05 : Hid (w3.heap[w.heap.size]? = some (.cells _ _ (0, 0))) := box_keep (by repeat (first | (with_reducible exact HXV02.out) | ((with_reducible refine heap_new_at _ ?_); focus (first | (with_reducible rfl) | (simp; done))) | (with_reducible refine box_alloc ?_ _) | (with_reducible apply box_set) | ((with_reducible refine box_far ?_ ?_ _); rotate_left 1; focus (first | (simp; done) | (simp; omega) | omega)) | (with_reducible refine box_drew ?_) | (with_reducible refine box_drewN ?_ _))) hb
  try simp only [List.setIfInBounds_toArray, List.set_cons_zero, List.set_cons_succ] at HXV05
  have HXV25 : Hid (w3.heap[w2.heap.size]? = some (.cells _ _ (0, 0))) := box_keep (by repeat (first | ((with_reducible refine heap_new_at _ ?_); focus (first | (with_reducible rfl) | (simp; done))) | (with_reducible refine box_alloc ?_ _) | (with_reducible apply box_set) | ((with_reducible refine box_far ?_ ?_ _); rotate_left 1; focus (first | (simp; done) | (simp; omega) | omega)) | (with_reducible refine box_drew ?_) | (with_reducible refine box_drewN ?_ _))) hb
  try simp only [List.setIfInBounds_toArray, List.set_cons_zero, List.set_cons_succ] at HXV25
  clear xV0 yV0
  obtain ⟨xV0, yV0⟩ := box_rules HXV05.out
  have lV05 := box_lt HXV05.out
  clear HXV02
  obtain ⟨xV2, yV2⟩ := box_rules HXV25.out
  have lV25 := box_lt HXV25.out
  have RP25 : Hid (Rd w3 A2 (D.prio.map (.int .i64))) := Rd.below (by repeat (with_reducible first | exact RP2.out | refine Rd.set ?_ QP2V0.out _ | refine Rd.drew ?_ | refine Rd.drewN ?_ _ | refine Rd.alloc ?_ _)) hb
  clear RP2
  have RS25 : Hid (Rd w3 B2 (D.stack.map (.int .i64))) := Rd.below (by repeat (with_reducible first | exact RS2.out | refine Rd.set ?_ QS2V0.out _ | refine Rd.drew ?_ | refine Rd.drewN ?_ _ | refine Rd.alloc ?_ _)) hb
  clear RS2
  have HB5 : Hid (Below w.heap.size w w3) := Below.trans (by repeat (first | (with_reducible exact HB2.out) | (with_reducible refine Below.setCell ?_ leV0 _) | (with_reducible refine Below.setCell ?_ leV2 _) | (with_reducible refine Below.drew ?_) | (with_reducible refine bdrewN ?_ _) | ((with_reducible refine Below.alloc ?_ ?_ _); rotate_left 1; focus (first | (simp; done) | (simp; omega) | omega)))) (hb.mono (by first | (simp; done) | (simp; omega) | omega | (simp [World.setCell]; omega)))
  clear HB2
  have s5 : w.heap.size ≤ w3.heap.size := HB5.out.size
  have z5 : w2.heap.size ≤ w3.heap.size := by have := hb.size; (try simp at this); omega
  have RP3 : Hid (Rd w3 A3 (E.prio.map (.int .i64))) := hp
  have NP3 : Hid (∀ a, A3 = some a → w.heap.size ≤ a.block) := fun a ha => by have := h1 a ha; (try simp at this); omega
  have QP3V0 : Hid (∀ a, A3 = some a → a.block ≠ w.heap.size) := fun a ha e => by have := h1 a ha; (try simp at this); omega
  have QP3V2 : Hid (∀ a, A3 = some a → a.block ≠ w2.heap.size) := fun a ha e => by have := h1 a ha; (try simp at this); omega
  have RS3 : Hid (Rd w3 B3 (E.stack.map (.int .i64))) := hs
  have NS3 : Hid (∀ a, B3 = some a → w.heap.size ≤ a.block) := fun a ha => by have := h2 a ha; (try simp at this); omega
  have QS3V0 : Hid (∀ a, B3 = some a → a.block ≠ w.heap.size) := fun a ha e => by have := h2 a ha; (try simp at this); omega
  have QS3V2 : Hid (∀ a, B3 = some a → a.block ≠ w2.heap.size) := fun a ha e => by have := h2 a ha; (try simp at this); omega
  have leV3 : w.heap.size ≤ w3.heap.size := by omega
  clear hp hs hb h1 h2
  go_wp2_with fail
  refine (f3.out A2 k2 B2 j2 _ ?_ ?_).mono ?_
  · repeat (with_reducible first | exact RP25.out | refine Rd.set ?_ QP2V0.out _ | refine Rd.drew ?_ | refine Rd.drewN ?_ _ | refine Rd.alloc ?_ _)
  · repeat (with_reducible first | exact RS25.out | refine Rd.set ?_ QS2V0.out _ | refine Rd.drew ?_ | refine Rd.drewN ?_ _ | refine Rd.alloc ?_ _)
  rintro e w4 ⟨A4, k4, B4, j4, rfl, hp, hs, hb, h1, h2⟩
  unfold icv
  have HXV08 : Hid (w4.heap[w.heap.size]? = some (.cells _ _ (0, 0))) := box_keep (by repeat (first | (with_reducible exact HXV05.out) | ((with_reducible refine heap_new_at _ ?_); focus (first | (with_reducible rfl) | (simp; done))) | (with_reducible refine box_alloc ?_ _) | (with_reducible apply box_set) | ((with_reducible refine box_far ?_ ?_ _); rotate_left 1; focus (first | (simp; done) | (simp; omega) | omega)) | (with_reducible refine box_drew ?_) | (with_reducible refine box_drewN ?_ _))) hb
  try simp only [List.setIfInBounds_toArray, List.set_cons_zero, List.set_cons_succ] at HXV08
  have HXV28 : Hid (w4.heap[w2.heap.size]? = some (.cells _ _ (0, 0))) := box_keep (by repeat (first | (with_reducible exact HXV25.out) | ((with_reducible refine heap_new_at _ ?_); focus (first | (with_reducible rfl) | (simp; done))) | (with_reducible refine box_alloc ?_ _) | (with_reducible apply box_set) | ((with_reducible refine box_far ?_ ?_ _); rotate_left 1; focus (first | (simp; done) | (simp; omega) | omega)) | (with_reducible refine box_drew ?_) | (with_reducible refine box_drewN ?_ _))) hb
  try simp only [List.setIfInBounds_toArray, List.set_cons_zero, List.set_cons_succ] at HXV28
  have HXV38 : Hid (w4.heap[w3.heap.size]? = some (.cells _ _ (0, 0))) := box_keep (by repeat (first | ((with_reducible refine heap_new_at _ ?_); focus (first | (with_reducible rfl) | (simp; done))) | (with_reducible refine box_alloc ?_ _) | (with_reducible apply box_set) | ((with_reducible refine box_far ?_ ?_ _); rotate_left 1; focus (first | (simp; done) | (simp; omega) | omega)) | (with_reducible refine box_drew ?_) | (with_reducible refine box_drewN ?_ _))) hb
  try simp only [List.setIfInBounds_toArray, List.set_cons_zero, List.set_cons_succ] at HXV38
  clear xV0 yV0
  clear xV2 yV2
  obtain ⟨xV0, yV0⟩ := box_rules HXV08.out
  have lV08 := box_lt HXV08.out
  clear HXV05
  obtain ⟨xV2, yV2⟩ := box_rules HXV28.out
  have lV28 := box_lt HXV28.out
  clear HXV25
  obtain ⟨xV3, yV3⟩ := box_rules HXV38.out
  have lV38 := box_lt HXV38.out
  have RP28 : Hid (Rd w4 A2 (D.prio.map (.int .i64))) := Rd.below (by repeat (with_reducible first | exact RP25.out | refine Rd.set ?_ QP2V0.out _ | refine Rd.drew ?_ | refine Rd.drewN ?_ _ | refine Rd.alloc ?_ _)) hb
  clear RP25
  have RS28 : Hid (Rd w4 B2 (D.stack.map (.int .i64))) := Rd.below (by repeat (with_reducible first | exact RS25.out | refine Rd.set ?_ QS2V0.out _ | refine Rd.drew ?_ | refine Rd.drewN ?_ _ | refine Rd.alloc ?_ _)) hb
  clear RS25
  have RP38 : Hid (Rd w4 A3 (E.prio.map (.int .i64))) := Rd.below (by repeat (with_reducible first | exact RP3.out | refine Rd.set ?_ QP3V0.out _ | refine Rd.set ?_ QP3V2.out _ | refine Rd.drew ?_ | refine Rd.drewN ?_ _ | refine Rd.alloc ?_ _)) hb
  clear RP3
  have RS38 : Hid (Rd w4 B3 (E.stack.map (.int .i64))) := Rd.below (by repeat (with_reducible first | exact RS3.out | refine Rd.set ?_ QS3V0.out _ | refine Rd.set ?_ QS3V2.out _ | refine Rd.drew ?_ | refine Rd.drewN ?_ _ | refine Rd.alloc ?_ _)) hb
  clear RS3
  have HB8 : Hid (Below w.heap.size w w4) := Below.trans (by repeat (first | (with_reducible exact HB5.out) | (with_reducible refine Below.setCell ?_ leV0 _) | (with_reducible refine Below.setCell ?_ leV2 _) | (with_reducible refine Below.setCell ?_ leV3 _) | (with_reducible refine Below.drew ?_) | (with_reducible refine bdrewN ?_ _) | ((with_reducible refine Below.alloc ?_ ?_ _); rotate_left 1; focus (first | (simp; done) | (simp; omega) | omega)))) (hb.mono (by first | (simp; done) | (simp; omega) | omega | (simp [World.setCell]; omega)))
  clear HB5
  have s8 : w.heap.size ≤ w4.heap.size := HB8.out.size
  have z8 : w3.heap.size ≤ w4.heap.size := by have := hb.size; (try simp at this); omega
  have RP4 : Hid (Rd w4 A4 (F.prio.map (.int .i64))) := hp
  have NP4 : Hid (∀ a, A4 = some a → w.heap.size ≤ a.block) := fun a ha => by have := h1 a ha; (try simp at this); omega
  have QP4V0 : Hid (∀ a, A4 = some a → a.block ≠ w.heap.size) := fun a ha e => by have := h1 a ha; (try simp at this); omega
  have QP4V2 : Hid (∀ a, A4 = some a → a.block ≠ w2.heap.size) := fun a ha e => by have := h1 a ha; (try simp at this); omega
  have QP4V3 : Hid (∀ a, A4 = some a → a.block ≠ w3.heap.size) := fun a ha e => by have := h1 a ha; (try simp at this); omega
  have RS4 : Hid (Rd w4 B4 (F.stack.map (.int .i64))) := hs
  have NS4 : Hid (∀ a, B4 = some a → w.heap.size ≤ a.block) := fun a ha => by have := h2 a ha; (try simp at this); omega
  have QS4V0 : Hid (∀ a, B4 = some a → a.block ≠ w.heap.size) := fun a ha e => by have := h2 a ha; (try simp at this); omega
  have QS4V2 : Hid (∀ a, B4 = some a → a.block ≠ w2.heap.size) := fun a ha e => by have := h2 a ha; (try simp at this); omega
  have QS4V3 : Hid (∀ a, B4 = some a → a.block ≠ w3.heap.size) := fun a ha e => by have := h2 a ha; (try simp at this); omega
  have leV4 : w.heap.size ≤ w4.heap.size := by omega
  clear hp hs hb h1 h2
  go_wp2_with fail
  refine (f4.out A4 k4 B4 j4 _ ?_ ?_).mono ?_
  · repeat (with_reducible first | exact RP4.out | refine Rd.set ?_ QP4V0.out _ | refine Rd.set ?_ QP4V2.out _ | refine Rd.set ?_ QP4V3.out _ | refine Rd.drew ?_ | refine Rd.drewN ?_ _ | refine Rd.alloc ?_ _)
  · repeat (with_reducible first | exact RS4.out | refine Rd.set ?_ QS4V0.out _ | refine Rd.set ?_ QS4V2.out _ | refine Rd.set ?_ QS4V3.out _ | refine Rd.drew ?_ | refine Rd.drewN ?_ _ | refine Rd.alloc ?_ _)
  rintro e w5 ⟨A5, k5, B5, j5, rfl, hp, hs, hb, h1, h2⟩
  unfold icv
  have HXV011 : Hid (w5.heap[w.heap.size]? = some (.cells _ _ (0, 0))) := box_keep (by repeat (first | (with_reducible exact HXV08.out) | ((with_reducible refine heap_new_at _ ?_); focus (first | (with_reducible rfl) | (simp; done))) | (with_reducible refine box_alloc ?_ _) | (with_reducible apply box_set) | ((with_reducible refine box_far ?_ ?_ _); rotate_left 1; focus (first | (simp; done) | (simp; omega) | omega)) | (with_reducible refine box_drew ?_) | (with_reducible refine box_drewN ?_ _))) hb
  try simp only [List.setIfInBounds_toArray, List.set_cons_zero, List.set_cons_succ] at HXV011
  have HXV211 : Hid (w5.heap[w2.heap.size]? = some (.cells _ _ (0, 0))) := box_keep (by repeat (first | (with_reducible exact HXV28.out) | ((with_reducible refine heap_new_at _ ?_); focus (first | (with_reducible rfl) | (simp; done))) | (with_reducible refine box_alloc ?_ _) | (with_reducible apply box_set) | ((with_reducible refine box_far ?_ ?_ _); rotate_left 1; focus (first | (simp; done) | (simp; omega) | omega)) | (with_reducible refine box_drew ?_) | (with_reducible refine box_drewN ?_ _))) hb
  try simp only [List.setIfInBounds_toArray, List.set_cons_zero, List.set_cons_succ] at HXV211
  have HXV311 : Hid (w5.heap[w3.heap.size]? = some (.cells _ _ (0, 0))) := box_keep (by repeat (first | (with_reducible exact HXV38.out) | ((with_reducible refine heap_new_at _ ?_); focus (first | (with_reducible rfl) | (simp; done))) | (with_reducible refine box_alloc ?_ _) | (with_reducible apply box_set) | ((with_reducible refine box_far ?_ ?_ _); rotate_left 1; focus (first | (simp; done) | (simp; omega) | omega)) | (with_reducible refine box_drew ?_) | (with_reducible refine box_drewN ?_ _))) hb
  try simp only [List.setIfInBounds_toArray, List.set_cons_zero, List.set_cons_succ] at HXV311
  have HXV411 : Hid (w5.heap[w4.heap.size]? = some (.cells _ _ (0, 0))) := box_keep (by repeat (first | ((with_reducible refine heap_new_at _ ?_); focus (first | (with_reducible rfl) | (simp; done))) | (with_reducible refine box_alloc ?_ _) | (with_reducible apply box_set) | ((with_reducible refine box_far ?_ ?_ _); rotate_left 1; focus (first | (simp; done) | (simp; omega) | omega)) | (with_reducible refine box_drew ?_) | (with_reducible refine box_drewN ?_ _))) hb
  try simp only [List.setIfInBounds_toArray, List.set_cons_zero, List.set_cons_succ] at HXV411
  clear xV0 yV0
  clear xV2 yV2
  clear xV3 yV3
  obtain ⟨xV0, yV0⟩ := box_rules HXV011.out
  have lV011 := box_lt HXV011.out
  clear HXV08
  obtain ⟨xV2, yV2⟩ := box_rules HXV211.out
  have lV211 := box_lt HXV211.out
  clear HXV28
  obtain ⟨xV3, yV3⟩ := box_rules HXV311.out
  have lV311 := box_lt HXV311.out
  clear HXV38
  obtain ⟨xV4, yV4⟩ := box_rules HXV411.out
  have lV411 := box_lt HXV411.out
  have RP211 : Hid (Rd w5 A2 (D.prio.map (.int .i64))) := Rd.below (by repeat (with_reducible first | exact RP28.out | refine Rd.set ?_ QP2V0.out _ | refine Rd.drew ?_ | refine Rd.drewN ?_ _ | refine Rd.alloc ?_ _)) hb
  clear RP28
  have RS211 : Hid (Rd w5 B2 (D.stack.map (.int .i64))) := Rd.below (by repeat (with_reducible first | exact RS28.out | refine Rd.set ?_ QS2V0.out _ | refine Rd.drew ?_ | refine Rd.drewN ?_ _ | refine Rd.alloc ?_ _)) hb
  clear RS28
  have RP311 : Hid (Rd w5 A3 (E.prio.map (.int .i64))) := Rd.below (by repeat (with_reducible first | exact RP38.out | refine Rd.set ?_ QP3V0.out _ | refine Rd.set ?_ QP3V2.out _ | refine Rd.drew ?_ | refine Rd.drewN ?_ _ | refine Rd.alloc ?_ _)) hb
  clear RP38
  have RS311 : Hid (Rd w5 B3 (E.stack.map (.int .i64))) := Rd.below (by repeat (with_reducible first | exact RS38.out | refine Rd.set ?_ QS3V0.out _ | refine Rd.set ?_ QS3V2.out _ | refine Rd.drew ?_ | refine Rd.drewN ?_ _ | refine Rd.alloc ?_ _)) hb
  clear RS38
  have RP411 : Hid (Rd w5 A4 (F.prio.map (.int .i64))) := Rd.below (by repeat (with_reducible first | exact RP4.out | refine Rd.set ?_ QP4V0.out _ | refine Rd.set ?_ QP4V2.out _ | refine Rd.set ?_ QP4V3.out _ | refine Rd.drew ?_ | refine Rd.drewN ?_ _ | refine Rd.alloc ?_ _)) hb
  clear RP4
  have RS411 : Hid (Rd w5 B4 (F.stack.map (.int .i64))) := Rd.below (by repeat (with_reducible first | exact RS4.out | refine Rd.set ?_ QS4V0.out _ | refine Rd.set ?_ QS4V2.out _ | refine Rd.set ?_ QS4V3.out _ | refine Rd.drew ?_ | refine Rd.drewN ?_ _ | refine Rd.alloc ?_ _)) hb
  clear RS4
  have HB11 : Hid (Below w.heap.size w w5) := Below.trans (by repeat (first | (with_reducible exact HB8.out) | (with_reducible refine Below.setCell ?_ leV0 _) | (with_reducible refine Below.setCell ?_ leV2 _) | (with_reducible refine Below.setCell ?_ leV3 _) | (with_reducible refine Below.setCell ?_ leV4 _) | (with_reducible refine Below.drew ?_) | (with_reducible refine bdrewN ?_ _) | ((with_reducible refine Below.alloc ?_ ?_ _); rotate_left 1; focus (first | (simp; done) | (simp; omega) | omega)))) (hb.mono (by first | (simp; done) | (simp; omega) | omega | (simp [World.setCell]; omega)))
  clear HB8
  have s11 : w.heap.size ≤ w5.heap.size := HB11.out.size
  have z11 : w4.heap.size ≤ w5.heap.size := by have := hb.size; (try simp at this); omega
  have RP5 : Hid (Rd w5 A5 (G.prio.map (.int .i64))) := hp
  have NP5 : Hid (∀ a, A5 = some a → w.heap.size ≤ a.block) := fun a ha => by have := h1 a ha; (try simp at this); omega
  have QP5V0 : Hid (∀ a, A5 = some a → a.block ≠ w.heap.size) := fun a ha e => by have := h1 a ha; (try simp at this); omega
  have QP5V2 : Hid (∀ a, A5 = some a → a.block ≠ w2.heap.size) := fun a ha e => by have := h1 a ha; (try simp at this); omega
  have QP5V3 : Hid (∀ a, A5 = some a → a.block ≠ w3.heap.size) := fun a ha e => by have := h1 a ha; (try simp at this); omega
  have QP5V4 : Hid (∀ a, A5 = some a → a.block ≠ w4.heap.size) := fun a ha e => by have := h1 a ha; (try simp at this); omega
  have RS5 : Hid (Rd w5 B5 (G.stack.map (.int .i64))) := hs
  have NS5 : Hid (∀ a, B5 = some a → w.heap.size ≤ a.block) := fun a ha => by have := h2 a ha; (try simp at this); omega
  have QS5V0 : Hid (∀ a, B5 = some a → a.block ≠ w.heap.size) := fun a ha e => by have := h2 a ha; (try simp at this); omega
  have QS5V2 : Hid (∀ a, B5 = some a → a.block ≠ w2.heap.size) := fun a ha e => by have := h2 a ha; (try simp at this); omega
  have QS5V3 : Hid (∀ a, B5 = some a → a.block ≠ w3.heap.size) := fun a ha e => by have := h2 a ha; (try simp at this); omega
  have QS5V4 : Hid (∀ a, B5 = some a → a.block ≠ w4.heap.size) := fun a ha e => by have := h2 a ha; (try simp at this); omega
  have leV5 : w.heap.size ≤ w5.heap.size := by omega
  clear hp hs hb h1 h2
  go_wp2_with fail
  refine (f5.out _).mono ?_
  rintro e w' ⟨rfl, rfl⟩
  go_wp2_with fail
  refine (f6.out _).mono ?_
  rintro e w' ⟨rfl, rfl⟩
  go_upto_region 13 with (fail)
  refine name_world fun W hW => ?_
  have HXV014 : Hid (W.heap[w.heap.size]? = some (.cells _ _ (0, 0))) := Lib.hid (by rw [hW]; repeat (first | (with_reducible exact HXV011.out) | ((with_reducible refine heap_new_at _ ?_); focus (first | (with_reducible rfl) | (simp; done))) | (with_reducible refine box_alloc ?_ _) | (with_reducible apply box_set) | ((with_reducible refine box_far ?_ ?_ _); rotate_left 1; focus (first | (simp; done) | (simp; omega) | omega)) | (with_reducible refine box_drew ?_) | (with_reducible refine box_drewN ?_ _)))
  try simp only [List.setIfInBounds_toArray, List.set_cons_zero, List.set_cons_succ] at HXV014
  have HXV214 : Hid (W.heap[w2.heap.size]? = some (.cells _ _ (0, 0))) := Lib.hid (by rw [hW]; repeat (first | (with_reducible exact HXV211.out) | ((with_reducible refine heap_new_at _ ?_); focus (first | (with_reducible rfl) | (simp; done))) | (with_reducible refine box_alloc ?_ _) | (with_reducible apply box_set) | ((with_reducible refine box_far ?_ ?_ _); rotate_left 1; focus (first | (simp; done) | (simp; omega) | omega)) | (with_reducible refine box_drew ?_) | (with_reducible refine box_drewN ?_ _)))
  try simp only [List.setIfInBounds_toArray, List.set_cons_zero, List.set_cons_succ] at HXV214
  have HXV314 : Hid (W.heap[w3.heap.size]? = some (.cells _ _ (0, 0))) := Lib.hid (by rw [hW]; repeat (first | (with_reducible exact HXV311.out) | ((with_reducible refine heap_new_at _ ?_); focus (first | (with_reducible rfl) | (simp; done))) | (with_reducible refine box_alloc ?_ _) | (with_reducible apply box_set) | ((with_reducible refine box_far ?_ ?_ _); rotate_left 1; focus (first | (simp; done) | (simp; omega) | omega)) | (with_reducible refine box_drew ?_) | (with_reducible refine box_drewN ?_ _)))
  try simp only [List.setIfInBounds_toArray, List.set_cons_zero, List.set_cons_succ] at HXV314
  have HXV414 : Hid (W.heap[w4.heap.size]? = some (.cells _ _ (0, 0))) := Lib.hid (by rw [hW]; repeat (first | (with_reducible exact HXV411.out) | ((with_reducible refine heap_new_at _ ?_); focus (first | (with_reducible rfl) | (simp; done))) | (with_reducible refine box_alloc ?_ _) | (with_reducible apply box_set) | ((with_reducible refine box_far ?_ ?_ _); rotate_left 1; focus (first | (simp; done) | (simp; omega) | omega)) | (with_reducible refine box_drew ?_) | (with_reducible refine box_drewN ?_ _)))
  try simp only [List.setIfInBounds_toArray, List.set_cons_zero, List.set_cons_succ] at HXV414
  have HXV514 : Hid (W.heap[w5.heap.size]? = some (.cells _ _ (0, 0))) := Lib.hid (by rw [hW]; repeat (first | ((with_reducible refine heap_new_at _ ?_); focus (first | (with_reducible rfl) | (simp; done))) | (with_reducible refine box_alloc ?_ _) | (with_reducible apply box_set) | ((with_reducible refine box_far ?_ ?_ _); rotate_left 1; focus (first | (simp; done) | (simp; omega) | omega)) | (with_reducible refine box_drew ?_) | (with_reducible refine box_drewN ?_ _)))
  try simp only [List.setIfInBounds_toArray, List.set_cons_zero, List.set_cons_succ] at HXV514
  have RP214 : Hid (Rd W A2 (D.prio.map (.int .i64))) := Lib.hid (by rw [hW]; repeat (with_reducible first | exact RP211.out | refine Rd.set ?_ QP2V0.out _ | refine Rd.drew ?_ | refine Rd.drewN ?_ _ | refine Rd.alloc ?_ _))
  clear RP211
  have RS214 : Hid (Rd W B2 (D.stack.map (.int .i64))) := Lib.hid (by rw [hW]; repeat (with_reducible first | exact RS211.out | refine Rd.set ?_ QS2V0.out _ | refine Rd.drew ?_ | refine Rd.drewN ?_ _ | refine Rd.alloc ?_ _))
  clear RS211
  have RP314 : Hid (Rd W A3 (E.prio.map (.int .i64))) := Lib.hid (by rw [hW]; repeat (with_reducible first | exact RP311.out | refine Rd.set ?_ QP3V0.out _ | refine Rd.set ?_ QP3V2.out _ | refine Rd.drew ?_ | refine Rd.drewN ?_ _ | refine Rd.alloc ?_ _))
  clear RP311
  have RS314 : Hid (Rd W B3 (E.stack.map (.int .i64))) := Lib.hid (by rw [hW]; repeat (with_reducible first | exact RS311.out | refine Rd.set ?_ QS3V0.out _ | refine Rd.set ?_ QS3V2.out _ | refine Rd.drew ?_ | refine Rd.drewN ?_ _ | refine Rd.alloc ?_ _))
  clear RS311
  have RP414 : Hid (Rd W A4 (F.prio.map (.int .i64))) := Lib.hid (by rw [hW]; repeat (with_reducible first | exact RP411.out | refine Rd.set ?_ QP4V0.out _ | refine Rd.set ?_ QP4V2.out _ | refine Rd.set ?_ QP4V3.out _ | refine Rd.drew ?_ | refine Rd.drewN ?_ _ | refine Rd.alloc ?_ _))
  clear RP411
  have RS414 : Hid (Rd W B4 (F.stack.map (.int .i64))) := Lib.hid (by rw [hW]; repeat (with_reducible first | exact RS411.out | refine Rd.set ?_ QS4V0.out _ | refine Rd.set ?_ QS4V2.out _ | refine Rd.set ?_ QS4V3.out _ | refine Rd.drew ?_ | refine Rd.drewN ?_ _ | refine Rd.alloc ?_ _))
  clear RS411
  have RP514 : Hid (Rd W A5 (G.prio.map (.int .i64))) := Lib.hid (by rw [hW]; repeat (with_reducible first | exact RP5.out | refine Rd.set ?_ QP5V0.out _ | refine Rd.set ?_ QP5V2.out _ | refine Rd.set ?_ QP5V3.out _ | refine Rd.set ?_ QP5V4.out _ | refine Rd.drew ?_ | refine Rd.drewN ?_ _ | refine Rd.alloc ?_ _))
  clear RP5
  have RS514 : Hid (Rd W B5 (G.stack.map (.int .i64))) := Lib.hid (by rw [hW]; repeat (with_reducible first | exact RS5.out | refine Rd.set ?_ QS5V0.out _ | refine Rd.set ?_ QS5V2.out _ | refine Rd.set ?_ QS5V3.out _ | refine Rd.set ?_ QS5V4.out _ | refine Rd.drew ?_ | refine Rd.drewN ?_ _ | refine Rd.alloc ?_ _))
  clear RS5
  have HB14 : Hid (Below w.heap.size w W) := Lib.hid (by rw [hW]; repeat (first | (with_reducible exact HB11.out) | (with_reducible refine Below.setCell ?_ leV0 _) | (with_reducible refine Below.setCell ?_ leV2 _) | (with_reducible refine Below.setCell ?_ leV3 _) | (with_reducible refine Below.setCell ?_ leV4 _) | (with_reducible refine Below.setCell ?_ leV5 _) | (with_reducible refine Below.drew ?_) | (with_reducible refine bdrewN ?_ _) | ((with_reducible refine Below.alloc ?_ ?_ _); rotate_left 1; focus (first | (simp; done) | (simp; omega) | omega))))
  clear HB11
  have z14 : w5.heap.size ≤ W.heap.size := by rw [hW]; first | (simp; done) | (simp; omega)
  clear hW
  have s14 : w.heap.size ≤ W.heap.size := HB14.out.size
  clear xV0 yV0 HXV011
  obtain ⟨xV0, yV0⟩ := box_rules HXV014.out
  have lV014 := box_lt HXV014.out
  clear xV2 yV2 HXV211
  obtain ⟨xV2, yV2⟩ := box_rules HXV214.out
  have lV214 := box_lt HXV214.out
  clear xV3 yV3 HXV311
  obtain ⟨xV3, yV3⟩ := box_rules HXV314.out
  have lV314 := box_lt HXV314.out
  clear xV4 yV4 HXV411
  obtain ⟨xV4, yV4⟩ := box_rules HXV414.out
  have lV414 := box_lt HXV414.out
  obtain ⟨xV5, yV5⟩ := box_rules HXV514.out
  have lV514 := box_lt HXV514.out
  have q7 := Lib.hid (fun k => f7.out (World.drewN W k))
  have q8 := Lib.hid (fun k => f8.out (World.drewN W k))
  have q9 := Lib.hid (fun k => f9.out B3 j3 sA sc (World.drewN W k) (RS314.out.drewN k) ((Hs.out.below HB14.out).drewN k))
  go_quiet ((first
    | (go_at_call 19; first | (with_reducible exact Calls.quiet_of_same ((q7.out _).mono fun _ _ ⟨a, b⟩ => ⟨a, b.symm⟩)) | (with_reducible exact Calls.quiet_of_same ((q8.out _).mono fun _ _ ⟨a, b⟩ => ⟨a, b.symm⟩)))
    | (go_at_call 20; exact Calls.quiet_of ((q9.out _).mono fun _ _ ⟨a, k, b⟩ => ⟨a, k, b.symm⟩))))
  go_wp2_with fail
  go_ret
  exact ⟨rfl, bdrewN HB14.out _⟩

theorem again_any : Calls Tryd.prog 4 #[icv d pA pc sA sc] w fun e w' => e = .returned (.bool true) ∧ Below w.heap.size w w' := by
  by_cases hk : d.ok
  · by_cases h64 : d.best = 64
    · refine again_easy d hf pA pc sA sc w hp hs hT 64 0 d ?_ (.inr ⟨rfl, rfl⟩)
      rw [IC.three_ok hk]; unfold IC.ackF; rw [if_pos h64]
    · obtain ⟨n, D, E, F, G, hn, h⟩ := again_is hf hk h64
      exact again_served d hf pA pc sA sc w hp hs hT n hn hk.len2 D E F G h
  · exact again_easy d hf pA pc sA sc w hp hs hT 0 2 IC.zero (IC.three_bad hk _) (.inl rfl)
end
end Go.Proofs.YtbhjkfeonhddlaaDoor

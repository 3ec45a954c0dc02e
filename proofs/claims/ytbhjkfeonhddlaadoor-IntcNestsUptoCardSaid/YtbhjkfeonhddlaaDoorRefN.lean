/- vergeref06: the walk of Ack. Conditions: lists that read. -/
import Derived.Test.YtbhjkfeonhddlaaDoorRefM
namespace Go.Proofs.YtbhjkfeonhddlaaDoor
open Go.RowKit Go.Shelf

section
variable (d : IC) (hf : d.Fits) (pA : Option Addr) (pc : Nat) (sA : Option Addr) (sc : Nat) (w : World) (hp : Rd w pA (d.prio.map (.int .i64))) (hs : Rd w sA (d.stack.map (.int .i64)))
include hf hp hs

set_option maxHeartbeats 4000000 in
theorem rack_any : Calls Tryd.prog 13 #[icv d pA pc sA sc] w (RetIN (d.three d.ackF) w) := by
  have f1 := Lib.hid (fun w hp hs => rnextC_any d hf pA pc sA sc w hp hs)
  have f2 := Lib.hid (fun w hp hs => copy_any d hf pA pc sA sc w hp hs)
  have Hp := Lib.hid hp; clear hp
  have Hs := Lib.hid hs; clear hs
  by_cases hk : d.ok
  · have HR := Lib.hid (IC.three_ok hk d.ackF)
    have HL : Hid (d.ackF = if d.best = 64 then (d, 64, 0) else ({ d with p := setB d.p d.best.toNat false, stack := d.stack ++ [d.best] }, d.best, 0)) := rfl
    have hbo := d.best_or hk
    have hsz := hf.stack
    by_cases h64 : d.best = 64
    · have HN : Hid (d.num d.nextF = (0, 3)) := by show _ = _; rw [IC.num_ok hk]; unfold IC.nextF; rw [if_pos h64]
      have HR2 : Hid (d.three d.ackF = (d, 64, 0)) := by show _ = _; rw [HR.out, HL.out, if_pos h64]
      clear HL HR hbo h64 hk
      unfold icv RetN at *
      go_enter Tryd.func13, Tryd.ntmps13
      have leD : w.heap.size ≤ w.heap.size := by omega
      have leR : w.heap.size ≤ w.heap.size + 1 := by omega
      go_wp2_with fail
      refine (f1.out _ ((Hp.out.alloc _).alloc _) ((Hs.out.alloc _).alloc _)).mono ?_
      rintro e w1 ⟨rfl, hb⟩
      rw [HN.out]
      have HXD1 : Hid (w1.heap[w.heap.size]? = some (.cells _ _ (0, 0))) := box_keep (by repeat (first | ((with_reducible refine heap_new_at _ ?_); focus (first | rfl | (simp; done))) | (with_reducible refine box_alloc ?_ _) | (with_reducible apply box_set) | ((with_reducible refine box_far ?_ ?_ _); rotate_left 1; focus (first | omega | (simp; done) | (simp; omega))) | (with_reducible refine box_drew ?_))) hb
      try simp only [List.setIfInBounds_toArray, List.set_cons_zero, List.set_cons_succ] at HXD1
      have HXR1 : Hid (w1.heap[w.heap.size + 1]? = some (.cells _ _ (0, 0))) := box_keep (by repeat (first | ((with_reducible refine heap_new_at _ ?_); focus (first | rfl | (simp; done))) | (with_reducible refine box_alloc ?_ _) | (with_reducible apply box_set) | ((with_reducible refine box_far ?_ ?_ _); rotate_left 1; focus (first | omega | (simp; done) | (simp; omega))) | (with_reducible refine box_drew ?_))) hb
      try simp only [List.setIfInBounds_toArray, List.set_cons_zero, List.set_cons_succ] at HXR1
      obtain ⟨xD, yD⟩ := box_rules HXD1.out
      have lD1 := box_lt HXD1.out
      obtain ⟨xR, yR⟩ := box_rules HXR1.out
      have lR1 := box_lt HXR1.out
      have HB1 : Hid (Below w.heap.size w w1) := Below.trans (by repeat (first | (with_reducible exact Below.refl _ _) | (with_reducible refine Below.setCell ?_ leD _) | (with_reducible refine Below.setCell ?_ leR _) | (with_reducible refine Below.drew ?_) | (with_reducible refine bdrewN ?_ _) | ((with_reducible refine Below.alloc ?_ ?_ _); rotate_left 1; focus (first | omega | (simp; done) | (simp; omega))))) (hb.mono (by first | omega | (simp; done) | (simp; omega) | (simp [World.setCell]; omega)))
      have s1 : w.heap.size ≤ w1.heap.size := HB1.out.size
      clear hb
      go_wp2_with fail
      refine (f2.out _ (Hp.out.below HB1.out) (Hs.out.below HB1.out)).mono ?_
      rintro e w2 ⟨qA, qc, tA, tc, rfl, hM, hb⟩
      unfold icv
      have HM := Lib.hid hM
      clear hM
      have HXD2 : Hid (w2.heap[w.heap.size]? = some (.cells _ _ (0, 0))) := box_keep (by repeat (first | (with_reducible exact HXD1.out) | ((with_reducible refine heap_new_at _ ?_); focus (first | rfl | (simp; done))) | (with_reducible refine box_alloc ?_ _) | (with_reducible apply box_set) | ((with_reducible refine box_far ?_ ?_ _); rotate_left 1; focus (first | omega | (simp; done) | (simp; omega))) | (with_reducible refine box_drew ?_))) hb
      try simp only [List.setIfInBounds_toArray, List.set_cons_zero, List.set_cons_succ] at HXD2
      have HXR2 : Hid (w2.heap[w.heap.size + 1]? = some (.cells _ _ (0, 0))) := box_keep (by repeat (first | (with_reducible exact HXR1.out) | ((with_reducible refine heap_new_at _ ?_); focus (first | rfl | (simp; done))) | (with_reducible refine box_alloc ?_ _) | (with_reducible apply box_set) | ((with_reducible refine box_far ?_ ?_ _); rotate_left 1; focus (first | omega | (simp; done) | (simp; omega))) | (with_reducible refine box_drew ?_))) hb
      try simp only [List.setIfInBounds_toArray, List.set_cons_zero, List.set_cons_succ] at HXR2
      clear xD yD
      clear xR yR
      obtain ⟨xD, yD⟩ := box_rules HXD2.out
      have lD2 := box_lt HXD2.out
      clear HXD1
      obtain ⟨xR, yR⟩ := box_rules HXR2.out
      have lR2 := box_lt HXR2.out
      clear HXR1
      have HB2 : Hid (Below w.heap.size w w2) := Below.trans (by repeat (first | (with_reducible exact HB1.out) | (with_reducible refine Below.setCell ?_ leD _) | (with_reducible refine Below.setCell ?_ leR _) | (with_reducible refine Below.drew ?_) | (with_reducible refine bdrewN ?_ _) | ((with_reducible refine Below.alloc ?_ ?_ _); rotate_left 1; focus (first | omega | (simp; done) | (simp; omega))))) (hb.mono (by first | omega | (simp; done) | (simp; omega) | (simp [World.setCell]; omega)))
      clear HB1
      have s2 : w.heap.size ≤ w2.heap.size := HB2.out.size
      have z2 : w1.heap.size ≤ w2.heap.size := by have := hb.size; (try simp at this); omega
      have RP : Hid (Rd w2 qA (d.prio.map (.int .i64))) := own_rd HM.out.prio
      have NP : Hid (∀ a, qA = some a → w.heap.size ≤ a.block) := fun a ha => by have := HM.out.pb a ha; (try simp at this); omega
      have QPD : Hid (∀ a, qA = some a → a.block ≠ w.heap.size) := fun a ha e => by have := HM.out.pb a ha; (try simp at this); omega
      have QPR : Hid (∀ a, qA = some a → a.block ≠ w.heap.size + 1) := fun a ha e => by have := HM.out.pb a ha; (try simp at this); omega
      have OS : Hid (w2.ownsRow (w1.heap.size) 3 1 (.slice tA d.stack.length tc) d.stack.length (d.stack.map (.int .i64))) := HM.out.stack
      have NS : Hid (∀ a, tA = some a → w.heap.size ≤ a.block) := fun a ha => by have := HM.out.sb a ha; (try simp at this); omega
      have QSD : Hid (∀ a, tA = some a → a.block ≠ w.heap.size) := fun a ha e => by have := HM.out.sb a ha; (try simp at this); omega
      have QSR : Hid (∀ a, tA = some a → a.block ≠ w.heap.size + 1) := fun a ha e => by have := HM.out.sb a ha; (try simp at this); omega
      clear hb
      go_upto_region 5 with (fail)
      refine name_world fun W hW => ?_
      have HXD4 : Hid (W.heap[w.heap.size]? = some (.cells _ _ (0, 0))) := Lib.hid (by rw [hW]; repeat (first | (with_reducible exact HXD2.out) | ((with_reducible refine heap_new_at _ ?_); focus (first | rfl | (simp; done))) | (with_reducible refine box_alloc ?_ _) | (with_reducible apply box_set) | ((with_reducible refine box_far ?_ ?_ _); rotate_left 1; focus (first | omega | (simp; done) | (simp; omega))) | (with_reducible refine box_drew ?_)))
      try simp only [List.setIfInBounds_toArray, List.set_cons_zero, List.set_cons_succ] at HXD4
      have HXR4 : Hid (W.heap[w.heap.size + 1]? = some (.cells _ _ (0, 0))) := Lib.hid (by rw [hW]; repeat (first | (with_reducible exact HXR2.out) | ((with_reducible refine heap_new_at _ ?_); focus (first | rfl | (simp; done))) | (with_reducible refine box_alloc ?_ _) | (with_reducible apply box_set) | ((with_reducible refine box_far ?_ ?_ _); rotate_left 1; focus (first | omega | (simp; done) | (simp; omega))) | (with_reducible refine box_drew ?_)))
      try simp only [List.setIfInBounds_toArray, List.set_cons_zero, List.set_cons_succ] at HXR4
      have RP4 : Hid (Rd W qA (d.prio.map (.int .i64))) := Lib.hid (by rw [hW]; repeat (with_reducible first | exact RP.out | refine Rd.set ?_ QPD.out _ | refine Rd.set ?_ QPR.out _ | refine Rd.drew ?_ | refine Rd.alloc ?_ _))
      clear RP
      have OS4 : Hid (W.ownsRow (w1.heap.size) 3 1 (.slice tA d.stack.length tc) d.stack.length (d.stack.map (.int .i64))) := Lib.hid (by rw [hW]; repeat (with_reducible first | exact OS.out | refine own_set ?_ QSD.out _ | refine own_set ?_ QSR.out _ | refine World.ownsRow.drew ?_ | refine World.ownsRow.alloc ?_ _))
      clear OS
      have HB4 : Hid (Below w.heap.size w W) := Lib.hid (by rw [hW]; repeat (first | (with_reducible exact HB2.out) | (with_reducible refine Below.setCell ?_ leD _) | (with_reducible refine Below.setCell ?_ leR _) | (with_reducible refine Below.drew ?_) | (with_reducible refine bdrewN ?_ _) | ((with_reducible refine Below.alloc ?_ ?_ _); rotate_left 1; focus (first | omega | (simp; done) | (simp; omega)))))
      clear HB2
      have z4 : w2.heap.size ≤ W.heap.size := by rw [hW]; first | (simp; done) | (simp; omega)
      clear hW
      have s4 : w.heap.size ≤ W.heap.size := HB4.out.size
      clear xD yD HXD2
      obtain ⟨xD, yD⟩ := box_rules HXD4.out
      have lD4 := box_lt HXD4.out
      clear xR yR HXR2
      obtain ⟨xR, yR⟩ := box_rules HXR4.out
      have lR4 := box_lt HXR4.out
      go_wp2_with fail
      refine bodyPost_ret (v := .tuple #[icv d qA qc tA tc, .int .i64 64, .int .i64 0]) (by simp [results, icv, Tryd.f13, go_sem, xR]) rfl ?_
      rw [HR2.out]
      refine ⟨qA, qc, tA, tc, rfl, ?_, ?_, ?_, ⟨NP.out, NS.out⟩⟩
      · show Rd _ _ (d.prio.map (.int .i64))
        repeat (with_reducible first | exact RP4.out | refine Rd.set ?_ QPD.out _ | refine Rd.set ?_ QPR.out _ | refine Rd.drew ?_ | refine Rd.alloc ?_ _)
      · show Rd _ _ (d.stack.map (.int .i64))
        refine own_rd (base := w1.heap.size) (e := 3) (n := d.stack.length) (c := tc) ?_
        repeat (with_reducible first | exact OS4.out | refine own_set ?_ QSD.out _ | refine own_set ?_ QSR.out _ | refine World.ownsRow.drew ?_ | refine World.ownsRow.alloc ?_ _)
      · repeat (first | (with_reducible exact HB4.out) | (with_reducible refine Below.setCell ?_ leD _) | (with_reducible refine Below.setCell ?_ leR _) | (with_reducible refine Below.drew ?_) | (with_reducible refine bdrewN ?_ _) | ((with_reducible refine Below.alloc ?_ ?_ _); rotate_left 1; focus (first | omega | (simp; done) | (simp; omega))))
    · have HN : Hid (d.num d.nextF = (d.best, 0)) := by show _ = _; rw [IC.num_ok hk]; unfold IC.nextF; rw [if_neg h64]
      obtain ⟨n, hn, hbn, _, _⟩ := hbo.resolve_left h64
      have HR2 : Hid (d.three d.ackF = ({ d with p := setB d.p n false, stack := d.stack ++ [(n : Int)] }, (n : Int), 0)) := by show _ = _; rw [HR.out, HL.out, if_neg h64, hbn]; rfl
      have hn64 : n < 64 := by have := hk.len2; omega
      have f3 := Lib.hid (fun w => with_any d.p hf.p n hn64 false w)
      rw [hbn] at HN
      clear HL HR hbn h64 hk hn
      unfold icv RetN at *
      go_enter Tryd.func13, Tryd.ntmps13
      have leD : w.heap.size ≤ w.heap.size := by omega
      have leR : w.heap.size ≤ w.heap.size + 1 := by omega
      go_wp2_with fail
      refine (f1.out _ ((Hp.out.alloc _).alloc _) ((Hs.out.alloc _).alloc _)).mono ?_
      rintro e w1 ⟨rfl, hb⟩
      rw [HN.out]
      have HXD1 : Hid (w1.heap[w.heap.size]? = some (.cells _ _ (0, 0))) := box_keep (by repeat (first | ((with_reducible refine heap_new_at _ ?_); focus (first | rfl | (simp; done))) | (with_reducible refine box_alloc ?_ _) | (with_reducible apply box_set) | ((with_reducible refine box_far ?_ ?_ _); rotate_left 1; focus (first | omega | (simp; done) | (simp; omega))) | (with_reducible refine box_drew ?_))) hb
      try simp only [List.setIfInBounds_toArray, List.set_cons_zero, List.set_cons_succ] at HXD1
      have HXR1 : Hid (w1.heap[w.heap.size + 1]? = some (.cells _ _ (0, 0))) := box_keep (by repeat (first | ((with_reducible refine heap_new_at _ ?_); focus (first | rfl | (simp; done))) | (with_reducible refine box_alloc ?_ _) | (with_reducible apply box_set) | ((with_reducible refine box_far ?_ ?_ _); rotate_left 1; focus (first | omega | (simp; done) | (simp; omega))) | (with_reducible refine box_drew ?_))) hb
      try simp only [List.setIfInBounds_toArray, List.set_cons_zero, List.set_cons_succ] at HXR1
      obtain ⟨xD, yD⟩ := box_rules HXD1.out
      have lD1 := box_lt HXD1.out
      obtain ⟨xR, yR⟩ := box_rules HXR1.out
      have lR1 := box_lt HXR1.out
      have HB1 : Hid (Below w.heap.size w w1) := Below.trans (by repeat (first | (with_reducible exact Below.refl _ _) | (with_reducible refine Below.setCell ?_ leD _) | (with_reducible refine Below.setCell ?_ leR _) | (with_reducible refine Below.drew ?_) | (with_reducible refine bdrewN ?_ _) | ((with_reducible refine Below.alloc ?_ ?_ _); rotate_left 1; focus (first | omega | (simp; done) | (simp; omega))))) (hb.mono (by first | omega | (simp; done) | (simp; omega) | (simp [World.setCell]; omega)))
      have s1 : w.heap.size ≤ w1.heap.size := HB1.out.size
      clear hb
      go_wp2_with fail
      refine (f2.out _ (Hp.out.below HB1.out) (Hs.out.below HB1.out)).mono ?_
      rintro e w2 ⟨qA, qc, tA, tc, rfl, hM, hb⟩
      unfold icv
      have HM := Lib.hid hM
      clear hM
      have HXD2 : Hid (w2.heap[w.heap.size]? = some (.cells _ _ (0, 0))) := box_keep (by repeat (first | (with_reducible exact HXD1.out) | ((with_reducible refine heap_new_at _ ?_); focus (first | rfl | (simp; done))) | (with_reducible refine box_alloc ?_ _) | (with_reducible apply box_set) | ((with_reducible refine box_far ?_ ?_ _); rotate_left 1; focus (first | omega | (simp; done) | (simp; omega))) | (with_reducible refine box_drew ?_))) hb
      try simp only [List.setIfInBounds_toArray, List.set_cons_zero, List.set_cons_succ] at HXD2
      have HXR2 : Hid (w2.heap[w.heap.size + 1]? = some (.cells _ _ (0, 0))) := box_keep (by repeat (first | (with_reducible exact HXR1.out) | ((with_reducible refine heap_new_at _ ?_); focus (first | rfl | (simp; done))) | (with_reducible refine box_alloc ?_ _) | (with_reducible apply box_set) | ((with_reducible refine box_far ?_ ?_ _); rotate_left 1; focus (first | omega | (simp; done) | (simp; omega))) | (with_reducible refine box_drew ?_))) hb
      try simp only [List.setIfInBounds_toArray, List.set_cons_zero, List.set_cons_succ] at HXR2
      clear xD yD
      clear xR yR
      obtain ⟨xD, yD⟩ := box_rules HXD2.out
      have lD2 := box_lt HXD2.out
      clear HXD1
      obtain ⟨xR, yR⟩ := box_rules HXR2.out
      have lR2 := box_lt HXR2.out
      clear HXR1
      have HB2 : Hid (Below w.heap.size w w2) := Below.trans (by repeat (first | (with_reducible exact HB1.out) | (with_reducible refine Below.setCell ?_ leD _) | (with_reducible refine Below.setCell ?_ leR _) | (with_reducible refine Below.drew ?_) | (with_reducible refine bdrewN ?_ _) | ((with_reducible refine Below.alloc ?_ ?_ _); rotate_left 1; focus (first | omega | (simp; done) | (simp; omega))))) (hb.mono (by first | omega | (simp; done) | (simp; omega) | (simp [World.setCell]; omega)))
      clear HB1
      have s2 : w.heap.size ≤ w2.heap.size := HB2.out.size
      have z2 : w1.heap.size ≤ w2.heap.size := by have := hb.size; (try simp at this); omega
      have RP : Hid (Rd w2 qA (d.prio.map (.int .i64))) := own_rd HM.out.prio
      have NP : Hid (∀ a, qA = some a → w.heap.size ≤ a.block) := fun a ha => by have := HM.out.pb a ha; (try simp at this); omega
      have QPD : Hid (∀ a, qA = some a → a.block ≠ w.heap.size) := fun a ha e => by have := HM.out.pb a ha; (try simp at this); omega
      have QPR : Hid (∀ a, qA = some a → a.block ≠ w.heap.size + 1) := fun a ha e => by have := HM.out.pb a ha; (try simp at this); omega
      have OS : Hid (w2.ownsRow (w1.heap.size) 3 1 (.slice tA d.stack.length tc) d.stack.length (d.stack.map (.int .i64))) := HM.out.stack
      have NS : Hid (∀ a, tA = some a → w.heap.size ≤ a.block) := fun a ha => by have := HM.out.sb a ha; (try simp at this); omega
      have QSD : Hid (∀ a, tA = some a → a.block ≠ w.heap.size) := fun a ha e => by have := HM.out.sb a ha; (try simp at this); omega
      have QSR : Hid (∀ a, tA = some a → a.block ≠ w.heap.size + 1) := fun a ha e => by have := HM.out.sb a ha; (try simp at this); omega
      clear hb
      go_upto_region 5 with (fail)
      refine name_world fun W hW => ?_
      have HXD4 : Hid (W.heap[w.heap.size]? = some (.cells _ _ (0, 0))) := Lib.hid (by rw [hW]; repeat (first | (with_reducible exact HXD2.out) | ((with_reducible refine heap_new_at _ ?_); focus (first | rfl | (simp; done))) | (with_reducible refine box_alloc ?_ _) | (with_reducible apply box_set) | ((with_reducible refine box_far ?_ ?_ _); rotate_left 1; focus (first | omega | (simp; done) | (simp; omega))) | (with_reducible refine box_drew ?_)))
      try simp only [List.setIfInBounds_toArray, List.set_cons_zero, List.set_cons_succ] at HXD4
      have HXR4 : Hid (W.heap[w.heap.size + 1]? = some (.cells _ _ (0, 0))) := Lib.hid (by rw [hW]; repeat (first | (with_reducible exact HXR2.out) | ((with_reducible refine heap_new_at _ ?_); focus (first | rfl | (simp; done))) | (with_reducible refine box_alloc ?_ _) | (with_reducible apply box_set) | ((with_reducible refine box_far ?_ ?_ _); rotate_left 1; focus (first | omega | (simp; done) | (simp; omega))) | (with_reducible refine box_drew ?_)))
      try simp only [List.setIfInBounds_toArray, List.set_cons_zero, List.set_cons_succ] at HXR4
      have RP4 : Hid (Rd W qA (d.prio.map (.int .i64))) := Lib.hid (by rw [hW]; repeat (with_reducible first | exact RP.out | refine Rd.set ?_ QPD.out _ | refine Rd.set ?_ QPR.out _ | refine Rd.drew ?_ | refine Rd.alloc ?_ _))
      clear RP
      have OS4 : Hid (W.ownsRow (w1.heap.size) 3 1 (.slice tA d.stack.length tc) d.stack.length (d.stack.map (.int .i64))) := Lib.hid (by rw [hW]; repeat (with_reducible first | exact OS.out | refine own_set ?_ QSD.out _ | refine own_set ?_ QSR.out _ | refine World.ownsRow.drew ?_ | refine World.ownsRow.alloc ?_ _))
      clear OS
      have HB4 : Hid (Below w.heap.size w W) := Lib.hid (by rw [hW]; repeat (first | (with_reducible exact HB2.out) | (with_reducible refine Below.setCell ?_ leD _) | (with_reducible refine Below.setCell ?_ leR _) | (with_reducible refine Below.drew ?_) | (with_reducible refine bdrewN ?_ _) | ((with_reducible refine Below.alloc ?_ ?_ _); rotate_left 1; focus (first | omega | (simp; done) | (simp; omega)))))
      clear HB2
      have z4 : w2.heap.size ≤ W.heap.size := by rw [hW]; first | (simp; done) | (simp; omega)
      clear hW
      have s4 : w.heap.size ≤ W.heap.size := HB4.out.size
      clear xD yD HXD2
      obtain ⟨xD, yD⟩ := box_rules HXD4.out
      have lD4 := box_lt HXD4.out
      clear xR yR HXR2
      obtain ⟨xR, yR⟩ := box_rules HXR4.out
      have lR4 := box_lt HXR4.out
      go_wp2_with fail
      refine (f3.out _).mono ?_
      rintro e w3 ⟨rfl, hb⟩
      have HXD5 : Hid (w3.heap[w.heap.size]? = some (.cells _ _ (0, 0))) := box_keep (by repeat (first | (with_reducible exact HXD4.out) | ((with_reducible refine heap_new_at _ ?_); focus (first | rfl | (simp; done))) | (with_reducible refine box_alloc ?_ _) | (with_reducible apply box_set) | ((with_reducible refine box_far ?_ ?_ _); rotate_left 1; focus (first | omega | (simp; done) | (simp; omega))) | (with_reducible refine box_drew ?_))) hb
      try simp only [List.setIfInBounds_toArray, List.set_cons_zero, List.set_cons_succ] at HXD5
      have HXR5 : Hid (w3.heap[w.heap.size + 1]? = some (.cells _ _ (0, 0))) := box_keep (by repeat (first | (with_reducible exact HXR4.out) | ((with_reducible refine heap_new_at _ ?_); focus (first | rfl | (simp; done))) | (with_reducible refine box_alloc ?_ _) | (with_reducible apply box_set) | ((with_reducible refine box_far ?_ ?_ _); rotate_left 1; focus (first | omega | (simp; done) | (simp; omega))) | (with_reducible refine box_drew ?_))) hb
      try simp only [List.setIfInBounds_toArray, List.set_cons_zero, List.set_cons_succ] at HXR5
      clear xD yD
      clear xR yR
      obtain ⟨xD, yD⟩ := box_rules HXD5.out
      have lD5 := box_lt HXD5.out
      clear HXD4
      obtain ⟨xR, yR⟩ := box_rules HXR5.out
      have lR5 := box_lt HXR5.out
      clear HXR4
      have RP5 : Hid (Rd w3 qA (d.prio.map (.int .i64))) := Rd.below (by repeat (with_reducible first | exact RP4.out | refine Rd.set ?_ QPD.out _ | refine Rd.set ?_ QPR.out _ | refine Rd.drew ?_ | refine Rd.alloc ?_ _)) hb
      clear RP4
      have OS5 : Hid (w3.ownsRow (w1.heap.size) 3 1 (.slice tA d.stack.length tc) d.stack.length (d.stack.map (.int .i64))) := own_below (by repeat (with_reducible first | exact OS4.out | refine own_set ?_ QSD.out _ | refine own_set ?_ QSR.out _ | refine World.ownsRow.drew ?_ | refine World.ownsRow.alloc ?_ _)) hb
      clear OS4
      have HB5 : Hid (Below w.heap.size w w3) := Below.trans (by repeat (first | (with_reducible exact HB4.out) | (with_reducible refine Below.setCell ?_ leD _) | (with_reducible refine Below.setCell ?_ leR _) | (with_reducible refine Below.drew ?_) | (with_reducible refine bdrewN ?_ _) | ((with_reducible refine Below.alloc ?_ ?_ _); rotate_left 1; focus (first | omega | (simp; done) | (simp; omega))))) (hb.mono (by first | omega | (simp; done) | (simp; omega) | (simp [World.setCell]; omega)))
      clear HB4
      have s5 : w.heap.size ≤ w3.heap.size := HB5.out.size
      have z5 : W.heap.size ≤ w3.heap.size := by have := hb.size; (try simp at this); omega
      clear hb
      go_upto_region 8 with (fail)
      refine name_world fun V hW => ?_
      have HXD6 : Hid (V.heap[w.heap.size]? = some (.cells _ _ (0, 0))) := Lib.hid (by rw [hW]; repeat (first | (with_reducible exact HXD5.out) | ((with_reducible refine heap_new_at _ ?_); focus (first | rfl | (simp; done))) | (with_reducible refine box_alloc ?_ _) | (with_reducible apply box_set) | ((with_reducible refine box_far ?_ ?_ _); rotate_left 1; focus (first | omega | (simp; done) | (simp; omega))) | (with_reducible refine box_drew ?_)))
      try simp only [List.setIfInBounds_toArray, List.set_cons_zero, List.set_cons_succ] at HXD6
      have HXR6 : Hid (V.heap[w.heap.size + 1]? = some (.cells _ _ (0, 0))) := Lib.hid (by rw [hW]; repeat (first | (with_reducible exact HXR5.out) | ((with_reducible refine heap_new_at _ ?_); focus (first | rfl | (simp; done))) | (with_reducible refine box_alloc ?_ _) | (with_reducible apply box_set) | ((with_reducible refine box_far ?_ ?_ _); rotate_left 1; focus (first | omega | (simp; done) | (simp; omega))) | (with_reducible refine box_drew ?_)))
      try simp only [List.setIfInBounds_toArray, List.set_cons_zero, List.set_cons_succ] at HXR6
      have RP6 : Hid (Rd V qA (d.prio.map (.int .i64))) := Lib.hid (by rw [hW]; repeat (with_reducible first | exact RP5.out | refine Rd.set ?_ QPD.out _ | refine Rd.set ?_ QPR.out _ | refine Rd.drew ?_ | refine Rd.alloc ?_ _))
      clear RP5
      have OS6 : Hid (V.ownsRow (w1.heap.size) 3 1 (.slice tA d.stack.length tc) d.stack.length (d.stack.map (.int .i64))) := Lib.hid (by rw [hW]; repeat (with_reducible first | exact OS5.out | refine own_set ?_ QSD.out _ | refine own_set ?_ QSR.out _ | refine World.ownsRow.drew ?_ | refine World.ownsRow.alloc ?_ _))
      clear OS5
      have HB6 : Hid (Below w.heap.size w V) := Lib.hid (by rw [hW]; repeat (first | (with_reducible exact HB5.out) | (with_reducible refine Below.setCell ?_ leD _) | (with_reducible refine Below.setCell ?_ leR _) | (with_reducible refine Below.drew ?_) | (with_reducible refine bdrewN ?_ _) | ((with_reducible refine Below.alloc ?_ ?_ _); rotate_left 1; focus (first | omega | (simp; done) | (simp; omega)))))
      clear HB5
      have z6 : w3.heap.size ≤ V.heap.size := by rw [hW]; first | (simp; done) | (simp; omega)
      clear hW
      have s6 : w.heap.size ≤ V.heap.size := HB6.out.size
      clear xD yD HXD5
      obtain ⟨xD, yD⟩ := box_rules HXD6.out
      have lD6 := box_lt HXD6.out
      clear xR yR HXR5
      obtain ⟨xR, yR⟩ := box_rules HXR6.out
      have lR6 := box_lt HXR6.out
      go_wp2_with (at_builtin; refine wp_app1g rfl _ _ sl_int (by decide) rfl (OS6.out.alloc _) rfl (by omega) (by simp; omega) V.heap.size (.int .i64 n) rfl (by go_simp) rfl ?_; intro A' c' w5 hown' hg hat; clear hat; have HXD7 : Hid (w5.heap[w.heap.size]? = some (.cells _ _ (0, 0))) := (box_grown (by repeat (first | (with_reducible exact HXD6.out) | ((with_reducible refine heap_new_at _ ?_); focus (first | rfl | (simp; done))) | (with_reducible refine box_alloc ?_ _) | (with_reducible apply box_set) | ((with_reducible refine box_far ?_ ?_ _); rotate_left 1; focus (first | omega | (simp; done) | (simp; omega))) | (with_reducible refine box_drew ?_))) hg (row_ne _ _ QSD.out)); (try simp only [List.setIfInBounds_toArray, List.set_cons_zero, List.set_cons_succ] at HXD7); have HXR7 : Hid (w5.heap[w.heap.size + 1]? = some (.cells _ _ (0, 0))) := (box_grown (by repeat (first | (with_reducible exact HXR6.out) | ((with_reducible refine heap_new_at _ ?_); focus (first | rfl | (simp; done))) | (with_reducible refine box_alloc ?_ _) | (with_reducible apply box_set) | ((with_reducible refine box_far ?_ ?_ _); rotate_left 1; focus (first | omega | (simp; done) | (simp; omega))) | (with_reducible refine box_drew ?_))) hg (row_ne _ _ QSR.out)); (try simp only [List.setIfInBounds_toArray, List.set_cons_zero, List.set_cons_succ] at HXR7); clear xD yD; obtain ⟨xD, yD⟩ := box_rules HXD7.out; have lD7 := (box_lt HXD7.out); clear HXD6; clear xR yR; obtain ⟨xR, yR⟩ := box_rules HXR7.out; have lR7 := (box_lt HXR7.out); clear HXR6; have RP7 : Hid (Rd w5 qA (d.prio.map (.int .i64))) := (Rd.grown (by repeat (with_reducible first | exact RP6.out | refine Rd.set ?_ QPD.out _ | refine Rd.set ?_ QPR.out _ | refine Rd.drew ?_ | refine Rd.alloc ?_ _)) hg (row_off _ _ HM.out.apart)); clear RP6; have HB7 : Hid (Below w.heap.size w w5) := (Below.grown (by repeat (first | (with_reducible exact HB6.out) | (with_reducible refine Below.setCell ?_ leD _) | (with_reducible refine Below.setCell ?_ leR _) | (with_reducible refine Below.drew ?_) | (with_reducible refine bdrewN ?_ _) | ((with_reducible refine Below.alloc ?_ ?_ _); rotate_left 1; focus (first | omega | (simp; done) | (simp; omega))))) hg (by simp; omega) (fun k hk => by have := (OS6.out.lt k hk).1; (try simp at this); omega)); clear HB6; have s7 : w.heap.size ≤ w5.heap.size := (HB7.out.size); have RS7 : Hid (Rd w5 A' (d.stack.map (.int .i64) ++ [.int .i64 n])) := (own_rd hown'); have NS7 : Hid (∀ a, A' = some a → w.heap.size ≤ a.block) := (fun a ha => by have := (own_block hown' ha).1; (try simp at this); omega); have QSD7 : Hid (∀ a, A' = some a → a.block ≠ w.heap.size) := (fun a ha e => by have := (own_block hown' ha).1; (try simp at this); omega); have QSR7 : Hid (∀ a, A' = some a → a.block ≠ w.heap.size + 1) := (fun a ha e => by have := (own_block hown' ha).1; (try simp at this); omega); clear hown' hg)
      refine bodyPost_ret (v := .tuple #[icv { d with p := setB d.p n false, stack := d.stack ++ [(n : Int)] } qA qc A' c', .int .i64 n, .int .i64 0]) (by simp [results, icv, Tryd.f13, go_sem, xR]) rfl ?_
      rw [HR2.out]
      refine ⟨qA, qc, A', c', rfl, ?_, ?_, ?_, ⟨NP.out, NS7.out⟩⟩
      · show Rd _ _ (d.prio.map (.int .i64))
        repeat (with_reducible first | exact RP7.out | refine Rd.set ?_ QPD.out _ | refine Rd.set ?_ QPR.out _ | refine Rd.drew ?_ | refine Rd.alloc ?_ _)
      · show Rd _ _ ((d.stack ++ [(n : Int)]).map (.int .i64))
        rw [List.map_append]
        show Rd _ _ (d.stack.map (.int .i64) ++ [.int .i64 n])
        repeat (with_reducible first | exact RS7.out | refine Rd.set ?_ QSD7.out _ | refine Rd.set ?_ QSR7.out _ | refine Rd.drew ?_ | refine Rd.alloc ?_ _)
      · repeat (first | (with_reducible exact HB7.out) | (with_reducible refine Below.setCell ?_ leD _) | (with_reducible refine Below.setCell ?_ leR _) | (with_reducible refine Below.drew ?_) | (with_reducible refine bdrewN ?_ _) | ((with_reducible refine Below.alloc ?_ ?_ _); rotate_left 1; focus (first | omega | (simp; done) | (simp; omega))))
  · have HN := Lib.hid (IC.num_bad hk d.nextF)
    have HR2 := Lib.hid (IC.three_bad hk d.ackF)
    clear hk
    unfold icv RetN at *
    go_enter Tryd.func13, Tryd.ntmps13
    have leD : w.heap.size ≤ w.heap.size := by omega
    have leR : w.heap.size ≤ w.heap.size + 1 := by omega
    go_wp2_with fail
    refine (f1.out _ ((Hp.out.alloc _).alloc _) ((Hs.out.alloc _).alloc _)).mono ?_
    rintro e w1 ⟨rfl, hb⟩
    rw [HN.out]
    have HXD1 : Hid (w1.heap[w.heap.size]? = some (.cells _ _ (0, 0))) := box_keep (by repeat (first | ((with_reducible refine heap_new_at _ ?_); focus (first | rfl | (simp; done))) | (with_reducible refine box_alloc ?_ _) | (with_reducible apply box_set) | ((with_reducible refine box_far ?_ ?_ _); rotate_left 1; focus (first | omega | (simp; done) | (simp; omega))) | (with_reducible refine box_drew ?_))) hb
    try simp only [List.setIfInBounds_toArray, List.set_cons_zero, List.set_cons_succ] at HXD1
    have HXR1 : Hid (w1.heap[w.heap.size + 1]? = some (.cells _ _ (0, 0))) := box_keep (by repeat (first | ((with_reducible refine heap_new_at _ ?_); focus (first | rfl | (simp; done))) | (with_reducible refine box_alloc ?_ _) | (with_reducible apply box_set) | ((with_reducible refine box_far ?_ ?_ _); rotate_left 1; focus (first | omega | (simp; done) | (simp; omega))) | (with_reducible refine box_drew ?_))) hb
    try simp only [List.setIfInBounds_toArray, List.set_cons_zero, List.set_cons_succ] at HXR1
    obtain ⟨xD, yD⟩ := box_rules HXD1.out
    have lD1 := box_lt HXD1.out
    obtain ⟨xR, yR⟩ := box_rules HXR1.out
    have lR1 := box_lt HXR1.out
    have HB1 : Hid (Below w.heap.size w w1) := Below.trans (by repeat (first | (with_reducible exact Below.refl _ _) | (with_reducible refine Below.setCell ?_ leD _) | (with_reducible refine Below.setCell ?_ leR _) | (with_reducible refine Below.drew ?_) | (with_reducible refine bdrewN ?_ _) | ((with_reducible refine Below.alloc ?_ ?_ _); rotate_left 1; focus (first | omega | (simp; done) | (simp; omega))))) (hb.mono (by first | omega | (simp; done) | (simp; omega) | (simp [World.setCell]; omega)))
    have s1 : w.heap.size ≤ w1.heap.size := HB1.out.size
    clear hb
    go_wp2_with fail
    refine bodyPost_ret (v := .tuple #[icv IC.zero none 0 none 0, .int .i64 0, .int .i64 2]) (by simp [results, icv, IC.zero, Tryd.f13, go_sem, xR]) rfl ?_
    rw [HR2.out]
    refine ⟨none, 0, none, 0, rfl, Rd.nil _ _, Rd.nil _ _, ?_, New.none _⟩
    repeat (first | (with_reducible exact HB1.out) | (with_reducible refine Below.setCell ?_ leD _) | (with_reducible refine Below.setCell ?_ leR _) | (with_reducible refine Below.drew ?_) | (with_reducible refine bdrewN ?_ _) | ((with_reducible refine Below.alloc ?_ ?_ _); rotate_left 1; focus (first | omega | (simp; done) | (simp; omega))))
end
end Go.Proofs.YtbhjkfeonhddlaaDoor

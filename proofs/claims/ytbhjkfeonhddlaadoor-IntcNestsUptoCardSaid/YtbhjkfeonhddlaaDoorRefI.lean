/- vergeref06: the walks of Lower and Limit. Conditions: lists that read. -/
import Derived.Test.YtbhjkfeonhddlaaDoorRefH
namespace Go.Proofs.YtbhjkfeonhddlaaDoor
open Go.RowKit Go.Shelf

theorem Mem.pb {w : World} {base : Nat} {d : IC} {pA : Option Addr} {pc : Nat} {sA : Option Addr} {sc : Nat} (h : Mem w base d pA pc sA sc) : ∀ a, pA = some a → base ≤ a.block := fun _ ha => (own_block h.prio ha).1
theorem Mem.sb {w : World} {base : Nat} {d : IC} {pA : Option Addr} {pc : Nat} {sA : Option Addr} {sc : Nat} (h : Mem w base d pA pc sA sc) : ∀ a, sA = some a → base ≤ a.block := fun _ ha => (own_block h.stack ha).1

section
variable (d : IC) (hf : d.Fits) (pA : Option Addr) (pc : Nat) (sA : Option Addr) (sc : Nat) (line : Int) (w : World) (hp : Rd w pA (d.prio.map (.int .i64))) (hs : Rd w sA (d.stack.map (.int .i64)))
include hf hp hs


set_option maxHeartbeats 2000000 in
theorem rlower_any : Calls Tryd.prog 26 #[icv d pA pc sA sc, .int .i64 line] w (RetI (d.on line d.lowerF) w) := by
  by_cases hk : d.ok
  · have f1 := Lib.hid (fun w hp hs => bad_good d hf pA pc sA sc line w hp hs hk)
    have Hp := Lib.hid hp; clear hp
    have Hs := Lib.hid hs; clear hs
    by_cases hl : 0 ≤ line ∧ line < d.prio.length
    · obtain ⟨n, rfl⟩ := Int.eq_ofNat_of_zero_le hl.1
      have hn : n < 64 := by have := hk.len2; omega
      have HR := Lib.hid (IC.on_in hk hl.2 d.lowerF)
      have Hle : Hid (lineErr d.prio.length (n : Int) = 0) := by show lineErr _ _ = 0; unfold lineErr; rw [if_pos hl]
      have f2 := Lib.hid (fun w => has_any d.g n w hf.g)
      have f3 := Lib.hid (fun w => with_any d.r hf.r n hn false w)
      have f4 := Lib.hid (fun w => with_any d.p hf.p n hn false w)
      have HL : Hid (d.lowerF n = if d.g.testBit n = true then (d, 7) else ({ d with r := setB d.r n false, p := setB d.p n false }, 0)) := rfl
      rw [hasB_nat] at f2
      generalize d.g.testBit n = tg at *
      unfold icv at *
      go_enter Tryd.func26, Tryd.ntmps26
      have leD : w.heap.size ≤ w.heap.size := by omega
      have leR : w.heap.size ≤ w.heap.size + 1 := by omega
      go_wp2_with fail
      refine (f1.out _ ((Hp.out.alloc _).alloc _) ((Hs.out.alloc _).alloc _)).mono ?_
      rintro e w1 ⟨qA, qc, tA, tc, rfl, hM, hb⟩
      rw [Hle.out]
      unfold icv
      have HM := Lib.hid hM
      clear hM
      have HXD1 : Hid (w1.heap[w.heap.size]? = some (.cells _ _ (0, 0))) := box_keep (by repeat (first | ((with_reducible refine heap_new_at _ ?_); focus (first | rfl | (simp; done))) | (with_reducible refine box_alloc ?_ _) | (with_reducible apply box_set) | ((with_reducible refine box_far ?_ ?_ _); rotate_left 1; focus (first | (simp; done) | (simp; omega))) | (with_reducible refine box_drew ?_))) hb
      try simp only [List.setIfInBounds_toArray, List.set_cons_zero, List.set_cons_succ] at HXD1
      have HXR1 : Hid (w1.heap[w.heap.size + 1]? = some (.cells _ _ (0, 0))) := box_keep (by repeat (first | ((with_reducible refine heap_new_at _ ?_); focus (first | rfl | (simp; done))) | (with_reducible refine box_alloc ?_ _) | (with_reducible apply box_set) | ((with_reducible refine box_far ?_ ?_ _); rotate_left 1; focus (first | (simp; done) | (simp; omega))) | (with_reducible refine box_drew ?_))) hb
      try simp only [List.setIfInBounds_toArray, List.set_cons_zero, List.set_cons_succ] at HXR1
      obtain ⟨xD, yD⟩ := box_rules HXD1.out
      have lD1 := box_lt HXD1.out
      obtain ⟨xR, yR⟩ := box_rules HXR1.out
      have lR1 := box_lt HXR1.out
      have HB1 : Hid (Below w.heap.size w w1) := Below.trans (by repeat (first | (with_reducible exact Below.refl _ _) | (with_reducible refine Below.setCell ?_ leD _) | (with_reducible refine Below.setCell ?_ leR _) | (with_reducible refine Below.drew ?_) | (with_reducible refine bdrewN ?_ _) | ((with_reducible refine Below.alloc ?_ ?_ _); rotate_left 1; focus (first | (simp; done) | (simp; omega))))) (hb.mono (by first | (simp; done) | (simp; omega) | (simp [World.setCell]; omega)))
      have s1 : w.heap.size ≤ w1.heap.size := HB1.out.size
      have RP : Hid (Rd w1 qA (d.prio.map (.int .i64))) := own_rd HM.out.prio
      have NP : Hid (∀ a, qA = some a → w.heap.size ≤ a.block) := fun a ha => by have := HM.out.pb a ha; simp at this; omega
      have QPD : Hid (∀ a, qA = some a → a.block ≠ w.heap.size) := fun a ha e => by have := HM.out.pb a ha; simp at this; omega
      have QPR : Hid (∀ a, qA = some a → a.block ≠ w.heap.size + 1) := fun a ha e => by have := HM.out.pb a ha; simp at this; omega
      have RS : Hid (Rd w1 tA (d.stack.map (.int .i64))) := own_rd HM.out.stack
      have NS : Hid (∀ a, tA = some a → w.heap.size ≤ a.block) := fun a ha => by have := HM.out.sb a ha; simp at this; omega
      have QSD : Hid (∀ a, tA = some a → a.block ≠ w.heap.size) := fun a ha e => by have := HM.out.sb a ha; simp at this; omega
      have QSR : Hid (∀ a, tA = some a → a.block ≠ w.heap.size + 1) := fun a ha e => by have := HM.out.sb a ha; simp at this; omega
      clear hb
      go_wp2_with fail
      refine (f2.out _).mono ?_
      rintro e w' ⟨rfl, rfl⟩
      cases tg with
      | true =>
        have HR2 : Hid (d.on n d.lowerF = (d, 7)) := by show _ = _; rw [HR.out, HL.out]; rfl
        go_wp2_with fail
        refine bodyPost_ret (v := .tuple #[icv d qA qc tA tc, .int .i64 7]) (by simp [results, icv, Tryd.f26, go_sem, xR]) rfl ?_
        rw [HR2.out]
        refine ⟨qA, qc, tA, tc, rfl, ?_, ?_, ?_, ⟨NP.out, NS.out⟩⟩
        · show Rd _ _ (d.prio.map (.int .i64))
          repeat (with_reducible first | exact RP.out | refine Rd.set ?_ QPD.out _ | refine Rd.set ?_ QPR.out _ | refine Rd.drew ?_ | refine Rd.alloc ?_ _)
        · show Rd _ _ (d.stack.map (.int .i64))
          repeat (with_reducible first | exact RS.out | refine Rd.set ?_ QSD.out _ | refine Rd.set ?_ QSR.out _ | refine Rd.drew ?_ | refine Rd.alloc ?_ _)
        · repeat (first | (with_reducible exact HB1.out) | (with_reducible refine Below.setCell ?_ leD _) | (with_reducible refine Below.setCell ?_ leR _) | (with_reducible refine Below.drew ?_) | (with_reducible refine bdrewN ?_ _) | ((with_reducible refine Below.alloc ?_ ?_ _); rotate_left 1; focus (first | (simp; done) | (simp; omega))))
      | false =>
        have HR2 : Hid (d.on n d.lowerF = ({ d with r := setB d.r n false, p := setB d.p n false }, 0)) := by show _ = _; rw [HR.out, HL.out]; rfl
        go_wp2_with fail
        refine (f3.out _).mono ?_
        rintro e w2 ⟨rfl, hb⟩
        have HXD4 : Hid (w2.heap[w.heap.size]? = some (.cells _ _ (0, 0))) := box_keep (by repeat (first | (with_reducible exact HXD1.out) | ((with_reducible refine heap_new_at _ ?_); focus (first | rfl | (simp; done))) | (with_reducible refine box_alloc ?_ _) | (with_reducible apply box_set) | ((with_reducible refine box_far ?_ ?_ _); rotate_left 1; focus (first | (simp; done) | (simp; omega))) | (with_reducible refine box_drew ?_))) hb
        try simp only [List.setIfInBounds_toArray, List.set_cons_zero, List.set_cons_succ] at HXD4
        have HXR4 : Hid (w2.heap[w.heap.size + 1]? = some (.cells _ _ (0, 0))) := box_keep (by repeat (first | (with_reducible exact HXR1.out) | ((with_reducible refine heap_new_at _ ?_); focus (first | rfl | (simp; done))) | (with_reducible refine box_alloc ?_ _) | (with_reducible apply box_set) | ((with_reducible refine box_far ?_ ?_ _); rotate_left 1; focus (first | (simp; done) | (simp; omega))) | (with_reducible refine box_drew ?_))) hb
        try simp only [List.setIfInBounds_toArray, List.set_cons_zero, List.set_cons_succ] at HXR4
        clear xD yD
        clear xR yR
        obtain ⟨xD, yD⟩ := box_rules HXD4.out
        have lD4 := box_lt HXD4.out
        clear HXD1
        obtain ⟨xR, yR⟩ := box_rules HXR4.out
        have lR4 := box_lt HXR4.out
        clear HXR1
        have RP4 : Hid (Rd w2 qA (d.prio.map (.int .i64))) := Rd.below (by repeat (with_reducible first | exact RP.out | refine Rd.set ?_ QPD.out _ | refine Rd.set ?_ QPR.out _ | refine Rd.drew ?_ | refine Rd.alloc ?_ _)) hb
        clear RP
        have RS4 : Hid (Rd w2 tA (d.stack.map (.int .i64))) := Rd.below (by repeat (with_reducible first | exact RS.out | refine Rd.set ?_ QSD.out _ | refine Rd.set ?_ QSR.out _ | refine Rd.drew ?_ | refine Rd.alloc ?_ _)) hb
        clear RS
        have HB4 : Hid (Below w.heap.size w w2) := Below.trans (by repeat (first | (with_reducible exact HB1.out) | (with_reducible refine Below.setCell ?_ leD _) | (with_reducible refine Below.setCell ?_ leR _) | (with_reducible refine Below.drew ?_) | (with_reducible refine bdrewN ?_ _) | ((with_reducible refine Below.alloc ?_ ?_ _); rotate_left 1; focus (first | (simp; done) | (simp; omega))))) (hb.mono (by first | (simp; done) | (simp; omega) | (simp [World.setCell]; omega)))
        clear HB1
        have s4 : w.heap.size ≤ w2.heap.size := HB4.out.size
        clear hb
        go_wp2_with fail
        refine (f4.out _).mono ?_
        rintro e w3 ⟨rfl, hb⟩
        have HXD5 : Hid (w3.heap[w.heap.size]? = some (.cells _ _ (0, 0))) := box_keep (by repeat (first | (with_reducible exact HXD4.out) | ((with_reducible refine heap_new_at _ ?_); focus (first | rfl | (simp; done))) | (with_reducible refine box_alloc ?_ _) | (with_reducible apply box_set) | ((with_reducible refine box_far ?_ ?_ _); rotate_left 1; focus (first | (simp; done) | (simp; omega))) | (with_reducible refine box_drew ?_))) hb
        try simp only [List.setIfInBounds_toArray, List.set_cons_zero, List.set_cons_succ] at HXD5
        have HXR5 : Hid (w3.heap[w.heap.size + 1]? = some (.cells _ _ (0, 0))) := box_keep (by repeat (first | (with_reducible exact HXR4.out) | ((with_reducible refine heap_new_at _ ?_); focus (first | rfl | (simp; done))) | (with_reducible refine box_alloc ?_ _) | (with_reducible apply box_set) | ((with_reducible refine box_far ?_ ?_ _); rotate_left 1; focus (first | (simp; done) | (simp; omega))) | (with_reducible refine box_drew ?_))) hb
        try simp only [List.setIfInBounds_toArray, List.set_cons_zero, List.set_cons_succ] at HXR5
        clear xD yD
        clear xR yR
        obtain ⟨xD, yD⟩ := box_rules HXD5.out
        have lD5 := box_lt HXD5.out
        clear HXD4
        obtain ⟨xR, yR⟩ := box_rules HXR5.out
        have lR5 := box_lt HXR5.out
        clear HXR4
        have RP5 : Hid (Rd w3 qA (d.prio.map (.int .i64))) := Rd.below (by repeat (with_reducible first | exact RP4.out | refine Rd.set ?_ QPD.out _ | refine Rd.set ?_ QPR.out _ | refine Rd.drew ?_ | refine Rd.alloc ?_ _)) hb
        clear RP4
        have RS5 : Hid (Rd w3 tA (d.stack.map (.int .i64))) := Rd.below (by repeat (with_reducible first | exact RS4.out | refine Rd.set ?_ QSD.out _ | refine Rd.set ?_ QSR.out _ | refine Rd.drew ?_ | refine Rd.alloc ?_ _)) hb
        clear RS4
        have HB5 : Hid (Below w.heap.size w w3) := Below.trans (by repeat (first | (with_reducible exact HB4.out) | (with_reducible refine Below.setCell ?_ leD _) | (with_reducible refine Below.setCell ?_ leR _) | (with_reducible refine Below.drew ?_) | (with_reducible refine bdrewN ?_ _) | ((with_reducible refine Below.alloc ?_ ?_ _); rotate_left 1; focus (first | (simp; done) | (simp; omega))))) (hb.mono (by first | (simp; done) | (simp; omega) | (simp [World.setCell]; omega)))
        clear HB4
        have s5 : w.heap.size ≤ w3.heap.size := HB5.out.size
        clear hb
        go_wp2_with fail
        refine bodyPost_ret (v := .tuple #[icv { d with r := setB d.r n false, p := setB d.p n false } qA qc tA tc, .int .i64 0]) (by simp [results, icv, Tryd.f26, go_sem, xR]) rfl ?_
        rw [HR2.out]
        refine ⟨qA, qc, tA, tc, rfl, ?_, ?_, ?_, ⟨NP.out, NS.out⟩⟩
        · show Rd _ _ (d.prio.map (.int .i64))
          repeat (with_reducible first | exact RP5.out | refine Rd.set ?_ QPD.out _ | refine Rd.set ?_ QPR.out _ | refine Rd.drew ?_ | refine Rd.alloc ?_ _)
        · show Rd _ _ (d.stack.map (.int .i64))
          repeat (with_reducible first | exact RS5.out | refine Rd.set ?_ QSD.out _ | refine Rd.set ?_ QSR.out _ | refine Rd.drew ?_ | refine Rd.alloc ?_ _)
        · repeat (first | (with_reducible exact HB5.out) | (with_reducible refine Below.setCell ?_ leD _) | (with_reducible refine Below.setCell ?_ leR _) | (with_reducible refine Below.drew ?_) | (with_reducible refine bdrewN ?_ _) | ((with_reducible refine Below.alloc ?_ ?_ _); rotate_left 1; focus (first | (simp; done) | (simp; omega))))
    · have HR := Lib.hid (IC.on_out hk hl d.lowerF)
      have Hle : Hid (lineErr d.prio.length line = 1) := by show lineErr _ _ = 1; unfold lineErr; rw [if_neg hl]
      unfold icv at *
      go_enter Tryd.func26, Tryd.ntmps26
      have leD : w.heap.size ≤ w.heap.size := by omega
      have leR : w.heap.size ≤ w.heap.size + 1 := by omega
      go_wp2_with fail
      refine (f1.out _ ((Hp.out.alloc _).alloc _) ((Hs.out.alloc _).alloc _)).mono ?_
      rintro e w1 ⟨qA, qc, tA, tc, rfl, hM, hb⟩
      rw [Hle.out]
      unfold icv
      have HM := Lib.hid hM
      clear hM
      have HXD1 : Hid (w1.heap[w.heap.size]? = some (.cells _ _ (0, 0))) := box_keep (by repeat (first | ((with_reducible refine heap_new_at _ ?_); focus (first | rfl | (simp; done))) | (with_reducible refine box_alloc ?_ _) | (with_reducible apply box_set) | ((with_reducible refine box_far ?_ ?_ _); rotate_left 1; focus (first | (simp; done) | (simp; omega))) | (with_reducible refine box_drew ?_))) hb
      try simp only [List.setIfInBounds_toArray, List.set_cons_zero, List.set_cons_succ] at HXD1
      have HXR1 : Hid (w1.heap[w.heap.size + 1]? = some (.cells _ _ (0, 0))) := box_keep (by repeat (first | ((with_reducible refine heap_new_at _ ?_); focus (first | rfl | (simp; done))) | (with_reducible refine box_alloc ?_ _) | (with_reducible apply box_set) | ((with_reducible refine box_far ?_ ?_ _); rotate_left 1; focus (first | (simp; done) | (simp; omega))) | (with_reducible refine box_drew ?_))) hb
      try simp only [List.setIfInBounds_toArray, List.set_cons_zero, List.set_cons_succ] at HXR1
      obtain ⟨xD, yD⟩ := box_rules HXD1.out
      have lD1 := box_lt HXD1.out
      obtain ⟨xR, yR⟩ := box_rules HXR1.out
      have lR1 := box_lt HXR1.out
      have HB1 : Hid (Below w.heap.size w w1) := Below.trans (by repeat (first | (with_reducible exact Below.refl _ _) | (with_reducible refine Below.setCell ?_ leD _) | (with_reducible refine Below.setCell ?_ leR _) | (with_reducible refine Below.drew ?_) | (with_reducible refine bdrewN ?_ _) | ((with_reducible refine Below.alloc ?_ ?_ _); rotate_left 1; focus (first | (simp; done) | (simp; omega))))) (hb.mono (by first | (simp; done) | (simp; omega) | (simp [World.setCell]; omega)))
      have s1 : w.heap.size ≤ w1.heap.size := HB1.out.size
      have RP : Hid (Rd w1 qA (d.prio.map (.int .i64))) := own_rd HM.out.prio
      have NP : Hid (∀ a, qA = some a → w.heap.size ≤ a.block) := fun a ha => by have := HM.out.pb a ha; simp at this; omega
      have QPD : Hid (∀ a, qA = some a → a.block ≠ w.heap.size) := fun a ha e => by have := HM.out.pb a ha; simp at this; omega
      have QPR : Hid (∀ a, qA = some a → a.block ≠ w.heap.size + 1) := fun a ha e => by have := HM.out.pb a ha; simp at this; omega
      have RS : Hid (Rd w1 tA (d.stack.map (.int .i64))) := own_rd HM.out.stack
      have NS : Hid (∀ a, tA = some a → w.heap.size ≤ a.block) := fun a ha => by have := HM.out.sb a ha; simp at this; omega
      have QSD : Hid (∀ a, tA = some a → a.block ≠ w.heap.size) := fun a ha e => by have := HM.out.sb a ha; simp at this; omega
      have QSR : Hid (∀ a, tA = some a → a.block ≠ w.heap.size + 1) := fun a ha e => by have := HM.out.sb a ha; simp at this; omega
      clear hb
      go_wp2_with fail
      refine bodyPost_ret (v := .tuple #[icv d qA qc tA tc, .int .i64 1]) (by simp [results, icv, Tryd.f26, go_sem, xR]) rfl ?_
      rw [HR.out]
      refine ⟨qA, qc, tA, tc, rfl, ?_, ?_, ?_, ⟨NP.out, NS.out⟩⟩
      · show Rd _ _ (d.prio.map (.int .i64))
        repeat (with_reducible first | exact RP.out | refine Rd.set ?_ QPD.out _ | refine Rd.set ?_ QPR.out _ | refine Rd.drew ?_ | refine Rd.alloc ?_ _)
      · show Rd _ _ (d.stack.map (.int .i64))
        repeat (with_reducible first | exact RS.out | refine Rd.set ?_ QSD.out _ | refine Rd.set ?_ QSR.out _ | refine Rd.drew ?_ | refine Rd.alloc ?_ _)
      · repeat (first | (with_reducible exact HB1.out) | (with_reducible refine Below.setCell ?_ leD _) | (with_reducible refine Below.setCell ?_ leR _) | (with_reducible refine Below.drew ?_) | (with_reducible refine bdrewN ?_ _) | ((with_reducible refine Below.alloc ?_ ?_ _); rotate_left 1; focus (first | (simp; done) | (simp; omega))))
  · have f1 := Lib.hid (fun w hp hs => bad_bad d hf pA pc sA sc line w hp hs hk)
    have HR := Lib.hid (IC.on_bad hk line d.lowerF)
    have Hp := Lib.hid hp; clear hp
    have Hs := Lib.hid hs; clear hs
    unfold icv at *
    go_enter Tryd.func26, Tryd.ntmps26
    have leD : w.heap.size ≤ w.heap.size := by omega
    have leR : w.heap.size ≤ w.heap.size + 1 := by omega
    go_wp2_with fail
    refine (f1.out _ ((Hp.out.alloc _).alloc _) ((Hs.out.alloc _).alloc _)).mono ?_
    rintro e w1 ⟨rfl, hb⟩
    have HXD1 : Hid (w1.heap[w.heap.size]? = some (.cells _ _ (0, 0))) := box_keep (by repeat (first | ((with_reducible refine heap_new_at _ ?_); focus (first | rfl | (simp; done))) | (with_reducible refine box_alloc ?_ _) | (with_reducible apply box_set) | ((with_reducible refine box_far ?_ ?_ _); rotate_left 1; focus (first | (simp; done) | (simp; omega))) | (with_reducible refine box_drew ?_))) hb
    try simp only [List.setIfInBounds_toArray, List.set_cons_zero, List.set_cons_succ] at HXD1
    have HXR1 : Hid (w1.heap[w.heap.size + 1]? = some (.cells _ _ (0, 0))) := box_keep (by repeat (first | ((with_reducible refine heap_new_at _ ?_); focus (first | rfl | (simp; done))) | (with_reducible refine box_alloc ?_ _) | (with_reducible apply box_set) | ((with_reducible refine box_far ?_ ?_ _); rotate_left 1; focus (first | (simp; done) | (simp; omega))) | (with_reducible refine box_drew ?_))) hb
    try simp only [List.setIfInBounds_toArray, List.set_cons_zero, List.set_cons_succ] at HXR1
    obtain ⟨xD, yD⟩ := box_rules HXD1.out
    have lD1 := box_lt HXD1.out
    obtain ⟨xR, yR⟩ := box_rules HXR1.out
    have lR1 := box_lt HXR1.out
    have HB1 : Hid (Below w.heap.size w w1) := Below.trans (by repeat (first | (with_reducible exact Below.refl _ _) | (with_reducible refine Below.setCell ?_ leD _) | (with_reducible refine Below.setCell ?_ leR _) | (with_reducible refine Below.drew ?_) | (with_reducible refine bdrewN ?_ _) | ((with_reducible refine Below.alloc ?_ ?_ _); rotate_left 1; focus (first | (simp; done) | (simp; omega))))) (hb.mono (by first | (simp; done) | (simp; omega) | (simp [World.setCell]; omega)))
    have s1 : w.heap.size ≤ w1.heap.size := HB1.out.size
    clear hb
    simp only [IC.zero]
    go_wp2_with fail
    refine bodyPost_ret (v := .tuple #[icv IC.zero none 0 none 0, .int .i64 2]) (by simp [results, icv, IC.zero, Tryd.f26, go_sem, xR]) rfl ?_
    rw [HR.out]
    refine ⟨none, 0, none, 0, rfl, Rd.nil _ _, Rd.nil _ _, ?_, New.none _⟩
    repeat (first | (with_reducible exact HB1.out) | (with_reducible refine Below.setCell ?_ leD _) | (with_reducible refine Below.setCell ?_ leR _) | (with_reducible refine Below.drew ?_) | (with_reducible refine bdrewN ?_ _) | ((with_reducible refine Below.alloc ?_ ?_ _); rotate_left 1; focus (first | (simp; done) | (simp; omega))))

set_option maxHeartbeats 2000000 in
theorem rlimit_any : Calls Tryd.prog 30 #[icv d pA pc sA sc, .int .i64 line] w (RetI (d.on 0 fun _ => d.limitF line) w) := by
  by_cases hk : d.ok
  · have f1 := Lib.hid (fun w hp hs => bad_good d hf pA pc sA sc 0 w hp hs hk)
    have Hp := Lib.hid hp; clear hp
    have Hs := Lib.hid hs; clear hs
    have h1 := hk.len1
    have HR : Hid (d.on 0 (fun _ => d.limitF line) = d.limitF line) := IC.on_in (n := 0) hk (by omega) fun _ => d.limitF line
    have Hle : Hid (lineErr d.prio.length 0 = 0) := by show lineErr _ _ = 0; unfold lineErr; rw [if_pos ⟨by omega, by omega⟩]
    unfold icv at *
    go_enter Tryd.func30, Tryd.ntmps30
    have leD : w.heap.size ≤ w.heap.size := by omega
    have leR : w.heap.size ≤ w.heap.size + 1 := by omega
    go_wp2_with fail
    refine (f1.out _ ((Hp.out.alloc _).alloc _) ((Hs.out.alloc _).alloc _)).mono ?_
    rintro e w1 ⟨qA, qc, tA, tc, rfl, hM, hb⟩
    rw [Hle.out]
    unfold icv
    have HM := Lib.hid hM
    clear hM
    have HXD1 : Hid (w1.heap[w.heap.size]? = some (.cells _ _ (0, 0))) := box_keep (by repeat (first | ((with_reducible refine heap_new_at _ ?_); focus (first | rfl | (simp; done))) | (with_reducible refine box_alloc ?_ _) | (with_reducible apply box_set) | ((with_reducible refine box_far ?_ ?_ _); rotate_left 1; focus (first | (simp; done) | (simp; omega))) | (with_reducible refine box_drew ?_))) hb
    try simp only [List.setIfInBounds_toArray, List.set_cons_zero, List.set_cons_succ] at HXD1
    have HXR1 : Hid (w1.heap[w.heap.size + 1]? = some (.cells _ _ (0, 0))) := box_keep (by repeat (first | ((with_reducible refine heap_new_at _ ?_); focus (first | rfl | (simp; done))) | (with_reducible refine box_alloc ?_ _) | (with_reducible apply box_set) | ((with_reducible refine box_far ?_ ?_ _); rotate_left 1; focus (first | (simp; done) | (simp; omega))) | (with_reducible refine box_drew ?_))) hb
    try simp only [List.setIfInBounds_toArray, List.set_cons_zero, List.set_cons_succ] at HXR1
    obtain ⟨xD, yD⟩ := box_rules HXD1.out
    have lD1 := box_lt HXD1.out
    obtain ⟨xR, yR⟩ := box_rules HXR1.out
    have lR1 := box_lt HXR1.out
    have HB1 : Hid (Below w.heap.size w w1) := Below.trans (by repeat (first | (with_reducible exact Below.refl _ _) | (with_reducible refine Below.setCell ?_ leD _) | (with_reducible refine Below.setCell ?_ leR _) | (with_reducible refine Below.drew ?_) | (with_reducible refine bdrewN ?_ _) | ((with_reducible refine Below.alloc ?_ ?_ _); rotate_left 1; focus (first | (simp; done) | (simp; omega))))) (hb.mono (by first | (simp; done) | (simp; omega) | (simp [World.setCell]; omega)))
    have s1 : w.heap.size ≤ w1.heap.size := HB1.out.size
    have RP : Hid (Rd w1 qA (d.prio.map (.int .i64))) := own_rd HM.out.prio
    have NP : Hid (∀ a, qA = some a → w.heap.size ≤ a.block) := fun a ha => by have := HM.out.pb a ha; simp at this; omega
    have QPD : Hid (∀ a, qA = some a → a.block ≠ w.heap.size) := fun a ha e => by have := HM.out.pb a ha; simp at this; omega
    have QPR : Hid (∀ a, qA = some a → a.block ≠ w.heap.size + 1) := fun a ha e => by have := HM.out.pb a ha; simp at this; omega
    have RS : Hid (Rd w1 tA (d.stack.map (.int .i64))) := own_rd HM.out.stack
    have NS : Hid (∀ a, tA = some a → w.heap.size ≤ a.block) := fun a ha => by have := HM.out.sb a ha; simp at this; omega
    have QSD : Hid (∀ a, tA = some a → a.block ≠ w.heap.size) := fun a ha e => by have := HM.out.sb a ha; simp at this; omega
    have QSR : Hid (∀ a, tA = some a → a.block ≠ w.heap.size + 1) := fun a ha e => by have := HM.out.sb a ha; simp at this; omega
    clear hb
    go_upto_region 2 with (fail)
    refine name_world fun W hW => ?_
    have HXD4 : Hid (W.heap[w.heap.size]? = some (.cells _ _ (0, 0))) := Lib.hid (by rw [hW]; repeat (first | (with_reducible exact HXD1.out) | ((with_reducible refine heap_new_at _ ?_); focus (first | rfl | (simp; done))) | (with_reducible refine box_alloc ?_ _) | (with_reducible apply box_set) | ((with_reducible refine box_far ?_ ?_ _); rotate_left 1; focus (first | (simp; done) | (simp; omega))) | (with_reducible refine box_drew ?_)))
    try simp only [List.setIfInBounds_toArray, List.set_cons_zero, List.set_cons_succ] at HXD4
    have HXR4 : Hid (W.heap[w.heap.size + 1]? = some (.cells _ _ (0, 0))) := Lib.hid (by rw [hW]; repeat (first | (with_reducible exact HXR1.out) | ((with_reducible refine heap_new_at _ ?_); focus (first | rfl | (simp; done))) | (with_reducible refine box_alloc ?_ _) | (with_reducible apply box_set) | ((with_reducible refine box_far ?_ ?_ _); rotate_left 1; focus (first | (simp; done) | (simp; omega))) | (with_reducible refine box_drew ?_)))
    try simp only [List.setIfInBounds_toArray, List.set_cons_zero, List.set_cons_succ] at HXR4
    have RP4 : Hid (Rd W qA (d.prio.map (.int .i64))) := Lib.hid (by rw [hW]; repeat (with_reducible first | exact RP.out | refine Rd.set ?_ QPD.out _ | refine Rd.set ?_ QPR.out _ | refine Rd.drew ?_ | refine Rd.alloc ?_ _))
    clear RP
    have RS4 : Hid (Rd W tA (d.stack.map (.int .i64))) := Lib.hid (by rw [hW]; repeat (with_reducible first | exact RS.out | refine Rd.set ?_ QSD.out _ | refine Rd.set ?_ QSR.out _ | refine Rd.drew ?_ | refine Rd.alloc ?_ _))
    clear RS
    have HB4 : Hid (Below w.heap.size w W) := Lib.hid (by rw [hW]; repeat (first | (with_reducible exact HB1.out) | (with_reducible refine Below.setCell ?_ leD _) | (with_reducible refine Below.setCell ?_ leR _) | (with_reducible refine Below.drew ?_) | (with_reducible refine bdrewN ?_ _) | ((with_reducible refine Below.alloc ?_ ?_ _); rotate_left 1; focus (first | (simp; done) | (simp; omega)))))
    clear HB1
    clear hW
    have s4 : w.heap.size ≤ W.heap.size := HB4.out.size
    clear xD yD HXD1
    obtain ⟨xD, yD⟩ := box_rules HXD4.out
    have lD4 := box_lt HXD4.out
    clear xR yR HXR1
    obtain ⟨xR, yR⟩ := box_rules HXR4.out
    have lR4 := box_lt HXR4.out
    by_cases h0 : 0 ≤ line
    · by_cases h15 : line ≤ 15
      · have HR2 : Hid (d.on 0 (fun _ => d.limitF line) = ({ d with t := line }, 0)) := by show _ = _; rw [HR.out]; unfold IC.limitF; rw [if_pos ⟨h0, h15⟩]
        go_wp2_with fail
        refine bodyPost_ret (v := .tuple #[icv { d with t := line } qA qc tA tc, .int .i64 0]) (by simp [results, icv, Tryd.f30, go_sem, xR]) rfl ?_
        rw [HR2.out]
        refine ⟨qA, qc, tA, tc, rfl, ?_, ?_, ?_, ⟨NP.out, NS.out⟩⟩
        · show Rd _ _ (d.prio.map (.int .i64))
          repeat (with_reducible first | exact RP4.out | refine Rd.set ?_ QPD.out _ | refine Rd.set ?_ QPR.out _ | refine Rd.drew ?_ | refine Rd.alloc ?_ _)
        · show Rd _ _ (d.stack.map (.int .i64))
          repeat (with_reducible first | exact RS4.out | refine Rd.set ?_ QSD.out _ | refine Rd.set ?_ QSR.out _ | refine Rd.drew ?_ | refine Rd.alloc ?_ _)
        · repeat (first | (with_reducible exact HB4.out) | (with_reducible refine Below.setCell ?_ leD _) | (with_reducible refine Below.setCell ?_ leR _) | (with_reducible refine Below.drew ?_) | (with_reducible refine bdrewN ?_ _) | ((with_reducible refine Below.alloc ?_ ?_ _); rotate_left 1; focus (first | (simp; done) | (simp; omega))))
      · have HR2 : Hid (d.on 0 (fun _ => d.limitF line) = (d, 1)) := by show _ = _; rw [HR.out]; unfold IC.limitF; rw [if_neg (by omega)]
        go_wp2_with fail
        refine bodyPost_ret (v := .tuple #[icv d qA qc tA tc, .int .i64 1]) (by simp [results, icv, Tryd.f30, go_sem, xR]) rfl ?_
        rw [HR2.out]
        refine ⟨qA, qc, tA, tc, rfl, ?_, ?_, ?_, ⟨NP.out, NS.out⟩⟩
        · show Rd _ _ (d.prio.map (.int .i64))
          repeat (with_reducible first | exact RP4.out | refine Rd.set ?_ QPD.out _ | refine Rd.set ?_ QPR.out _ | refine Rd.drew ?_ | refine Rd.alloc ?_ _)
        · show Rd _ _ (d.stack.map (.int .i64))
          repeat (with_reducible first | exact RS4.out | refine Rd.set ?_ QSD.out _ | refine Rd.set ?_ QSR.out _ | refine Rd.drew ?_ | refine Rd.alloc ?_ _)
        · repeat (first | (with_reducible exact HB4.out) | (with_reducible refine Below.setCell ?_ leD _) | (with_reducible refine Below.setCell ?_ leR _) | (with_reducible refine Below.drew ?_) | (with_reducible refine bdrewN ?_ _) | ((with_reducible refine Below.alloc ?_ ?_ _); rotate_left 1; focus (first | (simp; done) | (simp; omega))))
    · have HR2 : Hid (d.on 0 (fun _ => d.limitF line) = (d, 1)) := by show _ = _; rw [HR.out]; unfold IC.limitF; rw [if_neg (by omega)]
      go_wp2_with fail
      refine bodyPost_ret (v := .tuple #[icv d qA qc tA tc, .int .i64 1]) (by simp [results, icv, Tryd.f30, go_sem, xR]) rfl ?_
      rw [HR2.out]
      refine ⟨qA, qc, tA, tc, rfl, ?_, ?_, ?_, ⟨NP.out, NS.out⟩⟩
      · show Rd _ _ (d.prio.map (.int .i64))
        repeat (with_reducible first | exact RP4.out | refine Rd.set ?_ QPD.out _ | refine Rd.set ?_ QPR.out _ | refine Rd.drew ?_ | refine Rd.alloc ?_ _)
      · show Rd _ _ (d.stack.map (.int .i64))
        repeat (with_reducible first | exact RS4.out | refine Rd.set ?_ QSD.out _ | refine Rd.set ?_ QSR.out _ | refine Rd.drew ?_ | refine Rd.alloc ?_ _)
      · repeat (first | (with_reducible exact HB4.out) | (with_reducible refine Below.setCell ?_ leD _) | (with_reducible refine Below.setCell ?_ leR _) | (with_reducible refine Below.drew ?_) | (with_reducible refine bdrewN ?_ _) | ((with_reducible refine Below.alloc ?_ ?_ _); rotate_left 1; focus (first | (simp; done) | (simp; omega))))
  · have f1 := Lib.hid (fun w hp hs => bad_bad d hf pA pc sA sc 0 w hp hs hk)
    have HR := Lib.hid (IC.on_bad hk 0 fun _ => d.limitF line)
    have Hp := Lib.hid hp; clear hp
    have Hs := Lib.hid hs; clear hs
    unfold icv at *
    go_enter Tryd.func30, Tryd.ntmps30
    have leD : w.heap.size ≤ w.heap.size := by omega
    have leR : w.heap.size ≤ w.heap.size + 1 := by omega
    go_wp2_with fail
    refine (f1.out _ ((Hp.out.alloc _).alloc _) ((Hs.out.alloc _).alloc _)).mono ?_
    rintro e w1 ⟨rfl, hb⟩
    have HXD1 : Hid (w1.heap[w.heap.size]? = some (.cells _ _ (0, 0))) := box_keep (by repeat (first | ((with_reducible refine heap_new_at _ ?_); focus (first | rfl | (simp; done))) | (with_reducible refine box_alloc ?_ _) | (with_reducible apply box_set) | ((with_reducible refine box_far ?_ ?_ _); rotate_left 1; focus (first | (simp; done) | (simp; omega))) | (with_reducible refine box_drew ?_))) hb
    try simp only [List.setIfInBounds_toArray, List.set_cons_zero, List.set_cons_succ] at HXD1
    have HXR1 : Hid (w1.heap[w.heap.size + 1]? = some (.cells _ _ (0, 0))) := box_keep (by repeat (first | ((with_reducible refine heap_new_at _ ?_); focus (first | rfl | (simp; done))) | (with_reducible refine box_alloc ?_ _) | (with_reducible apply box_set) | ((with_reducible refine box_far ?_ ?_ _); rotate_left 1; focus (first | (simp; done) | (simp; omega))) | (with_reducible refine box_drew ?_))) hb
    try simp only [List.setIfInBounds_toArray, List.set_cons_zero, List.set_cons_succ] at HXR1
    obtain ⟨xD, yD⟩ := box_rules HXD1.out
    have lD1 := box_lt HXD1.out
    obtain ⟨xR, yR⟩ := box_rules HXR1.out
    have lR1 := box_lt HXR1.out
    have HB1 : Hid (Below w.heap.size w w1) := Below.trans (by repeat (first | (with_reducible exact Below.refl _ _) | (with_reducible refine Below.setCell ?_ leD _) | (with_reducible refine Below.setCell ?_ leR _) | (with_reducible refine Below.drew ?_) | (with_reducible refine bdrewN ?_ _) | ((with_reducible refine Below.alloc ?_ ?_ _); rotate_left 1; focus (first | (simp; done) | (simp; omega))))) (hb.mono (by first | (simp; done) | (simp; omega) | (simp [World.setCell]; omega)))
    have s1 : w.heap.size ≤ w1.heap.size := HB1.out.size
    clear hb
    simp only [IC.zero]
    go_wp2_with fail
    refine bodyPost_ret (v := .tuple #[icv IC.zero none 0 none 0, .int .i64 2]) (by simp [results, icv, IC.zero, Tryd.f30, go_sem, xR]) rfl ?_
    rw [HR.out]
    refine ⟨none, 0, none, 0, rfl, Rd.nil _ _, Rd.nil _ _, ?_, New.none _⟩
    repeat (first | (with_reducible exact HB1.out) | (with_reducible refine Below.setCell ?_ leD _) | (with_reducible refine Below.setCell ?_ leR _) | (with_reducible refine Below.drew ?_) | (with_reducible refine bdrewN ?_ _) | ((with_reducible refine Below.alloc ?_ ?_ _); rotate_left 1; focus (first | (simp; done) | (simp; omega))))
end
end Go.Proofs.YtbhjkfeonhddlaaDoor

/- vergeref06: the walk of End. Conditions: lists that read. -/
import Derived.Test.YtbhjkfeonhddlaaDoorRefL
namespace Go.Proofs.YtbhjkfeonhddlaaDoor
open Go.RowKit Go.Shelf

section
variable (d : IC) (hf : d.Fits) (pA : Option Addr) (pc : Nat) (sA : Option Addr) (sc : Nat) (w : World) (hp : Rd w pA (d.prio.map (.int .i64))) (hs : Rd w sA (d.stack.map (.int .i64)))
include hf hp hs


set_option maxHeartbeats 4000000 in
theorem rend_any : Calls Tryd.prog 15 #[icv d pA pc sA sc] w (RetIN (d.three d.endF) w) := by
  by_cases hk : d.ok
  · have f1 := Lib.hid (fun w hp hs => bad_good d hf pA pc sA sc 0 w hp hs hk)
    have Hp := Lib.hid hp; clear hp
    have Hs := Lib.hid hs; clear hs
    have h1 := hk.len1
    have HR := Lib.hid (IC.three_ok hk d.endF)
    have Hle : Hid (lineErr d.prio.length 0 = 0) := by show lineErr _ _ = 0; unfold lineErr; rw [if_pos ⟨by omega, by omega⟩]
    unfold icv at *
    go_enter Tryd.func15, Tryd.ntmps15
    have leD : w.heap.size ≤ w.heap.size := by omega
    have leR : w.heap.size ≤ w.heap.size + 1 := by omega
    go_wp2_with fail
    refine (f1.out _ ((Hp.out.alloc _).alloc _) ((Hs.out.alloc _).alloc _)).mono ?_
    rintro e w1 ⟨qA, qc, tA, tc, rfl, hM, hb⟩
    rw [Hle.out]
    unfold icv
    have HM := Lib.hid hM
    clear hM
    have HXD1 : Hid (w1.heap[w.heap.size]? = some (.cells _ _ (0, 0))) := box_keep (by repeat (first | ((with_reducible refine heap_new_at _ ?_); focus (first | rfl | (simp; done))) | (with_reducible refine box_alloc ?_ _) | (with_reducible apply box_set) | ((with_reducible refine box_far ?_ ?_ _); rotate_left 1; focus (first | omega | (simp; done) | (simp; omega))) | (with_reducible refine box_drew ?_))) hb
    try simp only [List.setIfInBounds_toArray, List.set_cons_zero, List.set_cons_succ] at HXD1
    have HXR1 : Hid (w1.heap[w.heap.size + 1]? = some (.cells _ _ (0, 0))) := box_keep (by repeat (first | ((with_reducible refine heap_new_at _ ?_); focus (first | rfl | (simp; done))) | (with_reducible refine box_alloc ?_ _) | (with_reducible apply box_set) | ((with_reducible refine box_far ?_ ?_ _); rotate_left 1; focus (first | omega | (simp; done) | (simp; omega))) | (with_reducible refine box_drew ?_))) hb
    try simp only [List.setIfInBounds_toArray, List.set_cons_zero, List.set_cons_succ] at HXR1
    obtain ⟨xD, yD⟩ := box_rules HXD1.out
    have lD1 := box_lt HXD1.out
    obtain ⟨xR, yR⟩ := box_rules HXR1.out
    have lR1 := box_lt HXR1.out
    have HB1 : Hid (Below w.heap.size w w1) := Below.trans (by repeat (first | (with_reducible exact Below.refl _ _) | (with_reducible refine Below.setCell ?_ leD _) | (with_reducible refine Below.setCell ?_ leR _) | (with_reducible refine Below.drew ?_) | (with_reducible refine bdrewN ?_ _) | ((with_reducible refine Below.alloc ?_ ?_ _); rotate_left 1; focus (first | omega | (simp; done) | (simp; omega))))) (hb.mono (by first | omega | (simp; done) | (simp; omega) | (simp [World.setCell]; omega)))
    have s1 : w.heap.size ≤ w1.heap.size := HB1.out.size
    have RP : Hid (Rd w1 qA (d.prio.map (.int .i64))) := own_rd HM.out.prio
    have NP : Hid (∀ a, qA = some a → w.heap.size ≤ a.block) := fun a ha => by have := HM.out.pb a ha; simp at this; omega
    have QPD : Hid (∀ a, qA = some a → a.block ≠ w.heap.size) := fun a ha e => by have := HM.out.pb a ha; simp at this; omega
    have QPR : Hid (∀ a, qA = some a → a.block ≠ w.heap.size + 1) := fun a ha e => by have := HM.out.pb a ha; simp at this; omega
    have RS : Hid (Rd w1 tA (d.stack.map (.int .i64))) := own_rd HM.out.stack
    have NS : Hid (∀ a, tA = some a → w.heap.size ≤ a.block) := fun a ha => by have := HM.out.sb a ha; simp at this; omega
    have QSD : Hid (∀ a, tA = some a → a.block ≠ w.heap.size) := fun a ha e => by have := HM.out.sb a ha; simp at this; omega
    have QSR : Hid (∀ a, tA = some a → a.block ≠ w.heap.size + 1) := fun a ha e => by have := HM.out.sb a ha; simp at this; omega
    clear hb
    go_upto_region 2 with (fail)
    refine name_world fun W hW => ?_
    have HXD4 : Hid (W.heap[w.heap.size]? = some (.cells _ _ (0, 0))) := Lib.hid (by rw [hW]; repeat (first | (with_reducible exact HXD1.out) | ((with_reducible refine heap_new_at _ ?_); focus (first | rfl | (simp; done))) | (with_reducible refine box_alloc ?_ _) | (with_reducible apply box_set) | ((with_reducible refine box_far ?_ ?_ _); rotate_left 1; focus (first | omega | (simp; done) | (simp; omega))) | (with_reducible refine box_drew ?_)))
    try simp only [List.setIfInBounds_toArray, List.set_cons_zero, List.set_cons_succ] at HXD4
    have HXR4 : Hid (W.heap[w.heap.size + 1]? = some (.cells _ _ (0, 0))) := Lib.hid (by rw [hW]; repeat (first | (with_reducible exact HXR1.out) | ((with_reducible refine heap_new_at _ ?_); focus (first | rfl | (simp; done))) | (with_reducible refine box_alloc ?_ _) | (with_reducible apply box_set) | ((with_reducible refine box_far ?_ ?_ _); rotate_left 1; focus (first | omega | (simp; done) | (simp; omega))) | (with_reducible refine box_drew ?_)))
    try simp only [List.setIfInBounds_toArray, List.set_cons_zero, List.set_cons_succ] at HXR4
    have RP4 : Hid (Rd W qA (d.prio.map (.int .i64))) := Lib.hid (by rw [hW]; repeat (with_reducible first | exact RP.out | refine Rd.set ?_ QPD.out _ | refine Rd.set ?_ QPR.out _ | refine Rd.drew ?_ | refine Rd.alloc ?_ _))
    clear RP
    have RS4 : Hid (Rd W tA (d.stack.map (.int .i64))) := Lib.hid (by rw [hW]; repeat (with_reducible first | exact RS.out | refine Rd.set ?_ QSD.out _ | refine Rd.set ?_ QSR.out _ | refine Rd.drew ?_ | refine Rd.alloc ?_ _))
    clear RS
    have HB4 : Hid (Below w.heap.size w W) := Lib.hid (by rw [hW]; repeat (first | (with_reducible exact HB1.out) | (with_reducible refine Below.setCell ?_ leD _) | (with_reducible refine Below.setCell ?_ leR _) | (with_reducible refine Below.drew ?_) | (with_reducible refine bdrewN ?_ _) | ((with_reducible refine Below.alloc ?_ ?_ _); rotate_left 1; focus (first | omega | (simp; done) | (simp; omega)))))
    clear HB1
    clear hW
    have s4 : w.heap.size ≤ W.heap.size := HB4.out.size
    clear xD yD HXD1
    obtain ⟨xD, yD⟩ := box_rules HXD4.out
    have lD4 := box_lt HXD4.out
    clear xR yR HXR1
    obtain ⟨xR, yR⟩ := box_rules HXR4.out
    have lR4 := box_lt HXR4.out
    by_cases hst : d.stack = []
    · have HR2 : Hid (d.three d.endF = (d, 0, 7)) := by show _ = _; rw [HR.out]; unfold IC.endF; rw [if_pos hst]
      have hm : d.stack.length = 0 := by rw [hst]; rfl
      have Hm := Lib.hid hm
      rw [hm] at xD
      clear hst hm HR
      go_wp2_with fail
      refine bodyPost_ret (v := .tuple #[icv d qA qc tA tc, .int .i64 0, .int .i64 7]) (by simp [results, icv, Tryd.f15, go_sem, xR, Hm.out]) rfl ?_
      rw [HR2.out]
      refine ⟨qA, qc, tA, tc, rfl, ?_, ?_, ?_, ⟨NP.out, NS.out⟩⟩
      · show Rd _ _ (d.prio.map (.int .i64))
        repeat (with_reducible first | exact RP4.out | refine Rd.set ?_ QPD.out _ | refine Rd.set ?_ QPR.out _ | refine Rd.drew ?_ | refine Rd.alloc ?_ _)
      · show Rd _ _ (d.stack.map (.int .i64))
        repeat (with_reducible first | exact RS4.out | refine Rd.set ?_ QSD.out _ | refine Rd.set ?_ QSR.out _ | refine Rd.drew ?_ | refine Rd.alloc ?_ _)
      · repeat (first | (with_reducible exact HB4.out) | (with_reducible refine Below.setCell ?_ leD _) | (with_reducible refine Below.setCell ?_ leR _) | (with_reducible refine Below.drew ?_) | (with_reducible refine bdrewN ?_ _) | ((with_reducible refine Below.alloc ?_ ?_ _); rotate_left 1; focus (first | omega | (simp; done) | (simp; omega))))
    · obtain ⟨m, hm⟩ : ∃ m, d.stack.length = m + 1 := ⟨d.stack.length - 1, by have := List.length_pos_iff.2 hst; omega⟩
      have hgd := hk.stack m (by omega)
      obtain ⟨n, hn⟩ := Int.eq_ofNat_of_zero_le hgd.1
      have hn64 : n < 64 := by have := hk.len2; have := hgd.2.1; omega
      have f2 := Lib.hid (fun w => has_any d.r n w hf.r)
      have f3 := Lib.hid (fun w => with_any d.p hf.p n hn64 true w)
      rw [hasB_nat] at f2
      have HR2 : Hid (d.three d.endF = ({ d with p := if d.r.testBit n = true then setB d.p n true else d.p, stack := d.stack.dropLast }, (n : Int), 0)) := by
        show _ = _
        rw [HR.out]; unfold IC.endF; rw [if_neg hst, hm, Nat.add_sub_cancel, hn]; rfl
      obtain ⟨ba, hba, c1⟩ := RS4.out.int (i := m) (by omega)
      subst hba
      obtain ⟨⟨g, hg⟩, hcap⟩ := own_at HM.out.stack
      subst hg
      rw [add_zero_lit, Nat.zero_add] at c1
      change W.cell? _ = some (.int .i64 (d.st m)) at c1
      rw [hn] at c1
      rw [hm] at xD
      have Hm : Hid (d.stack.dropLast.length = m) := by show _ = _; rw [List.length_dropLast, hm]; rfl
      have Hm1 := Lib.hid hm
      have hsz := hf.stack
      have hg0 := HM.out.sb _ rfl
      generalize d.r.testBit n = tr at *
      clear hst HR hgd hn hk
      rw [hm] at hsz hcap
      clear hm
      have HT : Hid (∀ W' , Rd W' (some ⟨g, 0, none⟩) (d.stack.map (.int .i64)) → Rd W' (some ⟨g, 0, none⟩) (d.stack.dropLast.map (.int .i64))) := fun W' h => by
        have h := h.take m; rw [← List.map_take] at h; rw [List.dropLast_eq_take, Hm1.out]; exact h
      go_wp2_with fail
      refine (f2.out _).mono ?_
      rintro e w' ⟨rfl, rfl⟩
      cases tr with
      | true =>
        go_wp2_with fail
        refine (f3.out _).mono ?_
        rintro e w2 ⟨rfl, hb⟩
        have HXD5 : Hid (w2.heap[w.heap.size]? = some (.cells _ _ (0, 0))) := box_keep (by repeat (first | (with_reducible exact HXD4.out) | ((with_reducible refine heap_new_at _ ?_); focus (first | rfl | (simp; done))) | (with_reducible refine box_alloc ?_ _) | (with_reducible apply box_set) | ((with_reducible refine box_far ?_ ?_ _); rotate_left 1; focus (first | omega | (simp; done) | (simp; omega))) | (with_reducible refine box_drew ?_))) hb
        try simp only [List.setIfInBounds_toArray, List.set_cons_zero, List.set_cons_succ] at HXD5
        have HXR5 : Hid (w2.heap[w.heap.size + 1]? = some (.cells _ _ (0, 0))) := box_keep (by repeat (first | (with_reducible exact HXR4.out) | ((with_reducible refine heap_new_at _ ?_); focus (first | rfl | (simp; done))) | (with_reducible refine box_alloc ?_ _) | (with_reducible apply box_set) | ((with_reducible refine box_far ?_ ?_ _); rotate_left 1; focus (first | omega | (simp; done) | (simp; omega))) | (with_reducible refine box_drew ?_))) hb
        try simp only [List.setIfInBounds_toArray, List.set_cons_zero, List.set_cons_succ] at HXR5
        clear xD yD
        clear xR yR
        obtain ⟨xD, yD⟩ := box_rules HXD5.out
        have lD5 := box_lt HXD5.out
        clear HXD4
        obtain ⟨xR, yR⟩ := box_rules HXR5.out
        have lR5 := box_lt HXR5.out
        clear HXR4
        have RP5 : Hid (Rd w2 qA (d.prio.map (.int .i64))) := Rd.below (by repeat (with_reducible first | exact RP4.out | refine Rd.set ?_ QPD.out _ | refine Rd.set ?_ QPR.out _ | refine Rd.drew ?_ | refine Rd.alloc ?_ _)) hb
        clear RP4
        have RS5 : Hid (Rd w2 (some ⟨g, 0, none⟩) (d.stack.map (.int .i64))) := Rd.below (by repeat (with_reducible first | exact RS4.out | refine Rd.set ?_ QSD.out _ | refine Rd.set ?_ QSR.out _ | refine Rd.drew ?_ | refine Rd.alloc ?_ _)) hb
        clear RS4
        have HB5 : Hid (Below w.heap.size w w2) := Below.trans (by repeat (first | (with_reducible exact HB4.out) | (with_reducible refine Below.setCell ?_ leD _) | (with_reducible refine Below.setCell ?_ leR _) | (with_reducible refine Below.drew ?_) | (with_reducible refine bdrewN ?_ _) | ((with_reducible refine Below.alloc ?_ ?_ _); rotate_left 1; focus (first | omega | (simp; done) | (simp; omega))))) (hb.mono (by first | omega | (simp; done) | (simp; omega) | (simp [World.setCell]; omega)))
        clear HB4
        have s5 : w.heap.size ≤ w2.heap.size := HB5.out.size
        clear hb
        go_wp2_with fail
        have HR3 : Hid (d.three d.endF = ({ d with p := setB d.p n true, stack := d.stack.dropLast }, (n : Int), 0)) := by show _ = _; rw [HR2.out]; simp
        refine bodyPost_ret (v := .tuple #[icv { d with p := setB d.p n true, stack := d.stack.dropLast } qA qc (some ⟨g, 0, none⟩) tc, .int .i64 n, .int .i64 0]) (by simp [results, icv, Tryd.f15, go_sem, xR, Hm.out, Hm1.out]) rfl ?_
        rw [HR3.out]
        refine ⟨qA, qc, some ⟨g, 0, none⟩, tc, rfl, ?_, ?_, ?_, ⟨NP.out, NS.out⟩⟩
        · show Rd _ _ (d.prio.map (.int .i64))
          repeat (with_reducible first | exact RP5.out | refine Rd.set ?_ QPD.out _ | refine Rd.set ?_ QPR.out _ | refine Rd.drew ?_ | refine Rd.alloc ?_ _)
        · refine HT.out _ ?_
          repeat (with_reducible first | exact RS5.out | refine Rd.set ?_ QSD.out _ | refine Rd.set ?_ QSR.out _ | refine Rd.drew ?_ | refine Rd.alloc ?_ _)
        · repeat (first | (with_reducible exact HB5.out) | (with_reducible refine Below.setCell ?_ leD _) | (with_reducible refine Below.setCell ?_ leR _) | (with_reducible refine Below.drew ?_) | (with_reducible refine bdrewN ?_ _) | ((with_reducible refine Below.alloc ?_ ?_ _); rotate_left 1; focus (first | omega | (simp; done) | (simp; omega))))
      | false =>
        go_wp2_with fail
        have HR3 : Hid (d.three d.endF = ({ d with stack := d.stack.dropLast }, (n : Int), 0)) := by show _ = _; rw [HR2.out]; simp
        refine bodyPost_ret (v := .tuple #[icv { d with stack := d.stack.dropLast } qA qc (some ⟨g, 0, none⟩) tc, .int .i64 n, .int .i64 0]) (by simp [results, icv, Tryd.f15, go_sem, xR, Hm.out, Hm1.out]) rfl ?_
        rw [HR3.out]
        refine ⟨qA, qc, some ⟨g, 0, none⟩, tc, rfl, ?_, ?_, ?_, ⟨NP.out, NS.out⟩⟩
        · show Rd _ _ (d.prio.map (.int .i64))
          repeat (with_reducible first | exact RP4.out | refine Rd.set ?_ QPD.out _ | refine Rd.set ?_ QPR.out _ | refine Rd.drew ?_ | refine Rd.alloc ?_ _)
        · refine HT.out _ ?_
          repeat (with_reducible first | exact RS4.out | refine Rd.set ?_ QSD.out _ | refine Rd.set ?_ QSR.out _ | refine Rd.drew ?_ | refine Rd.alloc ?_ _)
        · repeat (first | (with_reducible exact HB4.out) | (with_reducible refine Below.setCell ?_ leD _) | (with_reducible refine Below.setCell ?_ leR _) | (with_reducible refine Below.drew ?_) | (with_reducible refine bdrewN ?_ _) | ((with_reducible refine Below.alloc ?_ ?_ _); rotate_left 1; focus (first | omega | (simp; done) | (simp; omega))))
  · have f1 := Lib.hid (fun w hp hs => bad_bad d hf pA pc sA sc 0 w hp hs hk)
    have HR := Lib.hid (IC.three_bad hk d.endF)
    have Hp := Lib.hid hp; clear hp
    have Hs := Lib.hid hs; clear hs
    unfold icv at *
    go_enter Tryd.func15, Tryd.ntmps15
    have leD : w.heap.size ≤ w.heap.size := by omega
    have leR : w.heap.size ≤ w.heap.size + 1 := by omega
    go_wp2_with fail
    refine (f1.out _ ((Hp.out.alloc _).alloc _) ((Hs.out.alloc _).alloc _)).mono ?_
    rintro e w1 ⟨rfl, hb⟩
    have HXD1 : Hid (w1.heap[w.heap.size]? = some (.cells _ _ (0, 0))) := box_keep (by repeat (first | ((with_reducible refine heap_new_at _ ?_); focus (first | rfl | (simp; done))) | (with_reducible refine box_alloc ?_ _) | (with_reducible apply box_set) | ((with_reducible refine box_far ?_ ?_ _); rotate_left 1; focus (first | omega | (simp; done) | (simp; omega))) | (with_reducible refine box_drew ?_))) hb
    try simp only [List.setIfInBounds_toArray, List.set_cons_zero, List.set_cons_succ] at HXD1
    have HXR1 : Hid (w1.heap[w.heap.size + 1]? = some (.cells _ _ (0, 0))) := box_keep (by repeat (first | ((with_reducible refine heap_new_at _ ?_); focus (first | rfl | (simp; done))) | (with_reducible refine box_alloc ?_ _) | (with_reducible apply box_set) | ((with_reducible refine box_far ?_ ?_ _); rotate_left 1; focus (first | omega | (simp; done) | (simp; omega))) | (with_reducible refine box_drew ?_))) hb
    try simp only [List.setIfInBounds_toArray, List.set_cons_zero, List.set_cons_succ] at HXR1
    obtain ⟨xD, yD⟩ := box_rules HXD1.out
    have lD1 := box_lt HXD1.out
    obtain ⟨xR, yR⟩ := box_rules HXR1.out
    have lR1 := box_lt HXR1.out
    have HB1 : Hid (Below w.heap.size w w1) := Below.trans (by repeat (first | (with_reducible exact Below.refl _ _) | (with_reducible refine Below.setCell ?_ leD _) | (with_reducible refine Below.setCell ?_ leR _) | (with_reducible refine Below.drew ?_) | (with_reducible refine bdrewN ?_ _) | ((with_reducible refine Below.alloc ?_ ?_ _); rotate_left 1; focus (first | omega | (simp; done) | (simp; omega))))) (hb.mono (by first | omega | (simp; done) | (simp; omega) | (simp [World.setCell]; omega)))
    have s1 : w.heap.size ≤ w1.heap.size := HB1.out.size
    clear hb
    simp only [IC.zero]
    go_wp2_with fail
    refine bodyPost_ret (v := .tuple #[icv IC.zero none 0 none 0, .int .i64 0, .int .i64 2]) (by simp [results, icv, IC.zero, Tryd.f15, go_sem, xR]) rfl ?_
    rw [HR.out]
    refine ⟨none, 0, none, 0, rfl, Rd.nil _ _, Rd.nil _ _, ?_, New.none _⟩
    repeat (first | (with_reducible exact HB1.out) | (with_reducible refine Below.setCell ?_ leD _) | (with_reducible refine Below.setCell ?_ leR _) | (with_reducible refine Below.drew ?_) | (with_reducible refine bdrewN ?_ _) | ((with_reducible refine Below.alloc ?_ ?_ _); rotate_left 1; focus (first | omega | (simp; done) | (simp; omega))))
end
end Go.Proofs.YtbhjkfeonhddlaaDoor

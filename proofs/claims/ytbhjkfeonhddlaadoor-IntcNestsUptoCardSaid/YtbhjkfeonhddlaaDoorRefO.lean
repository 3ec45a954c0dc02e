/- vergeref06: the walk of Make. Conditions: a word below 2^64, a list that reads. -/
import Derived.Test.YtbhjkfeonhddlaaDoorRefN
namespace Go.Proofs.YtbhjkfeonhddlaaDoor
open Go.RowKit Go.Shelf

set_option maxHeartbeats 2000000 in
theorem rmake_any (g : Nat) (hg : g < 18446744073709551616) (l : List Int) (hl : l.length ≤ 549755813888) (A : Option Addr) (c : Nat) (w : World) (hr : Rd w A (l.map (.int .i64))) :
    Calls Tryd.prog 31 #[.int .u64 g, .slice A l.length c] w (RetI (makeC g l) w) := by
  have f1 := Lib.hid (fun w => rbetween_any 0 ((l.length : Int) - 1) w)
  have f3 := Lib.hid (fun A c w hp => rcheck_any (freshC g l) (freshC_fits hg hl) A c none 0 w hp (Rd.nil w none))
  have f4 := Lib.hid (fun A c w hp => copy_any (freshC g l) (freshC_fits hg hl) A c none 0 w hp (Rd.nil w none))
  have HE : Hid (icv (freshC g l) = fun A c A' c' => .agg #[.int .u64 0, .int .u64 ((mk fun i => decide (i < l.length) : Nat) : Int), .int .u64 0, .int .u64 g, .slice A l.length c, .int .i64 0, .slice A' 0 c']) := rfl
  have hm : (mk fun i => decide ((0 : Int) ≤ i) && decide ((i : Int) ≤ (l.length : Int) - 1)) = mk fun i => decide (i < l.length) := by
    apply mk_congr
    intro i _
    rw [Bool.eq_iff_iff]
    simp
    omega
  rw [hm] at f1
  clear hm
  generalize he : (mk fun i => decide (i < l.length)) = e at *
  have He := Lib.hid he; clear he
  rw [HE.out] at f3 f4
  have Hr := Lib.hid hr; clear hr
  go_enter Tryd.func31, Tryd.ntmps31
  have leR : w.heap.size ≤ w.heap.size := by omega
  go_wp2_with fail
  refine (f1.out _).mono ?_
  rintro e' w' ⟨rfl, rfl⟩
  have leD : w.heap.size ≤ w.heap.size + 1 := by omega
  go_wp2_with fail
  refine (f3.out A c _ ?_).mono ?_
  · exact Rd.below Hr.out (by repeat (first | (with_reducible exact Below.refl _ _) | (with_reducible refine Below.setCell ?_ leR _) | (with_reducible refine Below.setCell ?_ leD _) | (with_reducible refine Below.drew ?_) | (with_reducible refine bdrewN ?_ _) | ((with_reducible refine Below.alloc ?_ ?_ _); rotate_left 1; focus (first | omega | (simp; done) | (simp; omega)))))
  rintro e' w1 ⟨⟨z, rfl, hz⟩, hb⟩
  have HXR1 : Hid (w1.heap[w.heap.size]? = some (.cells _ _ (0, 0))) := box_keep (by repeat (first | ((with_reducible refine heap_new_at _ ?_); focus (first | rfl | (simp; done))) | (with_reducible refine box_alloc ?_ _) | (with_reducible apply box_set) | ((with_reducible refine box_far ?_ ?_ _); rotate_left 1; focus (first | omega | (simp; done) | (simp; omega))) | (with_reducible refine box_drew ?_))) hb
  try simp only [List.setIfInBounds_toArray, List.set_cons_zero, List.set_cons_succ] at HXR1
  have HXD1 : Hid (w1.heap[w.heap.size + 1]? = some (.cells _ _ (0, 0))) := box_keep (by repeat (first | ((with_reducible refine heap_new_at _ ?_); focus (first | rfl | (simp; done))) | (with_reducible refine box_alloc ?_ _) | (with_reducible apply box_set) | ((with_reducible refine box_far ?_ ?_ _); rotate_left 1; focus (first | omega | (simp; done) | (simp; omega))) | (with_reducible refine box_drew ?_))) hb
  try simp only [List.setIfInBounds_toArray, List.set_cons_zero, List.set_cons_succ] at HXD1
  obtain ⟨xR, yR⟩ := box_rules HXR1.out
  have lR1 := box_lt HXR1.out
  obtain ⟨xD, yD⟩ := box_rules HXD1.out
  have lD1 := box_lt HXD1.out
  have HB1 : Hid (Below w.heap.size w w1) := Below.trans (by repeat (first | (with_reducible exact Below.refl _ _) | (with_reducible refine Below.setCell ?_ leR _) | (with_reducible refine Below.setCell ?_ leD _) | (with_reducible refine Below.drew ?_) | (with_reducible refine bdrewN ?_ _) | ((with_reducible refine Below.alloc ?_ ?_ _); rotate_left 1; focus (first | omega | (simp; done) | (simp; omega))))) (hb.mono (by first | omega | (simp; done) | (simp; omega) | (simp [World.setCell]; omega)))
  have s1 : w.heap.size ≤ w1.heap.size := HB1.out.size
  clear hb
  rcases hz with ⟨hk, rfl⟩ | ⟨hk, rfl⟩
  · have HR := Lib.hid (makeC_ok hk)
    clear hk
    go_wp2_with fail
    refine (f4.out A c _ ?_).mono ?_
    · exact Rd.below Hr.out (by repeat (first | (with_reducible exact HB1.out) | (with_reducible refine Below.setCell ?_ leR _) | (with_reducible refine Below.setCell ?_ leD _) | (with_reducible refine Below.drew ?_) | (with_reducible refine bdrewN ?_ _) | ((with_reducible refine Below.alloc ?_ ?_ _); rotate_left 1; focus (first | omega | (simp; done) | (simp; omega)))))
    rintro e' w2 ⟨qA, qc, tA, tc, rfl, hM, hb⟩
    rw [HE.out]
    have HM := Lib.hid hM
    clear hM
    have HXR2 : Hid (w2.heap[w.heap.size]? = some (.cells _ _ (0, 0))) := box_keep (by repeat (first | (with_reducible exact HXR1.out) | ((with_reducible refine heap_new_at _ ?_); focus (first | rfl | (simp; done))) | (with_reducible refine box_alloc ?_ _) | (with_reducible apply box_set) | ((with_reducible refine box_far ?_ ?_ _); rotate_left 1; focus (first | omega | (simp; done) | (simp; omega))) | (with_reducible refine box_drew ?_))) hb
    try simp only [List.setIfInBounds_toArray, List.set_cons_zero, List.set_cons_succ] at HXR2
    have HXD2 : Hid (w2.heap[w.heap.size + 1]? = some (.cells _ _ (0, 0))) := box_keep (by repeat (first | (with_reducible exact HXD1.out) | ((with_reducible refine heap_new_at _ ?_); focus (first | rfl | (simp; done))) | (with_reducible refine box_alloc ?_ _) | (with_reducible apply box_set) | ((with_reducible refine box_far ?_ ?_ _); rotate_left 1; focus (first | omega | (simp; done) | (simp; omega))) | (with_reducible refine box_drew ?_))) hb
    try simp only [List.setIfInBounds_toArray, List.set_cons_zero, List.set_cons_succ] at HXD2
    clear xR yR
    clear xD yD
    obtain ⟨xR, yR⟩ := box_rules HXR2.out
    have lR2 := box_lt HXR2.out
    clear HXR1
    obtain ⟨xD, yD⟩ := box_rules HXD2.out
    have lD2 := box_lt HXD2.out
    clear HXD1
    have HB2 : Hid (Below w.heap.size w w2) := Below.trans (by repeat (first | (with_reducible exact HB1.out) | (with_reducible refine Below.setCell ?_ leR _) | (with_reducible refine Below.setCell ?_ leD _) | (with_reducible refine Below.drew ?_) | (with_reducible refine bdrewN ?_ _) | ((with_reducible refine Below.alloc ?_ ?_ _); rotate_left 1; focus (first | omega | (simp; done) | (simp; omega))))) (hb.mono (by first | omega | (simp; done) | (simp; omega) | (simp [World.setCell]; omega)))
    clear HB1
    have s2 : w.heap.size ≤ w2.heap.size := HB2.out.size
    have z2 : w1.heap.size ≤ w2.heap.size := by have := hb.size; (try simp at this); omega
    have RP : Hid (Rd w2 qA (l.map (.int .i64))) := own_rd HM.out.prio
    have NP : Hid (∀ a, qA = some a → w.heap.size ≤ a.block) := fun a ha => by have := HM.out.pb a ha; (try simp at this); omega
    have QPR : Hid (∀ a, qA = some a → a.block ≠ w.heap.size) := fun a ha e => by have := HM.out.pb a ha; (try simp at this); omega
    have QPD : Hid (∀ a, qA = some a → a.block ≠ w.heap.size + 1) := fun a ha e => by have := HM.out.pb a ha; (try simp at this); omega
    have RS : Hid (Rd w2 tA ([])) := Rd.nil _ _
    have NS : Hid (∀ a, tA = some a → w.heap.size ≤ a.block) := fun a ha => by have := HM.out.sb a ha; (try simp at this); omega
    have QSR : Hid (∀ a, tA = some a → a.block ≠ w.heap.size) := fun a ha e => by have := HM.out.sb a ha; (try simp at this); omega
    have QSD : Hid (∀ a, tA = some a → a.block ≠ w.heap.size + 1) := fun a ha e => by have := HM.out.sb a ha; (try simp at this); omega
    clear hb
    go_wp2_with fail
    refine bodyPost_ret (v := .tuple #[icv (freshC g l) qA qc tA tc, .int .i64 0]) (by rw [HE.out]; simp [results, Tryd.f31, go_sem, xR]) rfl ?_
    rw [HR.out]
    refine ⟨qA, qc, tA, tc, rfl, ?_, Rd.nil _ _, ?_, ⟨NP.out, NS.out⟩⟩
    · show Rd _ _ (l.map (.int .i64))
      repeat (with_reducible first | exact RP.out | refine Rd.set ?_ QPR.out _ | refine Rd.set ?_ QPD.out _ | refine Rd.drew ?_)
    · repeat (first | (with_reducible exact HB2.out) | (with_reducible refine Below.setCell ?_ leR _) | (with_reducible refine Below.setCell ?_ leD _) | (with_reducible refine Below.drew ?_) | (with_reducible refine bdrewN ?_ _) | ((with_reducible refine Below.alloc ?_ ?_ _); rotate_left 1; focus (first | omega | (simp; done) | (simp; omega))))
  · have HR := Lib.hid (makeC_bad hk)
    clear hk
    go_wp2_with fail
    refine bodyPost_ret (v := .tuple #[icv IC.zero none 0 none 0, .int .i64 2]) (by simp [results, icv, IC.zero, Tryd.f31, go_sem, xR]) rfl ?_
    rw [HR.out]
    refine ⟨none, 0, none, 0, rfl, Rd.nil _ _, Rd.nil _ _, ?_, New.none _⟩
    repeat (first | (with_reducible exact HB1.out) | (with_reducible refine Below.setCell ?_ leR _) | (with_reducible refine Below.setCell ?_ leD _) | (with_reducible refine Below.drew ?_) | (with_reducible refine bdrewN ?_ _) | ((with_reducible refine Below.alloc ?_ ?_ _); rotate_left 1; focus (first | omega | (simp; done) | (simp; omega))))
end Go.Proofs.YtbhjkfeonhddlaaDoor

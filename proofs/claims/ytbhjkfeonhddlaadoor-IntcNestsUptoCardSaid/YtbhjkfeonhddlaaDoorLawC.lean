/- vergelaw06: the walks of IntcServes and IntcTurns. Conditions: words below 2^64, lists that read, the de Bruijn table as its initialiser lays it. -/
import Derived.Test.YtbhjkfeonhddlaaDoorLawB
namespace Go.Proofs.YtbhjkfeonhddlaaDoor
open Go.RowKit Go.Shelf

theorem IC.zero_fits : IC.zero.Fits := ⟨by decide, by decide, by decide, by decide, by decide, by decide⟩
theorem IC.Fits.len2 {d : IC} (hk : d.ok) : d.prio.length ≤ 549755813888 := by have := hk.len2; omega
theorem fits_ack {d : IC} (hf : d.Fits) (hs : d.stack.length < 549755813888) : (d.three d.ackF).1.Fits := by
  by_cases hk : d.ok
  · rw [IC.three_ok hk]
    unfold IC.ackF
    split
    · exact hf
    · exact ⟨setB_lt _ _ _, hf.e, hf.r, hf.g, hf.prio, by show (d.stack ++ [_]).length ≤ _; rw [List.length_append]; simp; omega⟩
  · rw [IC.three_bad hk]; exact IC.zero_fits
theorem fits_end {d : IC} (hf : d.Fits) : (d.three d.endF).1.Fits := by
  by_cases hk : d.ok
  · rw [IC.three_ok hk]
    unfold IC.endF
    split
    · exact hf
    · refine ⟨?_, hf.e, hf.r, hf.g, hf.prio, by show d.stack.dropLast.length ≤ _; rw [List.length_dropLast]; have := hf.stack; omega⟩
      show (if _ then _ else _) < _
      split
      · exact setB_lt _ _ _
      · exact hf.p
  · rw [IC.three_bad hk]; exact IC.zero_fits
theorem stack_len {d : IC} (hk : d.ok) : d.stack.length ≤ 15 := by
  have h : ∀ i, i < d.stack.length → (i : Int) + 1 ≤ d.pr (d.st i) := by
    intro i
    induction i with
    | zero =>
      intro hi
      obtain ⟨g1, g2, g3⟩ := hk.stack 0 hi
      have : (0 : Int) < d.pr (d.st 0) := g3
      omega
    | succ i ih =>
      intro hi
      obtain ⟨g1, g2, g3⟩ := hk.stack (i + 1) hi
      have := ih (by omega)
      have : d.pr (d.st i) < d.pr (d.st (i + 1)) := g3
      omega
  by_cases h0 : d.stack.length = 0
  · omega
  · have h1 := h (d.stack.length - 1) (by omega)
    obtain ⟨g1, g2, g3⟩ := hk.stack (d.stack.length - 1) (by omega)
    obtain ⟨n, hn⟩ := Int.eq_ofNat_of_zero_le g1
    have h2 := hk.prio n (by omega)
    rw [hn] at h1
    have e : d.pr (n : Int) = d.prio.getD n 0 := rfl
    rw [e] at h1
    unfold oddP at h2
    generalize d.prio.getD n 0 = q at *
    simp at h2
    omega
theorem fits_ack' {d : IC} (hf : d.Fits) : (d.three d.ackF).1.Fits := by
  by_cases hk : d.ok
  · exact fits_ack hf (by have := stack_len hk; omega)
  · rw [IC.three_bad hk]; exact IC.zero_fits

set_option maxRecDepth 100000 in
set_option maxHeartbeats 8000000 in
theorem serves_any (d : IC) (hf : d.Fits) (pA : Option Addr) (pc : Nat) (sA : Option Addr) (sc : Nat) (w : World) (hp : Rd w pA (d.prio.map (.int .i64))) (hs : Rd w sA (d.stack.map (.int .i64))) (hT : Tab w) :
    Calls Tryd.prog 3 #[icv d pA pc sA sc] w fun e w' => e = .returned (.bool true) ∧ Below w.heap.size w w' := by
  have f0 := Lib.hid (fun w hT => lives_any w hT)
  have f1 := Lib.hid (fun w hp hs => copy_any d hf pA pc sA sc w hp hs)
  have f2 := Lib.hid (fun pA pc sA sc w hp hs => levelC_any d hf pA pc sA sc w hp hs)
  have f2' := Lib.hid (fun pA pc sA sc w hp hs => rlevelC_any d hf pA pc sA sc w hp hs)
  have f3 := Lib.hid (fun pA pc sA sc w hp hs hT => nextC_any d hf pA pc sA sc w hp hs hT)
  have f3' := Lib.hid (fun pA pc sA sc w hp hs => rnextC_any d hf pA pc sA sc w hp hs)
  have f4 := Lib.hid (fun pA pc sA sc w hp hs hT => ack_any d hf pA pc sA sc w hp hs hT)
  have f4' := Lib.hid (fun pA pc sA sc w hp hs => rack_any d hf pA pc sA sc w hp hs)
  have f5 := Lib.hid (fun pA pc sA sc w hp hs => end_any d hf pA pc sA sc w hp hs)
  have f5' := Lib.hid (fun pA pc sA sc w hp hs => rend_any d hf pA pc sA sc w hp hs)
  have sm0 := Lib.hid (fun pA pc sA sc pB pd sB sd w hp hs hp2 hs2 => sameC_eq d hf pA pc sA sc pB pd sB sd w hp hs hp2 hs2)
  have sm4 := Lib.hid (fun pA pc sA sc pB pd sB sd w hp hs hp2 hs2 => sameC_eq (d.three d.ackF).1 (fits_ack' hf) pA pc sA sc pB pd sB sd w hp hs hp2 hs2)
  have sm5 := Lib.hid (fun pA pc sA sc pB pd sB sd w hp hs hp2 hs2 => sameC_eq (d.three d.endF).1 (fits_end hf) pA pc sA sc pB pd sB sd w hp hs hp2 hs2)
  generalize d.num (d.level, 0) = x2 at *
  generalize d.num d.nextF = x3 at *
  generalize d.three d.ackF = x4 at *
  generalize d.three d.endF = x5 at *
  have HT := Lib.hid hT
  have lT := hT.lt
  have Hp := Lib.hid hp
  have Hs := Lib.hid hs
  clear hT hp hs
  unfold icv RetN RetIN New at *
  go_enter Tryd.func3, Tryd.ntmps3
  have leC : w.heap.size ≤ w.heap.size := by omega
  go_wp2_with fail
  refine (f1.out _ ?_ ?_).mono ?_
  · exact Rd.below Hp.out (by repeat (first | (with_reducible exact Below.refl _ _) | (with_reducible refine Below.setCell ?_ leC _) | (with_reducible refine Below.drew ?_) | (with_reducible refine bdrewN ?_ _) | ((with_reducible refine Below.alloc ?_ ?_ _); rotate_left 1; focus (first | (simp; done) | (simp; omega) | omega))))
  · exact Rd.below Hs.out (by repeat (first | (with_reducible exact Below.refl _ _) | (with_reducible refine Below.setCell ?_ leC _) | (with_reducible refine Below.drew ?_) | (with_reducible refine bdrewN ?_ _) | ((with_reducible refine Below.alloc ?_ ?_ _); rotate_left 1; focus (first | (simp; done) | (simp; omega) | omega))))
  rintro e w1 ⟨qA, qc, tA, tc, rfl, hM, hb⟩
  unfold icv
  have HM := Lib.hid hM
  clear hM
  have HXC1 : Hid (w1.heap[w.heap.size]? = some (.cells _ _ (0, 0))) := box_keep (by repeat (first | ((with_reducible refine heap_new_at _ ?_); focus (first | (with_reducible rfl) | (simp; done))) | (with_reducible refine box_alloc ?_ _) | (with_reducible apply box_set) | ((with_reducible refine box_far ?_ ?_ _); rotate_left 1; focus (first | (simp; done) | (simp; omega) | omega)) | (with_reducible refine box_drew ?_) | (with_reducible refine box_drewN ?_ _))) hb
  try simp only [List.setIfInBounds_toArray, List.set_cons_zero, List.set_cons_succ] at HXC1
  obtain ⟨xC, yC⟩ := box_rules HXC1.out
  have lC1 := box_lt HXC1.out
  have HB1 : Hid (Below w.heap.size w w1) := Below.trans (by repeat (first | (with_reducible exact Below.refl _ _) | (with_reducible refine Below.setCell ?_ leC _) | (with_reducible refine Below.drew ?_) | (with_reducible refine bdrewN ?_ _) | ((with_reducible refine Below.alloc ?_ ?_ _); rotate_left 1; focus (first | (simp; done) | (simp; omega) | omega)))) (hb.mono (by first | (simp; done) | (simp; omega) | omega | (simp [World.setCell]; omega)))
  have s1 : w.heap.size ≤ w1.heap.size := HB1.out.size
  have RP1 : Hid (Rd w1 qA (d.prio.map (.int .i64))) := own_rd HM.out.prio
  have NP1 : Hid (∀ a, qA = some a → w.heap.size ≤ a.block) := fun a ha => by have := HM.out.pb a ha; (try simp at this); omega
  have QP1C : Hid (∀ a, qA = some a → a.block ≠ w.heap.size) := fun a ha e => by have := HM.out.pb a ha; (try simp at this); omega
  have RS1 : Hid (Rd w1 tA (d.stack.map (.int .i64))) := own_rd HM.out.stack
  have NS1 : Hid (∀ a, tA = some a → w.heap.size ≤ a.block) := fun a ha => by have := HM.out.sb a ha; (try simp at this); omega
  have QS1C : Hid (∀ a, tA = some a → a.block ≠ w.heap.size) := fun a ha e => by have := HM.out.sb a ha; (try simp at this); omega
  have leG : w.heap.size ≤ w1.heap.size := by omega
  clear hb
  go_wp2_with fail
  refine (f2.out qA qc tA tc _ ?_ ?_).mono ?_
  · repeat (with_reducible first | exact RP1.out | refine Rd.set ?_ QP1C.out _ | refine Rd.drew ?_ | refine Rd.drewN ?_ _ | refine Rd.alloc ?_ _)
  · repeat (with_reducible first | exact RS1.out | refine Rd.set ?_ QS1C.out _ | refine Rd.drew ?_ | refine Rd.drewN ?_ _ | refine Rd.alloc ?_ _)
  rintro e w2 ⟨rfl, hb⟩
  have HXC4 : Hid (w2.heap[w.heap.size]? = some (.cells _ _ (0, 0))) := box_keep (by repeat (first | (with_reducible exact HXC1.out) | ((with_reducible refine heap_new_at _ ?_); focus (first | (with_reducible rfl) | (simp; done))) | (with_reducible refine box_alloc ?_ _) | (with_reducible apply box_set) | ((with_reducible refine box_far ?_ ?_ _); rotate_left 1; focus (first | (simp; done) | (simp; omega) | omega)) | (with_reducible refine box_drew ?_) | (with_reducible refine box_drewN ?_ _))) hb
  try simp only [List.setIfInBounds_toArray, List.set_cons_zero, List.set_cons_succ] at HXC4
  have HXG4 : Hid (w2.heap[w1.heap.size]? = some (.cells _ _ (0, 0))) := box_keep (by repeat (first | ((with_reducible refine heap_new_at _ ?_); focus (first | (with_reducible rfl) | (simp; done))) | (with_reducible refine box_alloc ?_ _) | (with_reducible apply box_set) | ((with_reducible refine box_far ?_ ?_ _); rotate_left 1; focus (first | (simp; done) | (simp; omega) | omega)) | (with_reducible refine box_drew ?_) | (with_reducible refine box_drewN ?_ _))) hb
  try simp only [List.setIfInBounds_toArray, List.set_cons_zero, List.set_cons_succ] at HXG4
  clear xC yC
  obtain ⟨xC, yC⟩ := box_rules HXC4.out
  have lC4 := box_lt HXC4.out
  clear HXC1
  obtain ⟨xG, yG⟩ := box_rules HXG4.out
  have lG4 := box_lt HXG4.out
  have RP14 : Hid (Rd w2 qA (d.prio.map (.int .i64))) := Rd.below (by repeat (with_reducible first | exact RP1.out | refine Rd.set ?_ QP1C.out _ | refine Rd.drew ?_ | refine Rd.drewN ?_ _ | refine Rd.alloc ?_ _)) hb
  clear RP1
  have RS14 : Hid (Rd w2 tA (d.stack.map (.int .i64))) := Rd.below (by repeat (with_reducible first | exact RS1.out | refine Rd.set ?_ QS1C.out _ | refine Rd.drew ?_ | refine Rd.drewN ?_ _ | refine Rd.alloc ?_ _)) hb
  clear RS1
  have HB4 : Hid (Below w.heap.size w w2) := Below.trans (by repeat (first | (with_reducible exact HB1.out) | (with_reducible refine Below.setCell ?_ leC _) | (with_reducible refine Below.setCell ?_ leG _) | (with_reducible refine Below.drew ?_) | (with_reducible refine bdrewN ?_ _) | ((with_reducible refine Below.alloc ?_ ?_ _); rotate_left 1; focus (first | (simp; done) | (simp; omega) | omega)))) (hb.mono (by first | (simp; done) | (simp; omega) | omega | (simp [World.setCell]; omega)))
  clear HB1
  have s4 : w.heap.size ≤ w2.heap.size := HB4.out.size
  have z4 : w1.heap.size ≤ w2.heap.size := by have := hb.size; (try simp at this); omega
  clear hb
  go_wp2_with fail
  refine (f2'.out pA pc sA sc _ ?_ ?_).mono ?_
  · exact Rd.below Hp.out (by repeat (first | (with_reducible exact HB4.out) | (with_reducible refine Below.setCell ?_ leC _) | (with_reducible refine Below.setCell ?_ leG _) | (with_reducible refine Below.drew ?_) | (with_reducible refine bdrewN ?_ _) | ((with_reducible refine Below.alloc ?_ ?_ _); rotate_left 1; focus (first | (simp; done) | (simp; omega) | omega))))
  · exact Rd.below Hs.out (by repeat (first | (with_reducible exact HB4.out) | (with_reducible refine Below.setCell ?_ leC _) | (with_reducible refine Below.setCell ?_ leG _) | (with_reducible refine Below.drew ?_) | (with_reducible refine bdrewN ?_ _) | ((with_reducible refine Below.alloc ?_ ?_ _); rotate_left 1; focus (first | (simp; done) | (simp; omega) | omega))))
  rintro e w3 ⟨rfl, hb⟩
  have HXC5 : Hid (w3.heap[w.heap.size]? = some (.cells _ _ (0, 0))) := box_keep (by repeat (first | (with_reducible exact HXC4.out) | ((with_reducible refine heap_new_at _ ?_); focus (first | (with_reducible rfl) | (simp; done))) | (with_reducible refine box_alloc ?_ _) | (with_reducible apply box_set) | ((with_reducible refine box_far ?_ ?_ _); rotate_left 1; focus (first | (simp; done) | (simp; omega) | omega)) | (with_reducible refine box_drew ?_) | (with_reducible refine box_drewN ?_ _))) hb
  try simp only [List.setIfInBounds_toArray, List.set_cons_zero, List.set_cons_succ] at HXC5
  have HXG5 : Hid (w3.heap[w1.heap.size]? = some (.cells _ _ (0, 0))) := box_keep (by repeat (first | (with_reducible exact HXG4.out) | ((with_reducible refine heap_new_at _ ?_); focus (first | (with_reducible rfl) | (simp; done))) | (with_reducible refine box_alloc ?_ _) | (with_reducible apply box_set) | ((with_reducible refine box_far ?_ ?_ _); rotate_left 1; focus (first | (simp; done) | (simp; omega) | omega)) | (with_reducible refine box_drew ?_) | (with_reducible refine box_drewN ?_ _))) hb
  try simp only [List.setIfInBounds_toArray, List.set_cons_zero, List.set_cons_succ] at HXG5
  clear xC yC
  clear xG yG
  obtain ⟨xC, yC⟩ := box_rules HXC5.out
  have lC5 := box_lt HXC5.out
  clear HXC4
  obtain ⟨xG, yG⟩ := box_rules HXG5.out
  have lG5 := box_lt HXG5.out
  clear HXG4
  have RP15 : Hid (Rd w3 qA (d.prio.map (.int .i64))) := Rd.below (by repeat (with_reducible first | exact RP14.out | refine Rd.set ?_ QP1C.out _ | refine Rd.drew ?_ | refine Rd.drewN ?_ _ | refine Rd.alloc ?_ _)) hb
  clear RP14
  have RS15 : Hid (Rd w3 tA (d.stack.map (.int .i64))) := Rd.below (by repeat (with_reducible first | exact RS14.out | refine Rd.set ?_ QS1C.out _ | refine Rd.drew ?_ | refine Rd.drewN ?_ _ | refine Rd.alloc ?_ _)) hb
  clear RS14
  have HB5 : Hid (Below w.heap.size w w3) := Below.trans (by repeat (first | (with_reducible exact HB4.out) | (with_reducible refine Below.setCell ?_ leC _) | (with_reducible refine Below.setCell ?_ leG _) | (with_reducible refine Below.drew ?_) | (with_reducible refine bdrewN ?_ _) | ((with_reducible refine Below.alloc ?_ ?_ _); rotate_left 1; focus (first | (simp; done) | (simp; omega) | omega)))) (hb.mono (by first | (simp; done) | (simp; omega) | omega | (simp [World.setCell]; omega)))
  clear HB4
  have s5 : w.heap.size ≤ w3.heap.size := HB5.out.size
  have z5 : w2.heap.size ≤ w3.heap.size := by have := hb.size; (try simp at this); omega
  clear hb
  go_wp2_with fail
  refine (f3.out qA qc tA tc _ ?_ ?_ ?_).mono ?_
  · repeat (with_reducible first | exact RP15.out | refine Rd.set ?_ QP1C.out _ | refine Rd.drew ?_ | refine Rd.drewN ?_ _ | refine Rd.alloc ?_ _)
  · repeat (with_reducible first | exact RS15.out | refine Rd.set ?_ QS1C.out _ | refine Rd.drew ?_ | refine Rd.drewN ?_ _ | refine Rd.alloc ?_ _)
  · refine HT.out.below (B := w.heap.size) ?_ lT
    repeat (first | (with_reducible exact HB5.out) | (with_reducible refine Below.setCell ?_ leC _) | (with_reducible refine Below.setCell ?_ leG _) | (with_reducible refine Below.drew ?_) | (with_reducible refine bdrewN ?_ _) | ((with_reducible refine Below.alloc ?_ ?_ _); rotate_left 1; focus (first | (simp; done) | (simp; omega) | omega)))
  rintro e w4 ⟨rfl, hb⟩
  have HXC6 : Hid (w4.heap[w.heap.size]? = some (.cells _ _ (0, 0))) := box_keep (by repeat (first | (with_reducible exact HXC5.out) | ((with_reducible refine heap_new_at _ ?_); focus (first | (with_reducible rfl) | (simp; done))) | (with_reducible refine box_alloc ?_ _) | (with_reducible apply box_set) | ((with_reducible refine box_far ?_ ?_ _); rotate_left 1; focus (first | (simp; done) | (simp; omega) | omega)) | (with_reducible refine box_drew ?_) | (with_reducible refine box_drewN ?_ _))) hb
  try simp only [List.setIfInBounds_toArray, List.set_cons_zero, List.set_cons_succ] at HXC6
  have HXG6 : Hid (w4.heap[w1.heap.size]? = some (.cells _ _ (0, 0))) := box_keep (by repeat (first | (with_reducible exact HXG5.out) | ((with_reducible refine heap_new_at _ ?_); focus (first | (with_reducible rfl) | (simp; done))) | (with_reducible refine box_alloc ?_ _) | (with_reducible apply box_set) | ((with_reducible refine box_far ?_ ?_ _); rotate_left 1; focus (first | (simp; done) | (simp; omega) | omega)) | (with_reducible refine box_drew ?_) | (with_reducible refine box_drewN ?_ _))) hb
  try simp only [List.setIfInBounds_toArray, List.set_cons_zero, List.set_cons_succ] at HXG6
  clear xC yC
  clear xG yG
  obtain ⟨xC, yC⟩ := box_rules HXC6.out
  have lC6 := box_lt HXC6.out
  clear HXC5
  obtain ⟨xG, yG⟩ := box_rules HXG6.out
  have lG6 := box_lt HXG6.out
  clear HXG5
  have RP16 : Hid (Rd w4 qA (d.prio.map (.int .i64))) := Rd.below (by repeat (with_reducible first | exact RP15.out | refine Rd.set ?_ QP1C.out _ | refine Rd.drew ?_ | refine Rd.drewN ?_ _ | refine Rd.alloc ?_ _)) hb
  clear RP15
  have RS16 : Hid (Rd w4 tA (d.stack.map (.int .i64))) := Rd.below (by repeat (with_reducible first | exact RS15.out | refine Rd.set ?_ QS1C.out _ | refine Rd.drew ?_ | refine Rd.drewN ?_ _ | refine Rd.alloc ?_ _)) hb
  clear RS15
  have HB6 : Hid (Below w.heap.size w w4) := Below.trans (by repeat (first | (with_reducible exact HB5.out) | (with_reducible refine Below.setCell ?_ leC _) | (with_reducible refine Below.setCell ?_ leG _) | (with_reducible refine Below.drew ?_) | (with_reducible refine bdrewN ?_ _) | ((with_reducible refine Below.alloc ?_ ?_ _); rotate_left 1; focus (first | (simp; done) | (simp; omega) | omega)))) (hb.mono (by first | (simp; done) | (simp; omega) | omega | (simp [World.setCell]; omega)))
  clear HB5
  have s6 : w.heap.size ≤ w4.heap.size := HB6.out.size
  have z6 : w3.heap.size ≤ w4.heap.size := by have := hb.size; (try simp at this); omega
  clear hb
  go_wp2_with fail
  refine (f3'.out pA pc sA sc _ ?_ ?_).mono ?_
  · exact Rd.below Hp.out (by repeat (first | (with_reducible exact HB6.out) | (with_reducible refine Below.setCell ?_ leC _) | (with_reducible refine Below.setCell ?_ leG _) | (with_reducible refine Below.drew ?_) | (with_reducible refine bdrewN ?_ _) | ((with_reducible refine Below.alloc ?_ ?_ _); rotate_left 1; focus (first | (simp; done) | (simp; omega) | omega))))
  · exact Rd.below Hs.out (by repeat (first | (with_reducible exact HB6.out) | (with_reducible refine Below.setCell ?_ leC _) | (with_reducible refine Below.setCell ?_ leG _) | (with_reducible refine Below.drew ?_) | (with_reducible refine bdrewN ?_ _) | ((with_reducible refine Below.alloc ?_ ?_ _); rotate_left 1; focus (first | (simp; done) | (simp; omega) | omega))))
  rintro e w5 ⟨rfl, hb⟩
  have HXC7 : Hid (w5.heap[w.heap.size]? = some (.cells _ _ (0, 0))) := box_keep (by repeat (first | (with_reducible exact HXC6.out) | ((with_reducible refine heap_new_at _ ?_); focus (first | (with_reducible rfl) | (simp; done))) | (with_reducible refine box_alloc ?_ _) | (with_reducible apply box_set) | ((with_reducible refine box_far ?_ ?_ _); rotate_left 1; focus (first | (simp; done) | (simp; omega) | omega)) | (with_reducible refine box_drew ?_) | (with_reducible refine box_drewN ?_ _))) hb
  try simp only [List.setIfInBounds_toArray, List.set_cons_zero, List.set_cons_succ] at HXC7
  have HXG7 : Hid (w5.heap[w1.heap.size]? = some (.cells _ _ (0, 0))) := box_keep (by repeat (first | (with_reducible exact HXG6.out) | ((with_reducible refine heap_new_at _ ?_); focus (first | (with_reducible rfl) | (simp; done))) | (with_reducible refine box_alloc ?_ _) | (with_reducible apply box_set) | ((with_reducible refine box_far ?_ ?_ _); rotate_left 1; focus (first | (simp; done) | (simp; omega) | omega)) | (with_reducible refine box_drew ?_) | (with_reducible refine box_drewN ?_ _))) hb
  try simp only [List.setIfInBounds_toArray, List.set_cons_zero, List.set_cons_succ] at HXG7
  clear xC yC
  clear xG yG
  obtain ⟨xC, yC⟩ := box_rules HXC7.out
  have lC7 := box_lt HXC7.out
  clear HXC6
  obtain ⟨xG, yG⟩ := box_rules HXG7.out
  have lG7 := box_lt HXG7.out
  clear HXG6
  have RP17 : Hid (Rd w5 qA (d.prio.map (.int .i64))) := Rd.below (by repeat (with_reducible first | exact RP16.out | refine Rd.set ?_ QP1C.out _ | refine Rd.drew ?_ | refine Rd.drewN ?_ _ | refine Rd.alloc ?_ _)) hb
  clear RP16
  have RS17 : Hid (Rd w5 tA (d.stack.map (.int .i64))) := Rd.below (by repeat (with_reducible first | exact RS16.out | refine Rd.set ?_ QS1C.out _ | refine Rd.drew ?_ | refine Rd.drewN ?_ _ | refine Rd.alloc ?_ _)) hb
  clear RS16
  have HB7 : Hid (Below w.heap.size w w5) := Below.trans (by repeat (first | (with_reducible exact HB6.out) | (with_reducible refine Below.setCell ?_ leC _) | (with_reducible refine Below.setCell ?_ leG _) | (with_reducible refine Below.drew ?_) | (with_reducible refine bdrewN ?_ _) | ((with_reducible refine Below.alloc ?_ ?_ _); rotate_left 1; focus (first | (simp; done) | (simp; omega) | omega)))) (hb.mono (by first | (simp; done) | (simp; omega) | omega | (simp [World.setCell]; omega)))
  clear HB6
  have s7 : w.heap.size ≤ w5.heap.size := HB7.out.size
  have z7 : w4.heap.size ≤ w5.heap.size := by have := hb.size; (try simp at this); omega
  clear hb
  go_wp2_with fail
  refine (f4.out qA qc tA tc _ ?_ ?_ ?_).mono ?_
  · repeat (with_reducible first | exact RP17.out | refine Rd.set ?_ QP1C.out _ | refine Rd.drew ?_ | refine Rd.drewN ?_ _ | refine Rd.alloc ?_ _)
  · repeat (with_reducible first | exact RS17.out | refine Rd.set ?_ QS1C.out _ | refine Rd.drew ?_ | refine Rd.drewN ?_ _ | refine Rd.alloc ?_ _)
  · refine HT.out.below (B := w.heap.size) ?_ lT
    repeat (first | (with_reducible exact HB7.out) | (with_reducible refine Below.setCell ?_ leC _) | (with_reducible refine Below.setCell ?_ leG _) | (with_reducible refine Below.drew ?_) | (with_reducible refine bdrewN ?_ _) | ((with_reducible refine Below.alloc ?_ ?_ _); rotate_left 1; focus (first | (simp; done) | (simp; omega) | omega)))
  rintro e w6 ⟨A6, k6, B6, j6, rfl, hp, hs, hb, hn⟩
  unfold icv
  have HXC8 : Hid (w6.heap[w.heap.size]? = some (.cells _ _ (0, 0))) := box_keep (by repeat (first | (with_reducible exact HXC7.out) | ((with_reducible refine heap_new_at _ ?_); focus (first | (with_reducible rfl) | (simp; done))) | (with_reducible refine box_alloc ?_ _) | (with_reducible apply box_set) | ((with_reducible refine box_far ?_ ?_ _); rotate_left 1; focus (first | (simp; done) | (simp; omega) | omega)) | (with_reducible refine box_drew ?_) | (with_reducible refine box_drewN ?_ _))) hb
  try simp only [List.setIfInBounds_toArray, List.set_cons_zero, List.set_cons_succ] at HXC8
  have HXG8 : Hid (w6.heap[w1.heap.size]? = some (.cells _ _ (0, 0))) := box_keep (by repeat (first | (with_reducible exact HXG7.out) | ((with_reducible refine heap_new_at _ ?_); focus (first | (with_reducible rfl) | (simp; done))) | (with_reducible refine box_alloc ?_ _) | (with_reducible apply box_set) | ((with_reducible refine box_far ?_ ?_ _); rotate_left 1; focus (first | (simp; done) | (simp; omega) | omega)) | (with_reducible refine box_drew ?_) | (with_reducible refine box_drewN ?_ _))) hb
  try simp only [List.setIfInBounds_toArray, List.set_cons_zero, List.set_cons_succ] at HXG8
  clear xC yC
  clear xG yG
  obtain ⟨xC, yC⟩ := box_rules HXC8.out
  have lC8 := box_lt HXC8.out
  clear HXC7
  obtain ⟨xG, yG⟩ := box_rules HXG8.out
  have lG8 := box_lt HXG8.out
  clear HXG7
  have RP18 : Hid (Rd w6 qA (d.prio.map (.int .i64))) := Rd.below (by repeat (with_reducible first | exact RP17.out | refine Rd.set ?_ QP1C.out _ | refine Rd.drew ?_ | refine Rd.drewN ?_ _ | refine Rd.alloc ?_ _)) hb
  clear RP17
  have RS18 : Hid (Rd w6 tA (d.stack.map (.int .i64))) := Rd.below (by repeat (with_reducible first | exact RS17.out | refine Rd.set ?_ QS1C.out _ | refine Rd.drew ?_ | refine Rd.drewN ?_ _ | refine Rd.alloc ?_ _)) hb
  clear RS17
  have HB8 : Hid (Below w.heap.size w w6) := Below.trans (by repeat (first | (with_reducible exact HB7.out) | (with_reducible refine Below.setCell ?_ leC _) | (with_reducible refine Below.setCell ?_ leG _) | (with_reducible refine Below.drew ?_) | (with_reducible refine bdrewN ?_ _) | ((with_reducible refine Below.alloc ?_ ?_ _); rotate_left 1; focus (first | (simp; done) | (simp; omega) | omega)))) (hb.mono (by first | (simp; done) | (simp; omega) | omega | (simp [World.setCell]; omega)))
  clear HB7
  have s8 : w.heap.size ≤ w6.heap.size := HB8.out.size
  have z8 : w5.heap.size ≤ w6.heap.size := by have := hb.size; (try simp at this); omega
  have RP6 : Hid (Rd w6 A6 (x4.1.prio.map (.int .i64))) := hp
  have NP6 : Hid (∀ a, A6 = some a → w.heap.size ≤ a.block) := fun a ha => by have := hn.1 a ha; (try simp at this); omega
  have QP6C : Hid (∀ a, A6 = some a → a.block ≠ w.heap.size) := fun a ha e => by have := hn.1 a ha; (try simp at this); omega
  have QP6G : Hid (∀ a, A6 = some a → a.block ≠ w1.heap.size) := fun a ha e => by have := hn.1 a ha; (try simp at this); omega
  have RS6 : Hid (Rd w6 B6 (x4.1.stack.map (.int .i64))) := hs
  have NS6 : Hid (∀ a, B6 = some a → w.heap.size ≤ a.block) := fun a ha => by have := hn.2 a ha; (try simp at this); omega
  have QS6C : Hid (∀ a, B6 = some a → a.block ≠ w.heap.size) := fun a ha e => by have := hn.2 a ha; (try simp at this); omega
  have QS6G : Hid (∀ a, B6 = some a → a.block ≠ w1.heap.size) := fun a ha e => by have := hn.2 a ha; (try simp at this); omega
  have leV6 : w.heap.size ≤ w6.heap.size := by omega
  clear hp hs hb hn
  go_wp2_with fail
  refine (f4'.out pA pc sA sc _ ?_ ?_).mono ?_
  · exact Rd.below Hp.out (by repeat (first | (with_reducible exact HB8.out) | (with_reducible refine Below.setCell ?_ leC _) | (with_reducible refine Below.setCell ?_ leG _) | (with_reducible refine Below.setCell ?_ leV6 _) | (with_reducible refine Below.drew ?_) | (with_reducible refine bdrewN ?_ _) | ((with_reducible refine Below.alloc ?_ ?_ _); rotate_left 1; focus (first | (simp; done) | (simp; omega) | omega))))
  · exact Rd.below Hs.out (by repeat (first | (with_reducible exact HB8.out) | (with_reducible refine Below.setCell ?_ leC _) | (with_reducible refine Below.setCell ?_ leG _) | (with_reducible refine Below.setCell ?_ leV6 _) | (with_reducible refine Below.drew ?_) | (with_reducible refine bdrewN ?_ _) | ((with_reducible refine Below.alloc ?_ ?_ _); rotate_left 1; focus (first | (simp; done) | (simp; omega) | omega))))
  rintro e w7 ⟨A7, k7, B7, j7, rfl, hp, hs, hb, hn⟩
  unfold icv
  have HXC11 : Hid (w7.heap[w.heap.size]? = some (.cells _ _ (0, 0))) := box_keep (by repeat (first | (with_reducible exact HXC8.out) | ((with_reducible refine heap_new_at _ ?_); focus (first | (with_reducible rfl) | (simp; done))) | (with_reducible refine box_alloc ?_ _) | (with_reducible apply box_set) | ((with_reducible refine box_far ?_ ?_ _); rotate_left 1; focus (first | (simp; done) | (simp; omega) | omega)) | (with_reducible refine box_drew ?_) | (with_reducible refine box_drewN ?_ _))) hb
  try simp only [List.setIfInBounds_toArray, List.set_cons_zero, List.set_cons_succ] at HXC11
  have HXG11 : Hid (w7.heap[w1.heap.size]? = some (.cells _ _ (0, 0))) := box_keep (by repeat (first | (with_reducible exact HXG8.out) | ((with_reducible refine heap_new_at _ ?_); focus (first | (with_reducible rfl) | (simp; done))) | (with_reducible refine box_alloc ?_ _) | (with_reducible apply box_set) | ((with_reducible refine box_far ?_ ?_ _); rotate_left 1; focus (first | (simp; done) | (simp; omega) | omega)) | (with_reducible refine box_drew ?_) | (with_reducible refine box_drewN ?_ _))) hb
  try simp only [List.setIfInBounds_toArray, List.set_cons_zero, List.set_cons_succ] at HXG11
  have HXV611 : Hid (w7.heap[w6.heap.size]? = some (.cells _ _ (0, 0))) := box_keep (by repeat (first | ((with_reducible refine heap_new_at _ ?_); focus (first | (with_reducible rfl) | (simp; done))) | (with_reducible refine box_alloc ?_ _) | (with_reducible apply box_set) | ((with_reducible refine box_far ?_ ?_ _); rotate_left 1; focus (first | (simp; done) | (simp; omega) | omega)) | (with_reducible refine box_drew ?_) | (with_reducible refine box_drewN ?_ _))) hb
  try simp only [List.setIfInBounds_toArray, List.set_cons_zero, List.set_cons_succ] at HXV611
  clear xC yC
  clear xG yG
  obtain ⟨xC, yC⟩ := box_rules HXC11.out
  have lC11 := box_lt HXC11.out
  clear HXC8
  obtain ⟨xG, yG⟩ := box_rules HXG11.out
  have lG11 := box_lt HXG11.out
  clear HXG8
  obtain ⟨xV6, yV6⟩ := box_rules HXV611.out
  have lV611 := box_lt HXV611.out
  have RP111 : Hid (Rd w7 qA (d.prio.map (.int .i64))) := Rd.below (by repeat (with_reducible first | exact RP18.out | refine Rd.set ?_ QP1C.out _ | refine Rd.drew ?_ | refine Rd.drewN ?_ _ | refine Rd.alloc ?_ _)) hb
  clear RP18
  have RS111 : Hid (Rd w7 tA (d.stack.map (.int .i64))) := Rd.below (by repeat (with_reducible first | exact RS18.out | refine Rd.set ?_ QS1C.out _ | refine Rd.drew ?_ | refine Rd.drewN ?_ _ | refine Rd.alloc ?_ _)) hb
  clear RS18
  have RP611 : Hid (Rd w7 A6 (x4.1.prio.map (.int .i64))) := Rd.below (by repeat (with_reducible first | exact RP6.out | refine Rd.set ?_ QP6C.out _ | refine Rd.set ?_ QP6G.out _ | refine Rd.drew ?_ | refine Rd.drewN ?_ _ | refine Rd.alloc ?_ _)) hb
  clear RP6
  have RS611 : Hid (Rd w7 B6 (x4.1.stack.map (.int .i64))) := Rd.below (by repeat (with_reducible first | exact RS6.out | refine Rd.set ?_ QS6C.out _ | refine Rd.set ?_ QS6G.out _ | refine Rd.drew ?_ | refine Rd.drewN ?_ _ | refine Rd.alloc ?_ _)) hb
  clear RS6
  have HB11 : Hid (Below w.heap.size w w7) := Below.trans (by repeat (first | (with_reducible exact HB8.out) | (with_reducible refine Below.setCell ?_ leC _) | (with_reducible refine Below.setCell ?_ leG _) | (with_reducible refine Below.setCell ?_ leV6 _) | (with_reducible refine Below.drew ?_) | (with_reducible refine bdrewN ?_ _) | ((with_reducible refine Below.alloc ?_ ?_ _); rotate_left 1; focus (first | (simp; done) | (simp; omega) | omega)))) (hb.mono (by first | (simp; done) | (simp; omega) | omega | (simp [World.setCell]; omega)))
  clear HB8
  have s11 : w.heap.size ≤ w7.heap.size := HB11.out.size
  have z11 : w6.heap.size ≤ w7.heap.size := by have := hb.size; (try simp at this); omega
  have RP7 : Hid (Rd w7 A7 (x4.1.prio.map (.int .i64))) := hp
  have NP7 : Hid (∀ a, A7 = some a → w.heap.size ≤ a.block) := fun a ha => by have := hn.1 a ha; (try simp at this); omega
  have QP7C : Hid (∀ a, A7 = some a → a.block ≠ w.heap.size) := fun a ha e => by have := hn.1 a ha; (try simp at this); omega
  have QP7G : Hid (∀ a, A7 = some a → a.block ≠ w1.heap.size) := fun a ha e => by have := hn.1 a ha; (try simp at this); omega
  have QP7V6 : Hid (∀ a, A7 = some a → a.block ≠ w6.heap.size) := fun a ha e => by have := hn.1 a ha; (try simp at this); omega
  have RS7 : Hid (Rd w7 B7 (x4.1.stack.map (.int .i64))) := hs
  have NS7 : Hid (∀ a, B7 = some a → w.heap.size ≤ a.block) := fun a ha => by have := hn.2 a ha; (try simp at this); omega
  have QS7C : Hid (∀ a, B7 = some a → a.block ≠ w.heap.size) := fun a ha e => by have := hn.2 a ha; (try simp at this); omega
  have QS7G : Hid (∀ a, B7 = some a → a.block ≠ w1.heap.size) := fun a ha e => by have := hn.2 a ha; (try simp at this); omega
  have QS7V6 : Hid (∀ a, B7 = some a → a.block ≠ w6.heap.size) := fun a ha e => by have := hn.2 a ha; (try simp at this); omega
  have leV7 : w.heap.size ≤ w7.heap.size := by omega
  clear hp hs hb hn
  go_wp2_with fail
  refine (f5.out qA qc tA tc _ ?_ ?_).mono ?_
  · repeat (with_reducible first | exact RP111.out | refine Rd.set ?_ QP1C.out _ | refine Rd.drew ?_ | refine Rd.drewN ?_ _ | refine Rd.alloc ?_ _)
  · repeat (with_reducible first | exact RS111.out | refine Rd.set ?_ QS1C.out _ | refine Rd.drew ?_ | refine Rd.drewN ?_ _ | refine Rd.alloc ?_ _)
  rintro e w8 ⟨A8, k8, B8, j8, rfl, hp, hs, hb, hn⟩
  unfold icv
  have HXC14 : Hid (w8.heap[w.heap.size]? = some (.cells _ _ (0, 0))) := box_keep (by repeat (first | (with_reducible exact HXC11.out) | ((with_reducible refine heap_new_at _ ?_); focus (first | (with_reducible rfl) | (simp; done))) | (with_reducible refine box_alloc ?_ _) | (with_reducible apply box_set) | ((with_reducible refine box_far ?_ ?_ _); rotate_left 1; focus (first | (simp; done) | (simp; omega) | omega)) | (with_reducible refine box_drew ?_) | (with_reducible refine box_drewN ?_ _))) hb
  try simp only [List.setIfInBounds_toArray, List.set_cons_zero, List.set_cons_succ] at HXC14
  have HXG14 : Hid (w8.heap[w1.heap.size]? = some (.cells _ _ (0, 0))) := box_keep (by repeat (first | (with_reducible exact HXG11.out) | ((with_reducible refine heap_new_at _ ?_); focus (first | (with_reducible rfl) | (simp; done))) | (with_reducible refine box_alloc ?_ _) | (with_reducible apply box_set) | ((with_reducible refine box_far ?_ ?_ _); rotate_left 1; focus (first | (simp; done) | (simp; omega) | omega)) | (with_reducible refine box_drew ?_) | (with_reducible refine box_drewN ?_ _))) hb
  try simp only [List.setIfInBounds_toArray, List.set_cons_zero, List.set_cons_succ] at HXG14
  have HXV614 : Hid (w8.heap[w6.heap.size]? = some (.cells _ _ (0, 0))) := box_keep (by repeat (first | (with_reducible exact HXV611.out) | ((with_reducible refine heap_new_at _ ?_); focus (first | (with_reducible rfl) | (simp; done))) | (with_reducible refine box_alloc ?_ _) | (with_reducible apply box_set) | ((with_reducible refine box_far ?_ ?_ _); rotate_left 1; focus (first | (simp; done) | (simp; omega) | omega)) | (with_reducible refine box_drew ?_) | (with_reducible refine box_drewN ?_ _))) hb
  try simp only [List.setIfInBounds_toArray, List.set_cons_zero, List.set_cons_succ] at HXV614
  have HXV714 : Hid (w8.heap[w7.heap.size]? = some (.cells _ _ (0, 0))) := box_keep (by repeat (first | ((with_reducible refine heap_new_at _ ?_); focus (first | (with_reducible rfl) | (simp; done))) | (with_reducible refine box_alloc ?_ _) | (with_reducible apply box_set) | ((with_reducible refine box_far ?_ ?_ _); rotate_left 1; focus (first | (simp; done) | (simp; omega) | omega)) | (with_reducible refine box_drew ?_) | (with_reducible refine box_drewN ?_ _))) hb
  try simp only [List.setIfInBounds_toArray, List.set_cons_zero, List.set_cons_succ] at HXV714
  clear xC yC
  clear xG yG
  clear xV6 yV6
  obtain ⟨xC, yC⟩ := box_rules HXC14.out
  have lC14 := box_lt HXC14.out
  clear HXC11
  obtain ⟨xG, yG⟩ := box_rules HXG14.out
  have lG14 := box_lt HXG14.out
  clear HXG11
  obtain ⟨xV6, yV6⟩ := box_rules HXV614.out
  have lV614 := box_lt HXV614.out
  clear HXV611
  obtain ⟨xV7, yV7⟩ := box_rules HXV714.out
  have lV714 := box_lt HXV714.out
  have RP114 : Hid (Rd w8 qA (d.prio.map (.int .i64))) := Rd.below (by repeat (with_reducible first | exact RP111.out | refine Rd.set ?_ QP1C.out _ | refine Rd.drew ?_ | refine Rd.drewN ?_ _ | refine Rd.alloc ?_ _)) hb
  clear RP111
  have RS114 : Hid (Rd w8 tA (d.stack.map (.int .i64))) := Rd.below (by repeat (with_reducible first | exact RS111.out | refine Rd.set ?_ QS1C.out _ | refine Rd.drew ?_ | refine Rd.drewN ?_ _ | refine Rd.alloc ?_ _)) hb
  clear RS111
  have RP614 : Hid (Rd w8 A6 (x4.1.prio.map (.int .i64))) := Rd.below (by repeat (with_reducible first | exact RP611.out | refine Rd.set ?_ QP6C.out _ | refine Rd.set ?_ QP6G.out _ | refine Rd.drew ?_ | refine Rd.drewN ?_ _ | refine Rd.alloc ?_ _)) hb
  clear RP611
  have RS614 : Hid (Rd w8 B6 (x4.1.stack.map (.int .i64))) := Rd.below (by repeat (with_reducible first | exact RS611.out | refine Rd.set ?_ QS6C.out _ | refine Rd.set ?_ QS6G.out _ | refine Rd.drew ?_ | refine Rd.drewN ?_ _ | refine Rd.alloc ?_ _)) hb
  clear RS611
  have RP714 : Hid (Rd w8 A7 (x4.1.prio.map (.int .i64))) := Rd.below (by repeat (with_reducible first | exact RP7.out | refine Rd.set ?_ QP7C.out _ | refine Rd.set ?_ QP7G.out _ | refine Rd.set ?_ QP7V6.out _ | refine Rd.drew ?_ | refine Rd.drewN ?_ _ | refine Rd.alloc ?_ _)) hb
  clear RP7
  have RS714 : Hid (Rd w8 B7 (x4.1.stack.map (.int .i64))) := Rd.below (by repeat (with_reducible first | exact RS7.out | refine Rd.set ?_ QS7C.out _ | refine Rd.set ?_ QS7G.out _ | refine Rd.set ?_ QS7V6.out _ | refine Rd.drew ?_ | refine Rd.drewN ?_ _ | refine Rd.alloc ?_ _)) hb
  clear RS7
  have HB14 : Hid (Below w.heap.size w w8) := Below.trans (by repeat (first | (with_reducible exact HB11.out) | (with_reducible refine Below.setCell ?_ leC _) | (with_reducible refine Below.setCell ?_ leG _) | (with_reducible refine Below.setCell ?_ leV6 _) | (with_reducible refine Below.setCell ?_ leV7 _) | (with_reducible refine Below.drew ?_) | (with_reducible refine bdrewN ?_ _) | ((with_reducible refine Below.alloc ?_ ?_ _); rotate_left 1; focus (first | (simp; done) | (simp; omega) | omega)))) (hb.mono (by first | (simp; done) | (simp; omega) | omega | (simp [World.setCell]; omega)))
  clear HB11
  have s14 : w.heap.size ≤ w8.heap.size := HB14.out.size
  have z14 : w7.heap.size ≤ w8.heap.size := by have := hb.size; (try simp at this); omega
  have RP8 : Hid (Rd w8 A8 (x5.1.prio.map (.int .i64))) := hp
  have NP8 : Hid (∀ a, A8 = some a → w.heap.size ≤ a.block) := fun a ha => by have := hn.1 a ha; (try simp at this); omega
  have QP8C : Hid (∀ a, A8 = some a → a.block ≠ w.heap.size) := fun a ha e => by have := hn.1 a ha; (try simp at this); omega
  have QP8G : Hid (∀ a, A8 = some a → a.block ≠ w1.heap.size) := fun a ha e => by have := hn.1 a ha; (try simp at this); omega
  have QP8V6 : Hid (∀ a, A8 = some a → a.block ≠ w6.heap.size) := fun a ha e => by have := hn.1 a ha; (try simp at this); omega
  have QP8V7 : Hid (∀ a, A8 = some a → a.block ≠ w7.heap.size) := fun a ha e => by have := hn.1 a ha; (try simp at this); omega
  have RS8 : Hid (Rd w8 B8 (x5.1.stack.map (.int .i64))) := hs
  have NS8 : Hid (∀ a, B8 = some a → w.heap.size ≤ a.block) := fun a ha => by have := hn.2 a ha; (try simp at this); omega
  have QS8C : Hid (∀ a, B8 = some a → a.block ≠ w.heap.size) := fun a ha e => by have := hn.2 a ha; (try simp at this); omega
  have QS8G : Hid (∀ a, B8 = some a → a.block ≠ w1.heap.size) := fun a ha e => by have := hn.2 a ha; (try simp at this); omega
  have QS8V6 : Hid (∀ a, B8 = some a → a.block ≠ w6.heap.size) := fun a ha e => by have := hn.2 a ha; (try simp at this); omega
  have QS8V7 : Hid (∀ a, B8 = some a → a.block ≠ w7.heap.size) := fun a ha e => by have := hn.2 a ha; (try simp at this); omega
  have leV8 : w.heap.size ≤ w8.heap.size := by omega
  clear hp hs hb hn
  go_wp2_with fail
  refine (f5'.out pA pc sA sc _ ?_ ?_).mono ?_
  · exact Rd.below Hp.out (by repeat (first | (with_reducible exact HB14.out) | (with_reducible refine Below.setCell ?_ leC _) | (with_reducible refine Below.setCell ?_ leG _) | (with_reducible refine Below.setCell ?_ leV6 _) | (with_reducible refine Below.setCell ?_ leV7 _) | (with_reducible refine Below.setCell ?_ leV8 _) | (with_reducible refine Below.drew ?_) | (with_reducible refine bdrewN ?_ _) | ((with_reducible refine Below.alloc ?_ ?_ _); rotate_left 1; focus (first | (simp; done) | (simp; omega) | omega))))
  · exact Rd.below Hs.out (by repeat (first | (with_reducible exact HB14.out) | (with_reducible refine Below.setCell ?_ leC _) | (with_reducible refine Below.setCell ?_ leG _) | (with_reducible refine Below.setCell ?_ leV6 _) | (with_reducible refine Below.setCell ?_ leV7 _) | (with_reducible refine Below.setCell ?_ leV8 _) | (with_reducible refine Below.drew ?_) | (with_reducible refine bdrewN ?_ _) | ((with_reducible refine Below.alloc ?_ ?_ _); rotate_left 1; focus (first | (simp; done) | (simp; omega) | omega))))
  rintro e w9 ⟨A9, k9, B9, j9, rfl, hp, hs, hb, hn⟩
  unfold icv
  have HXC17 : Hid (w9.heap[w.heap.size]? = some (.cells _ _ (0, 0))) := box_keep (by repeat (first | (with_reducible exact HXC14.out) | ((with_reducible refine heap_new_at _ ?_); focus (first | (with_reducible rfl) | (simp; done))) | (with_reducible refine box_alloc ?_ _) | (with_reducible apply box_set) | ((with_reducible refine box_far ?_ ?_ _); rotate_left 1; focus (first | (simp; done) | (simp; omega) | omega)) | (with_reducible refine box_drew ?_) | (with_reducible refine box_drewN ?_ _))) hb
  try simp only [List.setIfInBounds_toArray, List.set_cons_zero, List.set_cons_succ] at HXC17
  have HXG17 : Hid (w9.heap[w1.heap.size]? = some (.cells _ _ (0, 0))) := box_keep (by repeat (first | (with_reducible exact HXG14.out) | ((with_reducible refine heap_new_at _ ?_); focus (first | (with_reducible rfl) | (simp; done))) | (with_reducible refine box_alloc ?_ _) | (with_reducible apply box_set) | ((with_reducible refine box_far ?_ ?_ _); rotate_left 1; focus (first | (simp; done) | (simp; omega) | omega)) | (with_reducible refine box_drew ?_) | (with_reducible refine box_drewN ?_ _))) hb
  try simp only [List.setIfInBounds_toArray, List.set_cons_zero, List.set_cons_succ] at HXG17
  have HXV617 : Hid (w9.heap[w6.heap.size]? = some (.cells _ _ (0, 0))) := box_keep (by repeat (first | (with_reducible exact HXV614.out) | ((with_reducible refine heap_new_at _ ?_); focus (first | (with_reducible rfl) | (simp; done))) | (with_reducible refine box_alloc ?_ _) | (with_reducible apply box_set) | ((with_reducible refine box_far ?_ ?_ _); rotate_left 1; focus (first | (simp; done) | (simp; omega) | omega)) | (with_reducible refine box_drew ?_) | (with_reducible refine box_drewN ?_ _))) hb
  try simp only [List.setIfInBounds_toArray, List.set_cons_zero, List.set_cons_succ] at HXV617
  have HXV717 : Hid (w9.heap[w7.heap.size]? = some (.cells _ _ (0, 0))) := box_keep (by repeat (first | (with_reducible exact HXV714.out) | ((with_reducible refine heap_new_at _ ?_); focus (first | (with_reducible rfl) | (simp; done))) | (with_reducible refine box_alloc ?_ _) | (with_reducible apply box_set) | ((with_reducible refine box_far ?_ ?_ _); rotate_left 1; focus (first | (simp; done) | (simp; omega) | omega)) | (with_reducible refine box_drew ?_) | (with_reducible refine box_drewN ?_ _))) hb
  try simp only [List.setIfInBounds_toArray, List.set_cons_zero, List.set_cons_succ] at HXV717
  have HXV817 : Hid (w9.heap[w8.heap.size]? = some (.cells _ _ (0, 0))) := box_keep (by repeat (first | ((with_reducible refine heap_new_at _ ?_); focus (first | (with_reducible rfl) | (simp; done))) | (with_reducible refine box_alloc ?_ _) | (with_reducible apply box_set) | ((with_reducible refine box_far ?_ ?_ _); rotate_left 1; focus (first | (simp; done) | (simp; omega) | omega)) | (with_reducible refine box_drew ?_) | (with_reducible refine box_drewN ?_ _))) hb
  try simp only [List.setIfInBounds_toArray, List.set_cons_zero, List.set_cons_succ] at HXV817
  clear xC yC
  clear xG yG
  clear xV6 yV6
  clear xV7 yV7
  obtain ⟨xC, yC⟩ := box_rules HXC17.out
  have lC17 := box_lt HXC17.out
  clear HXC14
  obtain ⟨xG, yG⟩ := box_rules HXG17.out
  have lG17 := box_lt HXG17.out
  clear HXG14
  obtain ⟨xV6, yV6⟩ := box_rules HXV617.out
  have lV617 := box_lt HXV617.out
  clear HXV614
  obtain ⟨xV7, yV7⟩ := box_rules HXV717.out
  have lV717 := box_lt HXV717.out
  clear HXV714
  obtain ⟨xV8, yV8⟩ := box_rules HXV817.out
  have lV817 := box_lt HXV817.out
  have RP117 : Hid (Rd w9 qA (d.prio.map (.int .i64))) := Rd.below (by repeat (with_reducible first | exact RP114.out | refine Rd.set ?_ QP1C.out _ | refine Rd.drew ?_ | refine Rd.drewN ?_ _ | refine Rd.alloc ?_ _)) hb
  clear RP114
  have RS117 : Hid (Rd w9 tA (d.stack.map (.int .i64))) := Rd.below (by repeat (with_reducible first | exact RS114.out | refine Rd.set ?_ QS1C.out _ | refine Rd.drew ?_ | refine Rd.drewN ?_ _ | refine Rd.alloc ?_ _)) hb
  clear RS114
  have RP617 : Hid (Rd w9 A6 (x4.1.prio.map (.int .i64))) := Rd.below (by repeat (with_reducible first | exact RP614.out | refine Rd.set ?_ QP6C.out _ | refine Rd.set ?_ QP6G.out _ | refine Rd.drew ?_ | refine Rd.drewN ?_ _ | refine Rd.alloc ?_ _)) hb
  clear RP614
  have RS617 : Hid (Rd w9 B6 (x4.1.stack.map (.int .i64))) := Rd.below (by repeat (with_reducible first | exact RS614.out | refine Rd.set ?_ QS6C.out _ | refine Rd.set ?_ QS6G.out _ | refine Rd.drew ?_ | refine Rd.drewN ?_ _ | refine Rd.alloc ?_ _)) hb
  clear RS614
  have RP717 : Hid (Rd w9 A7 (x4.1.prio.map (.int .i64))) := Rd.below (by repeat (with_reducible first | exact RP714.out | refine Rd.set ?_ QP7C.out _ | refine Rd.set ?_ QP7G.out _ | refine Rd.set ?_ QP7V6.out _ | refine Rd.drew ?_ | refine Rd.drewN ?_ _ | refine Rd.alloc ?_ _)) hb
  clear RP714
  have RS717 : Hid (Rd w9 B7 (x4.1.stack.map (.int .i64))) := Rd.below (by repeat (with_reducible first | exact RS714.out | refine Rd.set ?_ QS7C.out _ | refine Rd.set ?_ QS7G.out _ | refine Rd.set ?_ QS7V6.out _ | refine Rd.drew ?_ | refine Rd.drewN ?_ _ | refine Rd.alloc ?_ _)) hb
  clear RS714
  have RP817 : Hid (Rd w9 A8 (x5.1.prio.map (.int .i64))) := Rd.below (by repeat (with_reducible first | exact RP8.out | refine Rd.set ?_ QP8C.out _ | refine Rd.set ?_ QP8G.out _ | refine Rd.set ?_ QP8V6.out _ | refine Rd.set ?_ QP8V7.out _ | refine Rd.drew ?_ | refine Rd.drewN ?_ _ | refine Rd.alloc ?_ _)) hb
  clear RP8
  have RS817 : Hid (Rd w9 B8 (x5.1.stack.map (.int .i64))) := Rd.below (by repeat (with_reducible first | exact RS8.out | refine Rd.set ?_ QS8C.out _ | refine Rd.set ?_ QS8G.out _ | refine Rd.set ?_ QS8V6.out _ | refine Rd.set ?_ QS8V7.out _ | refine Rd.drew ?_ | refine Rd.drewN ?_ _ | refine Rd.alloc ?_ _)) hb
  clear RS8
  have HB17 : Hid (Below w.heap.size w w9) := Below.trans (by repeat (first | (with_reducible exact HB14.out) | (with_reducible refine Below.setCell ?_ leC _) | (with_reducible refine Below.setCell ?_ leG _) | (with_reducible refine Below.setCell ?_ leV6 _) | (with_reducible refine Below.setCell ?_ leV7 _) | (with_reducible refine Below.setCell ?_ leV8 _) | (with_reducible refine Below.drew ?_) | (with_reducible refine bdrewN ?_ _) | ((with_reducible refine Below.alloc ?_ ?_ _); rotate_left 1; focus (first | (simp; done) | (simp; omega) | omega)))) (hb.mono (by first | (simp; done) | (simp; omega) | omega | (simp [World.setCell]; omega)))
  clear HB14
  have s17 : w.heap.size ≤ w9.heap.size := HB17.out.size
  have z17 : w8.heap.size ≤ w9.heap.size := by have := hb.size; (try simp at this); omega
  have RP9 : Hid (Rd w9 A9 (x5.1.prio.map (.int .i64))) := hp
  have NP9 : Hid (∀ a, A9 = some a → w.heap.size ≤ a.block) := fun a ha => by have := hn.1 a ha; (try simp at this); omega
  have QP9C : Hid (∀ a, A9 = some a → a.block ≠ w.heap.size) := fun a ha e => by have := hn.1 a ha; (try simp at this); omega
  have QP9G : Hid (∀ a, A9 = some a → a.block ≠ w1.heap.size) := fun a ha e => by have := hn.1 a ha; (try simp at this); omega
  have QP9V6 : Hid (∀ a, A9 = some a → a.block ≠ w6.heap.size) := fun a ha e => by have := hn.1 a ha; (try simp at this); omega
  have QP9V7 : Hid (∀ a, A9 = some a → a.block ≠ w7.heap.size) := fun a ha e => by have := hn.1 a ha; (try simp at this); omega
  have QP9V8 : Hid (∀ a, A9 = some a → a.block ≠ w8.heap.size) := fun a ha e => by have := hn.1 a ha; (try simp at this); omega
  have RS9 : Hid (Rd w9 B9 (x5.1.stack.map (.int .i64))) := hs
  have NS9 : Hid (∀ a, B9 = some a → w.heap.size ≤ a.block) := fun a ha => by have := hn.2 a ha; (try simp at this); omega
  have QS9C : Hid (∀ a, B9 = some a → a.block ≠ w.heap.size) := fun a ha e => by have := hn.2 a ha; (try simp at this); omega
  have QS9G : Hid (∀ a, B9 = some a → a.block ≠ w1.heap.size) := fun a ha e => by have := hn.2 a ha; (try simp at this); omega
  have QS9V6 : Hid (∀ a, B9 = some a → a.block ≠ w6.heap.size) := fun a ha e => by have := hn.2 a ha; (try simp at this); omega
  have QS9V7 : Hid (∀ a, B9 = some a → a.block ≠ w7.heap.size) := fun a ha e => by have := hn.2 a ha; (try simp at this); omega
  have QS9V8 : Hid (∀ a, B9 = some a → a.block ≠ w8.heap.size) := fun a ha e => by have := hn.2 a ha; (try simp at this); omega
  have leV9 : w.heap.size ≤ w9.heap.size := by omega
  clear hp hs hb hn
  go_wp2_with fail
  refine (f0.out _ ?_).mono ?_
  · refine HT.out.below (B := w.heap.size) ?_ lT
    repeat (first | (with_reducible exact HB17.out) | (with_reducible refine Below.setCell ?_ leC _) | (with_reducible refine Below.setCell ?_ leG _) | (with_reducible refine Below.setCell ?_ leV6 _) | (with_reducible refine Below.setCell ?_ leV7 _) | (with_reducible refine Below.setCell ?_ leV8 _) | (with_reducible refine Below.setCell ?_ leV9 _) | (with_reducible refine Below.drew ?_) | (with_reducible refine bdrewN ?_ _) | ((with_reducible refine Below.alloc ?_ ?_ _); rotate_left 1; focus (first | (simp; done) | (simp; omega) | omega)))
  rintro e w10 ⟨rfl, hb⟩
  have HXC20 : Hid (w10.heap[w.heap.size]? = some (.cells _ _ (0, 0))) := box_keep (by repeat (first | (with_reducible exact HXC17.out) | ((with_reducible refine heap_new_at _ ?_); focus (first | (with_reducible rfl) | (simp; done))) | (with_reducible refine box_alloc ?_ _) | (with_reducible apply box_set) | ((with_reducible refine box_far ?_ ?_ _); rotate_left 1; focus (first | (simp; done) | (simp; omega) | omega)) | (with_reducible refine box_drew ?_) | (with_reducible refine box_drewN ?_ _))) hb
  try simp only [List.setIfInBounds_toArray, List.set_cons_zero, List.set_cons_succ] at HXC20
  have HXG20 : Hid (w10.heap[w1.heap.size]? = some (.cells _ _ (0, 0))) := box_keep (by repeat (first | (with_reducible exact HXG17.out) | ((with_reducible refine heap_new_at _ ?_); focus (first | (with_reducible rfl) | (simp; done))) | (with_reducible refine box_alloc ?_ _) | (with_reducible apply box_set) | ((with_reducible refine box_far ?_ ?_ _); rotate_left 1; focus (first | (simp; done) | (simp; omega) | omega)) | (with_reducible refine box_drew ?_) | (with_reducible refine box_drewN ?_ _))) hb
  try simp only [List.setIfInBounds_toArray, List.set_cons_zero, List.set_cons_succ] at HXG20
  have HXV620 : Hid (w10.heap[w6.heap.size]? = some (.cells _ _ (0, 0))) := box_keep (by repeat (first | (with_reducible exact HXV617.out) | ((with_reducible refine heap_new_at _ ?_); focus (first | (with_reducible rfl) | (simp; done))) | (with_reducible refine box_alloc ?_ _) | (with_reducible apply box_set) | ((with_reducible refine box_far ?_ ?_ _); rotate_left 1; focus (first | (simp; done) | (simp; omega) | omega)) | (with_reducible refine box_drew ?_) | (with_reducible refine box_drewN ?_ _))) hb
  try simp only [List.setIfInBounds_toArray, List.set_cons_zero, List.set_cons_succ] at HXV620
  have HXV720 : Hid (w10.heap[w7.heap.size]? = some (.cells _ _ (0, 0))) := box_keep (by repeat (first | (with_reducible exact HXV717.out) | ((with_reducible refine heap_new_at _ ?_); focus (first | (with_reducible rfl) | (simp; done))) | (with_reducible refine box_alloc ?_ _) | (with_reducible apply box_set) | ((with_reducible refine box_far ?_ ?_ _); rotate_left 1; focus (first | (simp; done) | (simp; omega) | omega)) | (with_reducible refine box_drew ?_) | (with_reducible refine box_drewN ?_ _))) hb
  try simp only [List.setIfInBounds_toArray, List.set_cons_zero, List.set_cons_succ] at HXV720
  have HXV820 : Hid (w10.heap[w8.heap.size]? = some (.cells _ _ (0, 0))) := box_keep (by repeat (first | (with_reducible exact HXV817.out) | ((with_reducible refine heap_new_at _ ?_); focus (first | (with_reducible rfl) | (simp; done))) | (with_reducible refine box_alloc ?_ _) | (with_reducible apply box_set) | ((with_reducible refine box_far ?_ ?_ _); rotate_left 1; focus (first | (simp; done) | (simp; omega) | omega)) | (with_reducible refine box_drew ?_) | (with_reducible refine box_drewN ?_ _))) hb
  try simp only [List.setIfInBounds_toArray, List.set_cons_zero, List.set_cons_succ] at HXV820
  have HXV920 : Hid (w10.heap[w9.heap.size]? = some (.cells _ _ (0, 0))) := box_keep (by repeat (first | ((with_reducible refine heap_new_at _ ?_); focus (first | (with_reducible rfl) | (simp; done))) | (with_reducible refine box_alloc ?_ _) | (with_reducible apply box_set) | ((with_reducible refine box_far ?_ ?_ _); rotate_left 1; focus (first | (simp; done) | (simp; omega) | omega)) | (with_reducible refine box_drew ?_) | (with_reducible refine box_drewN ?_ _))) hb
  try simp only [List.setIfInBounds_toArray, List.set_cons_zero, List.set_cons_succ] at HXV920
  clear xC yC
  clear xG yG
  clear xV6 yV6
  clear xV7 yV7
  clear xV8 yV8
  obtain ⟨xC, yC⟩ := box_rules HXC20.out
  have lC20 := box_lt HXC20.out
  clear HXC17
  obtain ⟨xG, yG⟩ := box_rules HXG20.out
  have lG20 := box_lt HXG20.out
  clear HXG17
  obtain ⟨xV6, yV6⟩ := box_rules HXV620.out
  have lV620 := box_lt HXV620.out
  clear HXV617
  obtain ⟨xV7, yV7⟩ := box_rules HXV720.out
  have lV720 := box_lt HXV720.out
  clear HXV717
  obtain ⟨xV8, yV8⟩ := box_rules HXV820.out
  have lV820 := box_lt HXV820.out
  clear HXV817
  obtain ⟨xV9, yV9⟩ := box_rules HXV920.out
  have lV920 := box_lt HXV920.out
  have RP120 : Hid (Rd w10 qA (d.prio.map (.int .i64))) := Rd.below (by repeat (with_reducible first | exact RP117.out | refine Rd.set ?_ QP1C.out _ | refine Rd.drew ?_ | refine Rd.drewN ?_ _ | refine Rd.alloc ?_ _)) hb
  clear RP117
  have RS120 : Hid (Rd w10 tA (d.stack.map (.int .i64))) := Rd.below (by repeat (with_reducible first | exact RS117.out | refine Rd.set ?_ QS1C.out _ | refine Rd.drew ?_ | refine Rd.drewN ?_ _ | refine Rd.alloc ?_ _)) hb
  clear RS117
  have RP620 : Hid (Rd w10 A6 (x4.1.prio.map (.int .i64))) := Rd.below (by repeat (with_reducible first | exact RP617.out | refine Rd.set ?_ QP6C.out _ | refine Rd.set ?_ QP6G.out _ | refine Rd.drew ?_ | refine Rd.drewN ?_ _ | refine Rd.alloc ?_ _)) hb
  clear RP617
  have RS620 : Hid (Rd w10 B6 (x4.1.stack.map (.int .i64))) := Rd.below (by repeat (with_reducible first | exact RS617.out | refine Rd.set ?_ QS6C.out _ | refine Rd.set ?_ QS6G.out _ | refine Rd.drew ?_ | refine Rd.drewN ?_ _ | refine Rd.alloc ?_ _)) hb
  clear RS617
  have RP720 : Hid (Rd w10 A7 (x4.1.prio.map (.int .i64))) := Rd.below (by repeat (with_reducible first | exact RP717.out | refine Rd.set ?_ QP7C.out _ | refine Rd.set ?_ QP7G.out _ | refine Rd.set ?_ QP7V6.out _ | refine Rd.drew ?_ | refine Rd.drewN ?_ _ | refine Rd.alloc ?_ _)) hb
  clear RP717
  have RS720 : Hid (Rd w10 B7 (x4.1.stack.map (.int .i64))) := Rd.below (by repeat (with_reducible first | exact RS717.out | refine Rd.set ?_ QS7C.out _ | refine Rd.set ?_ QS7G.out _ | refine Rd.set ?_ QS7V6.out _ | refine Rd.drew ?_ | refine Rd.drewN ?_ _ | refine Rd.alloc ?_ _)) hb
  clear RS717
  have RP820 : Hid (Rd w10 A8 (x5.1.prio.map (.int .i64))) := Rd.below (by repeat (with_reducible first | exact RP817.out | refine Rd.set ?_ QP8C.out _ | refine Rd.set ?_ QP8G.out _ | refine Rd.set ?_ QP8V6.out _ | refine Rd.set ?_ QP8V7.out _ | refine Rd.drew ?_ | refine Rd.drewN ?_ _ | refine Rd.alloc ?_ _)) hb
  clear RP817
  have RS820 : Hid (Rd w10 B8 (x5.1.stack.map (.int .i64))) := Rd.below (by repeat (with_reducible first | exact RS817.out | refine Rd.set ?_ QS8C.out _ | refine Rd.set ?_ QS8G.out _ | refine Rd.set ?_ QS8V6.out _ | refine Rd.set ?_ QS8V7.out _ | refine Rd.drew ?_ | refine Rd.drewN ?_ _ | refine Rd.alloc ?_ _)) hb
  clear RS817
  have RP920 : Hid (Rd w10 A9 (x5.1.prio.map (.int .i64))) := Rd.below (by repeat (with_reducible first | exact RP9.out | refine Rd.set ?_ QP9C.out _ | refine Rd.set ?_ QP9G.out _ | refine Rd.set ?_ QP9V6.out _ | refine Rd.set ?_ QP9V7.out _ | refine Rd.set ?_ QP9V8.out _ | refine Rd.drew ?_ | refine Rd.drewN ?_ _ | refine Rd.alloc ?_ _)) hb
  clear RP9
  have RS920 : Hid (Rd w10 B9 (x5.1.stack.map (.int .i64))) := Rd.below (by repeat (with_reducible first | exact RS9.out | refine Rd.set ?_ QS9C.out _ | refine Rd.set ?_ QS9G.out _ | refine Rd.set ?_ QS9V6.out _ | refine Rd.set ?_ QS9V7.out _ | refine Rd.set ?_ QS9V8.out _ | refine Rd.drew ?_ | refine Rd.drewN ?_ _ | refine Rd.alloc ?_ _)) hb
  clear RS9
  have HB20 : Hid (Below w.heap.size w w10) := Below.trans (by repeat (first | (with_reducible exact HB17.out) | (with_reducible refine Below.setCell ?_ leC _) | (with_reducible refine Below.setCell ?_ leG _) | (with_reducible refine Below.setCell ?_ leV6 _) | (with_reducible refine Below.setCell ?_ leV7 _) | (with_reducible refine Below.setCell ?_ leV8 _) | (with_reducible refine Below.setCell ?_ leV9 _) | (with_reducible refine Below.drew ?_) | (with_reducible refine bdrewN ?_ _) | ((with_reducible refine Below.alloc ?_ ?_ _); rotate_left 1; focus (first | (simp; done) | (simp; omega) | omega)))) (hb.mono (by first | (simp; done) | (simp; omega) | omega | (simp [World.setCell]; omega)))
  clear HB17
  have s20 : w.heap.size ≤ w10.heap.size := HB20.out.size
  have z20 : w9.heap.size ≤ w10.heap.size := by have := hb.size; (try simp at this); omega
  clear hb
  go_wp2_with fail
  refine ((sm4.out _ _ _ _ _ _ _ _ _ ?_ ?_ ?_ ?_)).mono ?_
  · repeat (with_reducible first | exact RP620.out | refine Rd.set ?_ QP6C.out _ | refine Rd.set ?_ QP6G.out _ | refine Rd.drew ?_ | refine Rd.drewN ?_ _ | refine Rd.alloc ?_ _)
  · repeat (with_reducible first | exact RS620.out | refine Rd.set ?_ QS6C.out _ | refine Rd.set ?_ QS6G.out _ | refine Rd.drew ?_ | refine Rd.drewN ?_ _ | refine Rd.alloc ?_ _)
  · repeat (with_reducible first | exact RP720.out | refine Rd.set ?_ QP7C.out _ | refine Rd.set ?_ QP7G.out _ | refine Rd.set ?_ QP7V6.out _ | refine Rd.drew ?_ | refine Rd.drewN ?_ _ | refine Rd.alloc ?_ _)
  · repeat (with_reducible first | exact RS720.out | refine Rd.set ?_ QS7C.out _ | refine Rd.set ?_ QS7G.out _ | refine Rd.set ?_ QS7V6.out _ | refine Rd.drew ?_ | refine Rd.drewN ?_ _ | refine Rd.alloc ?_ _)
  rintro e w11 ⟨rfl, hb⟩
  have HXC21 : Hid (w11.heap[w.heap.size]? = some (.cells _ _ (0, 0))) := box_keep (by repeat (first | (with_reducible exact HXC20.out) | ((with_reducible refine heap_new_at _ ?_); focus (first | (with_reducible rfl) | (simp; done))) | (with_reducible refine box_alloc ?_ _) | (with_reducible apply box_set) | ((with_reducible refine box_far ?_ ?_ _); rotate_left 1; focus (first | (simp; done) | (simp; omega) | omega)) | (with_reducible refine box_drew ?_) | (with_reducible refine box_drewN ?_ _))) hb
  try simp only [List.setIfInBounds_toArray, List.set_cons_zero, List.set_cons_succ] at HXC21
  have HXG21 : Hid (w11.heap[w1.heap.size]? = some (.cells _ _ (0, 0))) := box_keep (by repeat (first | (with_reducible exact HXG20.out) | ((with_reducible refine heap_new_at _ ?_); focus (first | (with_reducible rfl) | (simp; done))) | (with_reducible refine box_alloc ?_ _) | (with_reducible apply box_set) | ((with_reducible refine box_far ?_ ?_ _); rotate_left 1; focus (first | (simp; done) | (simp; omega) | omega)) | (with_reducible refine box_drew ?_) | (with_reducible refine box_drewN ?_ _))) hb
  try simp only [List.setIfInBounds_toArray, List.set_cons_zero, List.set_cons_succ] at HXG21
  have HXV621 : Hid (w11.heap[w6.heap.size]? = some (.cells _ _ (0, 0))) := box_keep (by repeat (first | (with_reducible exact HXV620.out) | ((with_reducible refine heap_new_at _ ?_); focus (first | (with_reducible rfl) | (simp; done))) | (with_reducible refine box_alloc ?_ _) | (with_reducible apply box_set) | ((with_reducible refine box_far ?_ ?_ _); rotate_left 1; focus (first | (simp; done) | (simp; omega) | omega)) | (with_reducible refine box_drew ?_) | (with_reducible refine box_drewN ?_ _))) hb
  try simp only [List.setIfInBounds_toArray, List.set_cons_zero, List.set_cons_succ] at HXV621
  have HXV721 : Hid (w11.heap[w7.heap.size]? = some (.cells _ _ (0, 0))) := box_keep (by repeat (first | (with_reducible exact HXV720.out) | ((with_reducible refine heap_new_at _ ?_); focus (first | (with_reducible rfl) | (simp; done))) | (with_reducible refine box_alloc ?_ _) | (with_reducible apply box_set) | ((with_reducible refine box_far ?_ ?_ _); rotate_left 1; focus (first | (simp; done) | (simp; omega) | omega)) | (with_reducible refine box_drew ?_) | (with_reducible refine box_drewN ?_ _))) hb
  try simp only [List.setIfInBounds_toArray, List.set_cons_zero, List.set_cons_succ] at HXV721
  have HXV821 : Hid (w11.heap[w8.heap.size]? = some (.cells _ _ (0, 0))) := box_keep (by repeat (first | (with_reducible exact HXV820.out) | ((with_reducible refine heap_new_at _ ?_); focus (first | (with_reducible rfl) | (simp; done))) | (with_reducible refine box_alloc ?_ _) | (with_reducible apply box_set) | ((with_reducible refine box_far ?_ ?_ _); rotate_left 1; focus (first | (simp; done) | (simp; omega) | omega)) | (with_reducible refine box_drew ?_) | (with_reducible refine box_drewN ?_ _))) hb
  try simp only [List.setIfInBounds_toArray, List.set_cons_zero, List.set_cons_succ] at HXV821
  have HXV921 : Hid (w11.heap[w9.heap.size]? = some (.cells _ _ (0, 0))) := box_keep (by repeat (first | (with_reducible exact HXV920.out) | ((with_reducible refine heap_new_at _ ?_); focus (first | (with_reducible rfl) | (simp; done))) | (with_reducible refine box_alloc ?_ _) | (with_reducible apply box_set) | ((with_reducible refine box_far ?_ ?_ _); rotate_left 1; focus (first | (simp; done) | (simp; omega) | omega)) | (with_reducible refine box_drew ?_) | (with_reducible refine box_drewN ?_ _))) hb
  try simp only [List.setIfInBounds_toArray, List.set_cons_zero, List.set_cons_succ] at HXV921
  clear xC yC
  clear xG yG
  clear xV6 yV6
  clear xV7 yV7
  clear xV8 yV8
  clear xV9 yV9
  obtain ⟨xC, yC⟩ := box_rules HXC21.out
  have lC21 := box_lt HXC21.out
  clear HXC20
  obtain ⟨xG, yG⟩ := box_rules HXG21.out
  have lG21 := box_lt HXG21.out
  clear HXG20
  obtain ⟨xV6, yV6⟩ := box_rules HXV621.out
  have lV621 := box_lt HXV621.out
  clear HXV620
  obtain ⟨xV7, yV7⟩ := box_rules HXV721.out
  have lV721 := box_lt HXV721.out
  clear HXV720
  obtain ⟨xV8, yV8⟩ := box_rules HXV821.out
  have lV821 := box_lt HXV821.out
  clear HXV820
  obtain ⟨xV9, yV9⟩ := box_rules HXV921.out
  have lV921 := box_lt HXV921.out
  clear HXV920
  have RP121 : Hid (Rd w11 qA (d.prio.map (.int .i64))) := Rd.below (by repeat (with_reducible first | exact RP120.out | refine Rd.set ?_ QP1C.out _ | refine Rd.drew ?_ | refine Rd.drewN ?_ _ | refine Rd.alloc ?_ _)) hb
  clear RP120
  have RS121 : Hid (Rd w11 tA (d.stack.map (.int .i64))) := Rd.below (by repeat (with_reducible first | exact RS120.out | refine Rd.set ?_ QS1C.out _ | refine Rd.drew ?_ | refine Rd.drewN ?_ _ | refine Rd.alloc ?_ _)) hb
  clear RS120
  have RP621 : Hid (Rd w11 A6 (x4.1.prio.map (.int .i64))) := Rd.below (by repeat (with_reducible first | exact RP620.out | refine Rd.set ?_ QP6C.out _ | refine Rd.set ?_ QP6G.out _ | refine Rd.drew ?_ | refine Rd.drewN ?_ _ | refine Rd.alloc ?_ _)) hb
  clear RP620
  have RS621 : Hid (Rd w11 B6 (x4.1.stack.map (.int .i64))) := Rd.below (by repeat (with_reducible first | exact RS620.out | refine Rd.set ?_ QS6C.out _ | refine Rd.set ?_ QS6G.out _ | refine Rd.drew ?_ | refine Rd.drewN ?_ _ | refine Rd.alloc ?_ _)) hb
  clear RS620
  have RP721 : Hid (Rd w11 A7 (x4.1.prio.map (.int .i64))) := Rd.below (by repeat (with_reducible first | exact RP720.out | refine Rd.set ?_ QP7C.out _ | refine Rd.set ?_ QP7G.out _ | refine Rd.set ?_ QP7V6.out _ | refine Rd.drew ?_ | refine Rd.drewN ?_ _ | refine Rd.alloc ?_ _)) hb
  clear RP720
  have RS721 : Hid (Rd w11 B7 (x4.1.stack.map (.int .i64))) := Rd.below (by repeat (with_reducible first | exact RS720.out | refine Rd.set ?_ QS7C.out _ | refine Rd.set ?_ QS7G.out _ | refine Rd.set ?_ QS7V6.out _ | refine Rd.drew ?_ | refine Rd.drewN ?_ _ | refine Rd.alloc ?_ _)) hb
  clear RS720
  have RP821 : Hid (Rd w11 A8 (x5.1.prio.map (.int .i64))) := Rd.below (by repeat (with_reducible first | exact RP820.out | refine Rd.set ?_ QP8C.out _ | refine Rd.set ?_ QP8G.out _ | refine Rd.set ?_ QP8V6.out _ | refine Rd.set ?_ QP8V7.out _ | refine Rd.drew ?_ | refine Rd.drewN ?_ _ | refine Rd.alloc ?_ _)) hb
  clear RP820
  have RS821 : Hid (Rd w11 B8 (x5.1.stack.map (.int .i64))) := Rd.below (by repeat (with_reducible first | exact RS820.out | refine Rd.set ?_ QS8C.out _ | refine Rd.set ?_ QS8G.out _ | refine Rd.set ?_ QS8V6.out _ | refine Rd.set ?_ QS8V7.out _ | refine Rd.drew ?_ | refine Rd.drewN ?_ _ | refine Rd.alloc ?_ _)) hb
  clear RS820
  have RP921 : Hid (Rd w11 A9 (x5.1.prio.map (.int .i64))) := Rd.below (by repeat (with_reducible first | exact RP920.out | refine Rd.set ?_ QP9C.out _ | refine Rd.set ?_ QP9G.out _ | refine Rd.set ?_ QP9V6.out _ | refine Rd.set ?_ QP9V7.out _ | refine Rd.set ?_ QP9V8.out _ | refine Rd.drew ?_ | refine Rd.drewN ?_ _ | refine Rd.alloc ?_ _)) hb
  clear RP920
  have RS921 : Hid (Rd w11 B9 (x5.1.stack.map (.int .i64))) := Rd.below (by repeat (with_reducible first | exact RS920.out | refine Rd.set ?_ QS9C.out _ | refine Rd.set ?_ QS9G.out _ | refine Rd.set ?_ QS9V6.out _ | refine Rd.set ?_ QS9V7.out _ | refine Rd.set ?_ QS9V8.out _ | refine Rd.drew ?_ | refine Rd.drewN ?_ _ | refine Rd.alloc ?_ _)) hb
  clear RS920
  have HB21 : Hid (Below w.heap.size w w11) := Below.trans (by repeat (first | (with_reducible exact HB20.out) | (with_reducible refine Below.setCell ?_ leC _) | (with_reducible refine Below.setCell ?_ leG _) | (with_reducible refine Below.setCell ?_ leV6 _) | (with_reducible refine Below.setCell ?_ leV7 _) | (with_reducible refine Below.setCell ?_ leV8 _) | (with_reducible refine Below.setCell ?_ leV9 _) | (with_reducible refine Below.drew ?_) | (with_reducible refine bdrewN ?_ _) | ((with_reducible refine Below.alloc ?_ ?_ _); rotate_left 1; focus (first | (simp; done) | (simp; omega) | omega)))) (hb.mono (by first | (simp; done) | (simp; omega) | omega | (simp [World.setCell]; omega)))
  clear HB20
  have s21 : w.heap.size ≤ w11.heap.size := HB21.out.size
  have z21 : w10.heap.size ≤ w11.heap.size := by have := hb.size; (try simp at this); omega
  clear hb
  go_wp2_with fail
  refine ((sm5.out _ _ _ _ _ _ _ _ _ ?_ ?_ ?_ ?_)).mono ?_
  · repeat (with_reducible first | exact RP821.out | refine Rd.set ?_ QP8C.out _ | refine Rd.set ?_ QP8G.out _ | refine Rd.set ?_ QP8V6.out _ | refine Rd.set ?_ QP8V7.out _ | refine Rd.drew ?_ | refine Rd.drewN ?_ _ | refine Rd.alloc ?_ _)
  · repeat (with_reducible first | exact RS821.out | refine Rd.set ?_ QS8C.out _ | refine Rd.set ?_ QS8G.out _ | refine Rd.set ?_ QS8V6.out _ | refine Rd.set ?_ QS8V7.out _ | refine Rd.drew ?_ | refine Rd.drewN ?_ _ | refine Rd.alloc ?_ _)
  · repeat (with_reducible first | exact RP921.out | refine Rd.set ?_ QP9C.out _ | refine Rd.set ?_ QP9G.out _ | refine Rd.set ?_ QP9V6.out _ | refine Rd.set ?_ QP9V7.out _ | refine Rd.set ?_ QP9V8.out _ | refine Rd.drew ?_ | refine Rd.drewN ?_ _ | refine Rd.alloc ?_ _)
  · repeat (with_reducible first | exact RS921.out | refine Rd.set ?_ QS9C.out _ | refine Rd.set ?_ QS9G.out _ | refine Rd.set ?_ QS9V6.out _ | refine Rd.set ?_ QS9V7.out _ | refine Rd.set ?_ QS9V8.out _ | refine Rd.drew ?_ | refine Rd.drewN ?_ _ | refine Rd.alloc ?_ _)
  rintro e w12 ⟨rfl, hb⟩
  have HXC22 : Hid (w12.heap[w.heap.size]? = some (.cells _ _ (0, 0))) := box_keep (by repeat (first | (with_reducible exact HXC21.out) | ((with_reducible refine heap_new_at _ ?_); focus (first | (with_reducible rfl) | (simp; done))) | (with_reducible refine box_alloc ?_ _) | (with_reducible apply box_set) | ((with_reducible refine box_far ?_ ?_ _); rotate_left 1; focus (first | (simp; done) | (simp; omega) | omega)) | (with_reducible refine box_drew ?_) | (with_reducible refine box_drewN ?_ _))) hb
  try simp only [List.setIfInBounds_toArray, List.set_cons_zero, List.set_cons_succ] at HXC22
  have HXG22 : Hid (w12.heap[w1.heap.size]? = some (.cells _ _ (0, 0))) := box_keep (by repeat (first | (with_reducible exact HXG21.out) | ((with_reducible refine heap_new_at _ ?_); focus (first | (with_reducible rfl) | (simp; done))) | (with_reducible refine box_alloc ?_ _) | (with_reducible apply box_set) | ((with_reducible refine box_far ?_ ?_ _); rotate_left 1; focus (first | (simp; done) | (simp; omega) | omega)) | (with_reducible refine box_drew ?_) | (with_reducible refine box_drewN ?_ _))) hb
  try simp only [List.setIfInBounds_toArray, List.set_cons_zero, List.set_cons_succ] at HXG22
  have HXV622 : Hid (w12.heap[w6.heap.size]? = some (.cells _ _ (0, 0))) := box_keep (by repeat (first | (with_reducible exact HXV621.out) | ((with_reducible refine heap_new_at _ ?_); focus (first | (with_reducible rfl) | (simp; done))) | (with_reducible refine box_alloc ?_ _) | (with_reducible apply box_set) | ((with_reducible refine box_far ?_ ?_ _); rotate_left 1; focus (first | (simp; done) | (simp; omega) | omega)) | (with_reducible refine box_drew ?_) | (with_reducible refine box_drewN ?_ _))) hb
  try simp only [List.setIfInBounds_toArray, List.set_cons_zero, List.set_cons_succ] at HXV622
  have HXV722 : Hid (w12.heap[w7.heap.size]? = some (.cells _ _ (0, 0))) := box_keep (by repeat (first | (with_reducible exact HXV721.out) | ((with_reducible refine heap_new_at _ ?_); focus (first | (with_reducible rfl) | (simp; done))) | (with_reducible refine box_alloc ?_ _) | (with_reducible apply box_set) | ((with_reducible refine box_far ?_ ?_ _); rotate_left 1; focus (first | (simp; done) | (simp; omega) | omega)) | (with_reducible refine box_drew ?_) | (with_reducible refine box_drewN ?_ _))) hb
  try simp only [List.setIfInBounds_toArray, List.set_cons_zero, List.set_cons_succ] at HXV722
  have HXV822 : Hid (w12.heap[w8.heap.size]? = some (.cells _ _ (0, 0))) := box_keep (by repeat (first | (with_reducible exact HXV821.out) | ((with_reducible refine heap_new_at _ ?_); focus (first | (with_reducible rfl) | (simp; done))) | (with_reducible refine box_alloc ?_ _) | (with_reducible apply box_set) | ((with_reducible refine box_far ?_ ?_ _); rotate_left 1; focus (first | (simp; done) | (simp; omega) | omega)) | (with_reducible refine box_drew ?_) | (with_reducible refine box_drewN ?_ _))) hb
  try simp only [List.setIfInBounds_toArray, List.set_cons_zero, List.set_cons_succ] at HXV822
  have HXV922 : Hid (w12.heap[w9.heap.size]? = some (.cells _ _ (0, 0))) := box_keep (by repeat (first | (with_reducible exact HXV921.out) | ((with_reducible refine heap_new_at _ ?_); focus (first | (with_reducible rfl) | (simp; done))) | (with_reducible refine box_alloc ?_ _) | (with_reducible apply box_set) | ((with_reducible refine box_far ?_ ?_ _); rotate_left 1; focus (first | (simp; done) | (simp; omega) | omega)) | (with_reducible refine box_drew ?_) | (with_reducible refine box_drewN ?_ _))) hb
  try simp only [List.setIfInBounds_toArray, List.set_cons_zero, List.set_cons_succ] at HXV922
  clear xC yC
  clear xG yG
  clear xV6 yV6
  clear xV7 yV7
  clear xV8 yV8
  clear xV9 yV9
  obtain ⟨xC, yC⟩ := box_rules HXC22.out
  have lC22 := box_lt HXC22.out
  clear HXC21
  obtain ⟨xG, yG⟩ := box_rules HXG22.out
  have lG22 := box_lt HXG22.out
  clear HXG21
  obtain ⟨xV6, yV6⟩ := box_rules HXV622.out
  have lV622 := box_lt HXV622.out
  clear HXV621
  obtain ⟨xV7, yV7⟩ := box_rules HXV722.out
  have lV722 := box_lt HXV722.out
  clear HXV721
  obtain ⟨xV8, yV8⟩ := box_rules HXV822.out
  have lV822 := box_lt HXV822.out
  clear HXV821
  obtain ⟨xV9, yV9⟩ := box_rules HXV922.out
  have lV922 := box_lt HXV922.out
  clear HXV921
  have RP122 : Hid (Rd w12 qA (d.prio.map (.int .i64))) := Rd.below (by repeat (with_reducible first | exact RP121.out | refine Rd.set ?_ QP1C.out _ | refine Rd.drew ?_ | refine Rd.drewN ?_ _ | refine Rd.alloc ?_ _)) hb
  clear RP121
  have RS122 : Hid (Rd w12 tA (d.stack.map (.int .i64))) := Rd.below (by repeat (with_reducible first | exact RS121.out | refine Rd.set ?_ QS1C.out _ | refine Rd.drew ?_ | refine Rd.drewN ?_ _ | refine Rd.alloc ?_ _)) hb
  clear RS121
  have RP622 : Hid (Rd w12 A6 (x4.1.prio.map (.int .i64))) := Rd.below (by repeat (with_reducible first | exact RP621.out | refine Rd.set ?_ QP6C.out _ | refine Rd.set ?_ QP6G.out _ | refine Rd.drew ?_ | refine Rd.drewN ?_ _ | refine Rd.alloc ?_ _)) hb
  clear RP621
  have RS622 : Hid (Rd w12 B6 (x4.1.stack.map (.int .i64))) := Rd.below (by repeat (with_reducible first | exact RS621.out | refine Rd.set ?_ QS6C.out _ | refine Rd.set ?_ QS6G.out _ | refine Rd.drew ?_ | refine Rd.drewN ?_ _ | refine Rd.alloc ?_ _)) hb
  clear RS621
  have RP722 : Hid (Rd w12 A7 (x4.1.prio.map (.int .i64))) := Rd.below (by repeat (with_reducible first | exact RP721.out | refine Rd.set ?_ QP7C.out _ | refine Rd.set ?_ QP7G.out _ | refine Rd.set ?_ QP7V6.out _ | refine Rd.drew ?_ | refine Rd.drewN ?_ _ | refine Rd.alloc ?_ _)) hb
  clear RP721
  have RS722 : Hid (Rd w12 B7 (x4.1.stack.map (.int .i64))) := Rd.below (by repeat (with_reducible first | exact RS721.out | refine Rd.set ?_ QS7C.out _ | refine Rd.set ?_ QS7G.out _ | refine Rd.set ?_ QS7V6.out _ | refine Rd.drew ?_ | refine Rd.drewN ?_ _ | refine Rd.alloc ?_ _)) hb
  clear RS721
  have RP822 : Hid (Rd w12 A8 (x5.1.prio.map (.int .i64))) := Rd.below (by repeat (with_reducible first | exact RP821.out | refine Rd.set ?_ QP8C.out _ | refine Rd.set ?_ QP8G.out _ | refine Rd.set ?_ QP8V6.out _ | refine Rd.set ?_ QP8V7.out _ | refine Rd.drew ?_ | refine Rd.drewN ?_ _ | refine Rd.alloc ?_ _)) hb
  clear RP821
  have RS822 : Hid (Rd w12 B8 (x5.1.stack.map (.int .i64))) := Rd.below (by repeat (with_reducible first | exact RS821.out | refine Rd.set ?_ QS8C.out _ | refine Rd.set ?_ QS8G.out _ | refine Rd.set ?_ QS8V6.out _ | refine Rd.set ?_ QS8V7.out _ | refine Rd.drew ?_ | refine Rd.drewN ?_ _ | refine Rd.alloc ?_ _)) hb
  clear RS821
  have RP922 : Hid (Rd w12 A9 (x5.1.prio.map (.int .i64))) := Rd.below (by repeat (with_reducible first | exact RP921.out | refine Rd.set ?_ QP9C.out _ | refine Rd.set ?_ QP9G.out _ | refine Rd.set ?_ QP9V6.out _ | refine Rd.set ?_ QP9V7.out _ | refine Rd.set ?_ QP9V8.out _ | refine Rd.drew ?_ | refine Rd.drewN ?_ _ | refine Rd.alloc ?_ _)) hb
  clear RP921
  have RS922 : Hid (Rd w12 B9 (x5.1.stack.map (.int .i64))) := Rd.below (by repeat (with_reducible first | exact RS921.out | refine Rd.set ?_ QS9C.out _ | refine Rd.set ?_ QS9G.out _ | refine Rd.set ?_ QS9V6.out _ | refine Rd.set ?_ QS9V7.out _ | refine Rd.set ?_ QS9V8.out _ | refine Rd.drew ?_ | refine Rd.drewN ?_ _ | refine Rd.alloc ?_ _)) hb
  clear RS921
  have HB22 : Hid (Below w.heap.size w w12) := Below.trans (by repeat (first | (with_reducible exact HB21.out) | (with_reducible refine Below.setCell ?_ leC _) | (with_reducible refine Below.setCell ?_ leG _) | (with_reducible refine Below.setCell ?_ leV6 _) | (with_reducible refine Below.setCell ?_ leV7 _) | (with_reducible refine Below.setCell ?_ leV8 _) | (with_reducible refine Below.setCell ?_ leV9 _) | (with_reducible refine Below.drew ?_) | (with_reducible refine bdrewN ?_ _) | ((with_reducible refine Below.alloc ?_ ?_ _); rotate_left 1; focus (first | (simp; done) | (simp; omega) | omega)))) (hb.mono (by first | (simp; done) | (simp; omega) | omega | (simp [World.setCell]; omega)))
  clear HB21
  have s22 : w.heap.size ≤ w12.heap.size := HB22.out.size
  have z22 : w11.heap.size ≤ w12.heap.size := by have := hb.size; (try simp at this); omega
  clear hb
  go_wp2_with fail
  refine ((sm0.out _ _ _ _ _ _ _ _ _ ?_ ?_ ?_ ?_)).mono ?_
  · repeat (with_reducible first | exact RP122.out | refine Rd.set ?_ QP1C.out _ | refine Rd.drew ?_ | refine Rd.drewN ?_ _ | refine Rd.alloc ?_ _)
  · repeat (with_reducible first | exact RS122.out | refine Rd.set ?_ QS1C.out _ | refine Rd.drew ?_ | refine Rd.drewN ?_ _ | refine Rd.alloc ?_ _)
  · exact Rd.below Hp.out (by repeat (first | (with_reducible exact HB22.out) | (with_reducible refine Below.setCell ?_ leC _) | (with_reducible refine Below.setCell ?_ leG _) | (with_reducible refine Below.setCell ?_ leV6 _) | (with_reducible refine Below.setCell ?_ leV7 _) | (with_reducible refine Below.setCell ?_ leV8 _) | (with_reducible refine Below.setCell ?_ leV9 _) | (with_reducible refine Below.drew ?_) | (with_reducible refine bdrewN ?_ _) | ((with_reducible refine Below.alloc ?_ ?_ _); rotate_left 1; focus (first | (simp; done) | (simp; omega) | omega))))
  · exact Rd.below Hs.out (by repeat (first | (with_reducible exact HB22.out) | (with_reducible refine Below.setCell ?_ leC _) | (with_reducible refine Below.setCell ?_ leG _) | (with_reducible refine Below.setCell ?_ leV6 _) | (with_reducible refine Below.setCell ?_ leV7 _) | (with_reducible refine Below.setCell ?_ leV8 _) | (with_reducible refine Below.setCell ?_ leV9 _) | (with_reducible refine Below.drew ?_) | (with_reducible refine bdrewN ?_ _) | ((with_reducible refine Below.alloc ?_ ?_ _); rotate_left 1; focus (first | (simp; done) | (simp; omega) | omega))))
  rintro e w13 ⟨rfl, hb⟩
  have HXC23 : Hid (w13.heap[w.heap.size]? = some (.cells _ _ (0, 0))) := box_keep (by repeat (first | (with_reducible exact HXC22.out) | ((with_reducible refine heap_new_at _ ?_); focus (first | (with_reducible rfl) | (simp; done))) | (with_reducible refine box_alloc ?_ _) | (with_reducible apply box_set) | ((with_reducible refine box_far ?_ ?_ _); rotate_left 1; focus (first | (simp; done) | (simp; omega) | omega)) | (with_reducible refine box_drew ?_) | (with_reducible refine box_drewN ?_ _))) hb
  try simp only [List.setIfInBounds_toArray, List.set_cons_zero, List.set_cons_succ] at HXC23
  have HXG23 : Hid (w13.heap[w1.heap.size]? = some (.cells _ _ (0, 0))) := box_keep (by repeat (first | (with_reducible exact HXG22.out) | ((with_reducible refine heap_new_at _ ?_); focus (first | (with_reducible rfl) | (simp; done))) | (with_reducible refine box_alloc ?_ _) | (with_reducible apply box_set) | ((with_reducible refine box_far ?_ ?_ _); rotate_left 1; focus (first | (simp; done) | (simp; omega) | omega)) | (with_reducible refine box_drew ?_) | (with_reducible refine box_drewN ?_ _))) hb
  try simp only [List.setIfInBounds_toArray, List.set_cons_zero, List.set_cons_succ] at HXG23
  have HXV623 : Hid (w13.heap[w6.heap.size]? = some (.cells _ _ (0, 0))) := box_keep (by repeat (first | (with_reducible exact HXV622.out) | ((with_reducible refine heap_new_at _ ?_); focus (first | (with_reducible rfl) | (simp; done))) | (with_reducible refine box_alloc ?_ _) | (with_reducible apply box_set) | ((with_reducible refine box_far ?_ ?_ _); rotate_left 1; focus (first | (simp; done) | (simp; omega) | omega)) | (with_reducible refine box_drew ?_) | (with_reducible refine box_drewN ?_ _))) hb
  try simp only [List.setIfInBounds_toArray, List.set_cons_zero, List.set_cons_succ] at HXV623
  have HXV723 : Hid (w13.heap[w7.heap.size]? = some (.cells _ _ (0, 0))) := box_keep (by repeat (first | (with_reducible exact HXV722.out) | ((with_reducible refine heap_new_at _ ?_); focus (first | (with_reducible rfl) | (simp; done))) | (with_reducible refine box_alloc ?_ _) | (with_reducible apply box_set) | ((with_reducible refine box_far ?_ ?_ _); rotate_left 1; focus (first | (simp; done) | (simp; omega) | omega)) | (with_reducible refine box_drew ?_) | (with_reducible refine box_drewN ?_ _))) hb
  try simp only [List.setIfInBounds_toArray, List.set_cons_zero, List.set_cons_succ] at HXV723
  have HXV823 : Hid (w13.heap[w8.heap.size]? = some (.cells _ _ (0, 0))) := box_keep (by repeat (first | (with_reducible exact HXV822.out) | ((with_reducible refine heap_new_at _ ?_); focus (first | (with_reducible rfl) | (simp; done))) | (with_reducible refine box_alloc ?_ _) | (with_reducible apply box_set) | ((with_reducible refine box_far ?_ ?_ _); rotate_left 1; focus (first | (simp; done) | (simp; omega) | omega)) | (with_reducible refine box_drew ?_) | (with_reducible refine box_drewN ?_ _))) hb
  try simp only [List.setIfInBounds_toArray, List.set_cons_zero, List.set_cons_succ] at HXV823
  have HXV923 : Hid (w13.heap[w9.heap.size]? = some (.cells _ _ (0, 0))) := box_keep (by repeat (first | (with_reducible exact HXV922.out) | ((with_reducible refine heap_new_at _ ?_); focus (first | (with_reducible rfl) | (simp; done))) | (with_reducible refine box_alloc ?_ _) | (with_reducible apply box_set) | ((with_reducible refine box_far ?_ ?_ _); rotate_left 1; focus (first | (simp; done) | (simp; omega) | omega)) | (with_reducible refine box_drew ?_) | (with_reducible refine box_drewN ?_ _))) hb
  try simp only [List.setIfInBounds_toArray, List.set_cons_zero, List.set_cons_succ] at HXV923
  clear xC yC
  clear xG yG
  clear xV6 yV6
  clear xV7 yV7
  clear xV8 yV8
  clear xV9 yV9
  obtain ⟨xC, yC⟩ := box_rules HXC23.out
  have lC23 := box_lt HXC23.out
  clear HXC22
  obtain ⟨xG, yG⟩ := box_rules HXG23.out
  have lG23 := box_lt HXG23.out
  clear HXG22
  obtain ⟨xV6, yV6⟩ := box_rules HXV623.out
  have lV623 := box_lt HXV623.out
  clear HXV622
  obtain ⟨xV7, yV7⟩ := box_rules HXV723.out
  have lV723 := box_lt HXV723.out
  clear HXV722
  obtain ⟨xV8, yV8⟩ := box_rules HXV823.out
  have lV823 := box_lt HXV823.out
  clear HXV822
  obtain ⟨xV9, yV9⟩ := box_rules HXV923.out
  have lV923 := box_lt HXV923.out
  clear HXV922
  have RP123 : Hid (Rd w13 qA (d.prio.map (.int .i64))) := Rd.below (by repeat (with_reducible first | exact RP122.out | refine Rd.set ?_ QP1C.out _ | refine Rd.drew ?_ | refine Rd.drewN ?_ _ | refine Rd.alloc ?_ _)) hb
  clear RP122
  have RS123 : Hid (Rd w13 tA (d.stack.map (.int .i64))) := Rd.below (by repeat (with_reducible first | exact RS122.out | refine Rd.set ?_ QS1C.out _ | refine Rd.drew ?_ | refine Rd.drewN ?_ _ | refine Rd.alloc ?_ _)) hb
  clear RS122
  have RP623 : Hid (Rd w13 A6 (x4.1.prio.map (.int .i64))) := Rd.below (by repeat (with_reducible first | exact RP622.out | refine Rd.set ?_ QP6C.out _ | refine Rd.set ?_ QP6G.out _ | refine Rd.drew ?_ | refine Rd.drewN ?_ _ | refine Rd.alloc ?_ _)) hb
  clear RP622
  have RS623 : Hid (Rd w13 B6 (x4.1.stack.map (.int .i64))) := Rd.below (by repeat (with_reducible first | exact RS622.out | refine Rd.set ?_ QS6C.out _ | refine Rd.set ?_ QS6G.out _ | refine Rd.drew ?_ | refine Rd.drewN ?_ _ | refine Rd.alloc ?_ _)) hb
  clear RS622
  have RP723 : Hid (Rd w13 A7 (x4.1.prio.map (.int .i64))) := Rd.below (by repeat (with_reducible first | exact RP722.out | refine Rd.set ?_ QP7C.out _ | refine Rd.set ?_ QP7G.out _ | refine Rd.set ?_ QP7V6.out _ | refine Rd.drew ?_ | refine Rd.drewN ?_ _ | refine Rd.alloc ?_ _)) hb
  clear RP722
  have RS723 : Hid (Rd w13 B7 (x4.1.stack.map (.int .i64))) := Rd.below (by repeat (with_reducible first | exact RS722.out | refine Rd.set ?_ QS7C.out _ | refine Rd.set ?_ QS7G.out _ | refine Rd.set ?_ QS7V6.out _ | refine Rd.drew ?_ | refine Rd.drewN ?_ _ | refine Rd.alloc ?_ _)) hb
  clear RS722
  have RP823 : Hid (Rd w13 A8 (x5.1.prio.map (.int .i64))) := Rd.below (by repeat (with_reducible first | exact RP822.out | refine Rd.set ?_ QP8C.out _ | refine Rd.set ?_ QP8G.out _ | refine Rd.set ?_ QP8V6.out _ | refine Rd.set ?_ QP8V7.out _ | refine Rd.drew ?_ | refine Rd.drewN ?_ _ | refine Rd.alloc ?_ _)) hb
  clear RP822
  have RS823 : Hid (Rd w13 B8 (x5.1.stack.map (.int .i64))) := Rd.below (by repeat (with_reducible first | exact RS822.out | refine Rd.set ?_ QS8C.out _ | refine Rd.set ?_ QS8G.out _ | refine Rd.set ?_ QS8V6.out _ | refine Rd.set ?_ QS8V7.out _ | refine Rd.drew ?_ | refine Rd.drewN ?_ _ | refine Rd.alloc ?_ _)) hb
  clear RS822
  have RP923 : Hid (Rd w13 A9 (x5.1.prio.map (.int .i64))) := Rd.below (by repeat (with_reducible first | exact RP922.out | refine Rd.set ?_ QP9C.out _ | refine Rd.set ?_ QP9G.out _ | refine Rd.set ?_ QP9V6.out _ | refine Rd.set ?_ QP9V7.out _ | refine Rd.set ?_ QP9V8.out _ | refine Rd.drew ?_ | refine Rd.drewN ?_ _ | refine Rd.alloc ?_ _)) hb
  clear RP922
  have RS923 : Hid (Rd w13 B9 (x5.1.stack.map (.int .i64))) := Rd.below (by repeat (with_reducible first | exact RS922.out | refine Rd.set ?_ QS9C.out _ | refine Rd.set ?_ QS9G.out _ | refine Rd.set ?_ QS9V6.out _ | refine Rd.set ?_ QS9V7.out _ | refine Rd.set ?_ QS9V8.out _ | refine Rd.drew ?_ | refine Rd.drewN ?_ _ | refine Rd.alloc ?_ _)) hb
  clear RS922
  have HB23 : Hid (Below w.heap.size w w13) := Below.trans (by repeat (first | (with_reducible exact HB22.out) | (with_reducible refine Below.setCell ?_ leC _) | (with_reducible refine Below.setCell ?_ leG _) | (with_reducible refine Below.setCell ?_ leV6 _) | (with_reducible refine Below.setCell ?_ leV7 _) | (with_reducible refine Below.setCell ?_ leV8 _) | (with_reducible refine Below.setCell ?_ leV9 _) | (with_reducible refine Below.drew ?_) | (with_reducible refine bdrewN ?_ _) | ((with_reducible refine Below.alloc ?_ ?_ _); rotate_left 1; focus (first | (simp; done) | (simp; omega) | omega)))) (hb.mono (by first | (simp; done) | (simp; omega) | omega | (simp [World.setCell]; omega)))
  clear HB22
  have s23 : w.heap.size ≤ w13.heap.size := HB23.out.size
  have z23 : w12.heap.size ≤ w13.heap.size := by have := hb.size; (try simp at this); omega
  clear hb
  go_wp2_with fail
  go_ret
  exact ⟨rfl, HB23.out⟩
end Go.Proofs.YtbhjkfeonhddlaaDoor

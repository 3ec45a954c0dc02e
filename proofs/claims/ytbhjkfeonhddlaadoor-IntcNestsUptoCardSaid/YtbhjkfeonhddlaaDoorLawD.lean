/- vergelaw06: the walk of IntcTurns. Conditions: words below 2^64, lists that read, the de Bruijn table as its initialiser lays it. -/
import Derived.Test.YtbhjkfeonhddlaaDoorLawC
import Derived.Deep.RegionHeld3
namespace Go.Proofs.YtbhjkfeonhddlaaDoor
open Go.RowKit Go.Shelf

open Classical in
noncomputable def IC.why (d : IC) : Int := if d.ok then 0 else 2
theorem checkW (d : IC) (hf : d.Fits) (pA : Option Addr) (pc : Nat) (sA : Option Addr) (sc : Nat) (w : World) (hp : Rd w pA (d.prio.map (.int .i64))) (hs : Rd w sA (d.stack.map (.int .i64))) :
    Calls Tryd.prog 23 #[icv d pA pc sA sc] w fun e w' => e = .returned (.int .i64 d.why) ∧ Below w.heap.size w w' := by
  refine (check_any d hf pA pc sA sc w hp hs).mono ?_
  rintro e w' ⟨⟨z, rfl, hz⟩, hb⟩
  refine ⟨ret_int ?_, hb⟩
  unfold IC.why
  rcases hz with ⟨h, rfl⟩ | ⟨h, rfl⟩ <;> simp [h]
theorem rcheckW (d : IC) (hf : d.Fits) (pA : Option Addr) (pc : Nat) (sA : Option Addr) (sc : Nat) (w : World) (hp : Rd w pA (d.prio.map (.int .i64))) (hs : Rd w sA (d.stack.map (.int .i64))) :
    Calls Tryd.prog 32 #[icv d pA pc sA sc] w fun e w' => e = .returned (.int .i64 d.why) ∧ Below w.heap.size w w' := by
  refine (rcheck_any d hf pA pc sA sc w hp hs).mono ?_
  rintro e w' ⟨⟨z, rfl, hz⟩, hb⟩
  refine ⟨ret_int ?_, hb⟩
  unfold IC.why
  rcases hz with ⟨h, rfl⟩ | ⟨h, rfl⟩ <;> simp [h]
theorem fits_on {d : IC} (hf : d.Fits) (line : Int) (f : Nat → IC × Int) (h : ∀ n, (f n).1.Fits) : (d.on line f).1.Fits := by
  unfold IC.on
  split
  · exact IC.zero_fits
  · split
    · exact h _
    · exact hf
theorem fits_raise {d : IC} (hf : d.Fits) (n : Nat) : (d.raiseF n).1.Fits := by
  unfold IC.raiseF
  split
  · split
    · exact hf
    · exact ⟨setB_lt _ _ _, hf.e, hf.r, hf.g, hf.prio, hf.stack⟩
  · refine ⟨?_, hf.e, setB_lt _ _ _, hf.g, hf.prio, hf.stack⟩
    show (if _ then _ else _) < _
    split
    · exact hf.p
    · exact setB_lt _ _ _
theorem fits_lower {d : IC} (hf : d.Fits) (n : Nat) : (d.lowerF n).1.Fits := by
  unfold IC.lowerF
  split
  · exact hf
  · exact ⟨setB_lt _ _ _, hf.e, setB_lt _ _ _, hf.g, hf.prio, hf.stack⟩
theorem fits_enable {d : IC} (hf : d.Fits) (on : Bool) (n : Nat) : (d.enableF on n).1.Fits := ⟨hf.p, setB_lt _ _ _, hf.r, hf.g, hf.prio, hf.stack⟩
theorem fits_limit {d : IC} (hf : d.Fits) (t : Int) : (d.limitF t).1.Fits := by
  unfold IC.limitF
  split
  · exact ⟨hf.p, hf.e, hf.r, hf.g, hf.prio, hf.stack⟩
  · exact hf
theorem fits_make {g : Nat} (hg : g < 18446744073709551616) {l : List Int} (hl : l.length ≤ 549755813888) : (makeC g l).1.Fits := by
  unfold makeC
  split
  · exact freshC_fits hg hl
  · exact IC.zero_fits
theorem S_call {W w1 w2 : World} (hS : Hid (Below W.heap.size W w1)) (hb : Below w1.heap.size w1 w2) : Hid (Below W.heap.size W w2) := hS.out.trans (hb.mono hS.out.size)
theorem S_refl (W : World) : Hid (Below W.heap.size W W.drew) := (Below.refl _ _).drew

set_option maxRecDepth 100000 in
set_option maxHeartbeats 16000000 in
theorem turns_any (d : IC) (hf : d.Fits) (line : Int) (on : Bool) (g : Nat) (hg : g < 18446744073709551616) (l : List Int) (hl : l.length ≤ 549755813888) (A : Option Addr) (c : Nat) (pA : Option Addr) (pc : Nat) (sA : Option Addr) (sc : Nat) (w : World) (hp : Rd w pA (d.prio.map (.int .i64))) (hs : Rd w sA (d.stack.map (.int .i64))) (hr : Rd w A (l.map (.int .i64))) (hT : Tab w) :
    Calls Tryd.prog 6 #[icv d pA pc sA sc, .int .i64 line, .bool on, .int .u64 g, .slice A l.length c] w fun e w' => e = .returned (.bool true) ∧ Below w.heap.size w w' := by
  have f0 := Lib.hid (fun w hT => lives_any w hT)
  have f1 := Lib.hid (fun pA pc sA sc w hp hs => raise_any d hf pA pc sA sc line w hp hs)
  have f1' := Lib.hid (fun pA pc sA sc w hp hs => rraise_any d hf pA pc sA sc line w hp hs)
  have f2 := Lib.hid (fun pA pc sA sc w hp hs => lower_any d hf pA pc sA sc line w hp hs)
  have f2' := Lib.hid (fun pA pc sA sc w hp hs => rlower_any d hf pA pc sA sc line w hp hs)
  have f3 := Lib.hid (fun pA pc sA sc w hp hs => enable_any d hf pA pc sA sc line w hp hs on)
  have f3' := Lib.hid (fun pA pc sA sc w hp hs => renable_any d hf pA pc sA sc line w hp hs on)
  have f4 := Lib.hid (fun pA pc sA sc w hp hs => limit_any d hf pA pc sA sc line w hp hs)
  have f4' := Lib.hid (fun pA pc sA sc w hp hs => rlimit_any d hf pA pc sA sc line w hp hs)
  have f5 := Lib.hid (fun A c w hr => make_any g hg l hl A c w hr)
  have f5' := Lib.hid (fun A c w hr => rmake_any g hg l hl A c w hr)
  have f6 := Lib.hid (fun pA pc sA sc w hp hs => checkW d hf pA pc sA sc w hp hs)
  have f6' := Lib.hid (fun pA pc sA sc w hp hs => rcheckW d hf pA pc sA sc w hp hs)
  have sm1 := Lib.hid (fun pA pc sA sc pB pd sB sd w hp hs hp2 hs2 => sameC_eq (d.on line d.raiseF).1 (fits_on hf _ _ (fits_raise hf)) pA pc sA sc pB pd sB sd w hp hs hp2 hs2)
  have sm2 := Lib.hid (fun pA pc sA sc pB pd sB sd w hp hs hp2 hs2 => sameC_eq (d.on line d.lowerF).1 (fits_on hf _ _ (fits_lower hf)) pA pc sA sc pB pd sB sd w hp hs hp2 hs2)
  have sm3 := Lib.hid (fun pA pc sA sc pB pd sB sd w hp hs hp2 hs2 => sameC_eq (d.on line (d.enableF on)).1 (fits_on hf _ _ (fits_enable hf on)) pA pc sA sc pB pd sB sd w hp hs hp2 hs2)
  have sm4 := Lib.hid (fun pA pc sA sc pB pd sB sd w hp hs hp2 hs2 => sameC_eq (d.on 0 fun _ => d.limitF line).1 (fits_on hf _ _ (fun _ => fits_limit hf line)) pA pc sA sc pB pd sB sd w hp hs hp2 hs2)
  have sm5 := Lib.hid (fun pA pc sA sc pB pd sB sd w hp hs hp2 hs2 => sameC_eq (makeC g l).1 (fits_make hg hl) pA pc sA sc pB pd sB sd w hp hs hp2 hs2)
  generalize d.on line d.raiseF = X1 at *
  generalize d.on line d.lowerF = X2 at *
  generalize d.on line (d.enableF on) = X3 at *
  generalize (d.on 0 fun _ => d.limitF line) = X4 at *
  generalize makeC g l = X5 at *
  generalize d.why = z at *
  have HT := Lib.hid hT
  have lT := hT.lt
  have Hp := Lib.hid hp
  have Hs := Lib.hid hs
  have Hr := Lib.hid hr
  clear hT hp hs hr
  unfold icv RetI New at *
  go_enter Tryd.func6, Tryd.ntmps6
  have leV0 : w.heap.size ≤ w.heap.size := by omega
  go_wp2_with fail
  refine (f1.out pA pc sA sc _ ?_ ?_).mono ?_
  · exact Rd.below Hp.out (by repeat (first | (with_reducible exact Below.refl _ _) | (with_reducible refine Below.setCell ?_ leV0 _) | (with_reducible refine Below.drew ?_) | (with_reducible refine bdrewN ?_ _) | ((with_reducible refine Below.alloc ?_ ?_ _); rotate_left 1; focus (first | (simp; done) | (simp; omega) | omega))))
  · exact Rd.below Hs.out (by repeat (first | (with_reducible exact Below.refl _ _) | (with_reducible refine Below.setCell ?_ leV0 _) | (with_reducible refine Below.drew ?_) | (with_reducible refine bdrewN ?_ _) | ((with_reducible refine Below.alloc ?_ ?_ _); rotate_left 1; focus (first | (simp; done) | (simp; omega) | omega))))
  rintro e w1 ⟨A1, k1, B1, j1, rfl, hp, hs, hb, hn⟩
  unfold icv
  have HXV01 : Hid (w1.heap[w.heap.size]? = some (.cells _ _ (0, 0))) := box_keep (by repeat (first | ((with_reducible refine heap_new_at _ ?_); focus (first | (with_reducible rfl) | (simp; done))) | (with_reducible refine box_alloc ?_ _) | (with_reducible apply box_set) | ((with_reducible refine box_far ?_ ?_ _); rotate_left 1; focus (first | (simp; done) | (simp; omega) | omega)) | (with_reducible refine box_drew ?_) | (with_reducible refine box_drewN ?_ _))) hb
  try simp only [List.setIfInBounds_toArray, List.set_cons_zero, List.set_cons_succ] at HXV01
  obtain ⟨xV0, yV0⟩ := box_rules HXV01.out
  have lV01 := box_lt HXV01.out
  have HB1 : Hid (Below w.heap.size w w1) := Below.trans (by repeat (first | (with_reducible exact Below.refl _ _) | (with_reducible refine Below.setCell ?_ leV0 _) | (with_reducible refine Below.drew ?_) | (with_reducible refine bdrewN ?_ _) | ((with_reducible refine Below.alloc ?_ ?_ _); rotate_left 1; focus (first | (simp; done) | (simp; omega) | omega)))) (hb.mono (by first | (simp; done) | (simp; omega) | omega | (simp [World.setCell]; omega)))
  have s1 : w.heap.size ≤ w1.heap.size := HB1.out.size
  have RP1 : Hid (Rd w1 A1 (X1.1.prio.map (.int .i64))) := hp
  have NP1 : Hid (∀ a, A1 = some a → w.heap.size ≤ a.block) := fun a ha => by have := hn.1 a ha; (try simp at this); omega
  have QP1V0 : Hid (∀ a, A1 = some a → a.block ≠ w.heap.size) := fun a ha e => by have := hn.1 a ha; (try simp at this); omega
  have RS1 : Hid (Rd w1 B1 (X1.1.stack.map (.int .i64))) := hs
  have NS1 : Hid (∀ a, B1 = some a → w.heap.size ≤ a.block) := fun a ha => by have := hn.2 a ha; (try simp at this); omega
  have QS1V0 : Hid (∀ a, B1 = some a → a.block ≠ w.heap.size) := fun a ha e => by have := hn.2 a ha; (try simp at this); omega
  have leV1 : w.heap.size ≤ w1.heap.size := by omega
  clear hp hs hb hn
  go_wp2_with fail
  refine (f1'.out pA pc sA sc _ ?_ ?_).mono ?_
  · exact Rd.below Hp.out (by repeat (first | (with_reducible exact HB1.out) | (with_reducible refine Below.setCell ?_ leV0 _) | (with_reducible refine Below.setCell ?_ leV1 _) | (with_reducible refine Below.drew ?_) | (with_reducible refine bdrewN ?_ _) | ((with_reducible refine Below.alloc ?_ ?_ _); rotate_left 1; focus (first | (simp; done) | (simp; omega) | omega))))
  · exact Rd.below Hs.out (by repeat (first | (with_reducible exact HB1.out) | (with_reducible refine Below.setCell ?_ leV0 _) | (with_reducible refine Below.setCell ?_ leV1 _) | (with_reducible refine Below.drew ?_) | (with_reducible refine bdrewN ?_ _) | ((with_reducible refine Below.alloc ?_ ?_ _); rotate_left 1; focus (first | (simp; done) | (simp; omega) | omega))))
  rintro e w2 ⟨A2, k2, B2, j2, rfl, hp, hs, hb, hn⟩
  unfold icv
  have HXV04 : Hid (w2.heap[w.heap.size]? = some (.cells _ _ (0, 0))) := box_keep (by repeat (first | (with_reducible exact HXV01.out) | ((with_reducible refine heap_new_at _ ?_); focus (first | (with_reducible rfl) | (simp; done))) | (with_reducible refine box_alloc ?_ _) | (with_reducible apply box_set) | ((with_reducible refine box_far ?_ ?_ _); rotate_left 1; focus (first | (simp; done) | (simp; omega) | omega)) | (with_reducible refine box_drew ?_) | (with_reducible refine box_drewN ?_ _))) hb
  try simp only [List.setIfInBounds_toArray, List.set_cons_zero, List.set_cons_succ] at HXV04
  have HXV14 : Hid (w2.heap[w1.heap.size]? = some (.cells _ _ (0, 0))) := box_keep (by repeat (first | ((with_reducible refine heap_new_at _ ?_); focus (first | (with_reducible rfl) | (simp; done))) | (with_reducible refine box_alloc ?_ _) | (with_reducible apply box_set) | ((with_reducible refine box_far ?_ ?_ _); rotate_left 1; focus (first | (simp; done) | (simp; omega) | omega)) | (with_reducible refine box_drew ?_) | (with_reducible refine box_drewN ?_ _))) hb
  try simp only [List.setIfInBounds_toArray, List.set_cons_zero, List.set_cons_succ] at HXV14
  clear xV0 yV0
  obtain ⟨xV0, yV0⟩ := box_rules HXV04.out
  have lV04 := box_lt HXV04.out
  clear HXV01
  obtain ⟨xV1, yV1⟩ := box_rules HXV14.out
  have lV14 := box_lt HXV14.out
  have RP14 : Hid (Rd w2 A1 (X1.1.prio.map (.int .i64))) := Rd.below (by repeat (with_reducible first | exact RP1.out | refine Rd.set ?_ QP1V0.out _ | refine Rd.drew ?_ | refine Rd.drewN ?_ _ | refine Rd.alloc ?_ _)) hb
  clear RP1
  have RS14 : Hid (Rd w2 B1 (X1.1.stack.map (.int .i64))) := Rd.below (by repeat (with_reducible first | exact RS1.out | refine Rd.set ?_ QS1V0.out _ | refine Rd.drew ?_ | refine Rd.drewN ?_ _ | refine Rd.alloc ?_ _)) hb
  clear RS1
  have HB4 : Hid (Below w.heap.size w w2) := Below.trans (by repeat (first | (with_reducible exact HB1.out) | (with_reducible refine Below.setCell ?_ leV0 _) | (with_reducible refine Below.setCell ?_ leV1 _) | (with_reducible refine Below.drew ?_) | (with_reducible refine bdrewN ?_ _) | ((with_reducible refine Below.alloc ?_ ?_ _); rotate_left 1; focus (first | (simp; done) | (simp; omega) | omega)))) (hb.mono (by first | (simp; done) | (simp; omega) | omega | (simp [World.setCell]; omega)))
  clear HB1
  have s4 : w.heap.size ≤ w2.heap.size := HB4.out.size
  have z4 : w1.heap.size ≤ w2.heap.size := by have := hb.size; (try simp at this); omega
  have RP2 : Hid (Rd w2 A2 (X1.1.prio.map (.int .i64))) := hp
  have NP2 : Hid (∀ a, A2 = some a → w.heap.size ≤ a.block) := fun a ha => by have := hn.1 a ha; (try simp at this); omega
  have QP2V0 : Hid (∀ a, A2 = some a → a.block ≠ w.heap.size) := fun a ha e => by have := hn.1 a ha; (try simp at this); omega
  have QP2V1 : Hid (∀ a, A2 = some a → a.block ≠ w1.heap.size) := fun a ha e => by have := hn.1 a ha; (try simp at this); omega
  have RS2 : Hid (Rd w2 B2 (X1.1.stack.map (.int .i64))) := hs
  have NS2 : Hid (∀ a, B2 = some a → w.heap.size ≤ a.block) := fun a ha => by have := hn.2 a ha; (try simp at this); omega
  have QS2V0 : Hid (∀ a, B2 = some a → a.block ≠ w.heap.size) := fun a ha e => by have := hn.2 a ha; (try simp at this); omega
  have QS2V1 : Hid (∀ a, B2 = some a → a.block ≠ w1.heap.size) := fun a ha e => by have := hn.2 a ha; (try simp at this); omega
  have leV2 : w.heap.size ≤ w2.heap.size := by omega
  clear hp hs hb hn
  go_wp2_with fail
  refine (f2.out pA pc sA sc _ ?_ ?_).mono ?_
  · exact Rd.below Hp.out (by repeat (first | (with_reducible exact HB4.out) | (with_reducible refine Below.setCell ?_ leV0 _) | (with_reducible refine Below.setCell ?_ leV1 _) | (with_reducible refine Below.setCell ?_ leV2 _) | (with_reducible refine Below.drew ?_) | (with_reducible refine bdrewN ?_ _) | ((with_reducible refine Below.alloc ?_ ?_ _); rotate_left 1; focus (first | (simp; done) | (simp; omega) | omega))))
  · exact Rd.below Hs.out (by repeat (first | (with_reducible exact HB4.out) | (with_reducible refine Below.setCell ?_ leV0 _) | (with_reducible refine Below.setCell ?_ leV1 _) | (with_reducible refine Below.setCell ?_ leV2 _) | (with_reducible refine Below.drew ?_) | (with_reducible refine bdrewN ?_ _) | ((with_reducible refine Below.alloc ?_ ?_ _); rotate_left 1; focus (first | (simp; done) | (simp; omega) | omega))))
  rintro e w3 ⟨A3, k3, B3, j3, rfl, hp, hs, hb, hn⟩
  unfold icv
  have HXV07 : Hid (w3.heap[w.heap.size]? = some (.cells _ _ (0, 0))) := box_keep (by repeat (first | (with_reducible exact HXV04.out) | ((with_reducible refine heap_new_at _ ?_); focus (first | (with_reducible rfl) | (simp; done))) | (with_reducible refine box_alloc ?_ _) | (with_reducible apply box_set) | ((with_reducible refine box_far ?_ ?_ _); rotate_left 1; focus (first | (simp; done) | (simp; omega) | omega)) | (with_reducible refine box_drew ?_) | (with_reducible refine box_drewN ?_ _))) hb
  try simp only [List.setIfInBounds_toArray, List.set_cons_zero, List.set_cons_succ] at HXV07
  have HXV17 : Hid (w3.heap[w1.heap.size]? = some (.cells _ _ (0, 0))) := box_keep (by repeat (first | (with_reducible exact HXV14.out) | ((with_reducible refine heap_new_at _ ?_); focus (first | (with_reducible rfl) | (simp; done))) | (with_reducible refine box_alloc ?_ _) | (with_reducible apply box_set) | ((with_reducible refine box_far ?_ ?_ _); rotate_left 1; focus (first | (simp; done) | (simp; omega) | omega)) | (with_reducible refine box_drew ?_) | (with_reducible refine box_drewN ?_ _))) hb
  try simp only [List.setIfInBounds_toArray, List.set_cons_zero, List.set_cons_succ] at HXV17
  have HXV27 : Hid (w3.heap[w2.heap.size]? = some (.cells _ _ (0, 0))) := box_keep (by repeat (first | ((with_reducible refine heap_new_at _ ?_); focus (first | (with_reducible rfl) | (simp; done))) | (with_reducible refine box_alloc ?_ _) | (with_reducible apply box_set) | ((with_reducible refine box_far ?_ ?_ _); rotate_left 1; focus (first | (simp; done) | (simp; omega) | omega)) | (with_reducible refine box_drew ?_) | (with_reducible refine box_drewN ?_ _))) hb
  try simp only [List.setIfInBounds_toArray, List.set_cons_zero, List.set_cons_succ] at HXV27
  clear xV0 yV0
  clear xV1 yV1
  obtain ⟨xV0, yV0⟩ := box_rules HXV07.out
  have lV07 := box_lt HXV07.out
  clear HXV04
  obtain ⟨xV1, yV1⟩ := box_rules HXV17.out
  have lV17 := box_lt HXV17.out
  clear HXV14
  obtain ⟨xV2, yV2⟩ := box_rules HXV27.out
  have lV27 := box_lt HXV27.out
  have RP17 : Hid (Rd w3 A1 (X1.1.prio.map (.int .i64))) := Rd.below (by repeat (with_reducible first | exact RP14.out | refine Rd.set ?_ QP1V0.out _ | refine Rd.drew ?_ | refine Rd.drewN ?_ _ | refine Rd.alloc ?_ _)) hb
  clear RP14
  have RS17 : Hid (Rd w3 B1 (X1.1.stack.map (.int .i64))) := Rd.below (by repeat (with_reducible first | exact RS14.out | refine Rd.set ?_ QS1V0.out _ | refine Rd.drew ?_ | refine Rd.drewN ?_ _ | refine Rd.alloc ?_ _)) hb
  clear RS14
  have RP27 : Hid (Rd w3 A2 (X1.1.prio.map (.int .i64))) := Rd.below (by repeat (with_reducible first | exact RP2.out | refine Rd.set ?_ QP2V0.out _ | refine Rd.set ?_ QP2V1.out _ | refine Rd.drew ?_ | refine Rd.drewN ?_ _ | refine Rd.alloc ?_ _)) hb
  clear RP2
  have RS27 : Hid (Rd w3 B2 (X1.1.stack.map (.int .i64))) := Rd.below (by repeat (with_reducible first | exact RS2.out | refine Rd.set ?_ QS2V0.out _ | refine Rd.set ?_ QS2V1.out _ | refine Rd.drew ?_ | refine Rd.drewN ?_ _ | refine Rd.alloc ?_ _)) hb
  clear RS2
  have HB7 : Hid (Below w.heap.size w w3) := Below.trans (by repeat (first | (with_reducible exact HB4.out) | (with_reducible refine Below.setCell ?_ leV0 _) | (with_reducible refine Below.setCell ?_ leV1 _) | (with_reducible refine Below.setCell ?_ leV2 _) | (with_reducible refine Below.drew ?_) | (with_reducible refine bdrewN ?_ _) | ((with_reducible refine Below.alloc ?_ ?_ _); rotate_left 1; focus (first | (simp; done) | (simp; omega) | omega)))) (hb.mono (by first | (simp; done) | (simp; omega) | omega | (simp [World.setCell]; omega)))
  clear HB4
  have s7 : w.heap.size ≤ w3.heap.size := HB7.out.size
  have z7 : w2.heap.size ≤ w3.heap.size := by have := hb.size; (try simp at this); omega
  have RP3 : Hid (Rd w3 A3 (X2.1.prio.map (.int .i64))) := hp
  have NP3 : Hid (∀ a, A3 = some a → w.heap.size ≤ a.block) := fun a ha => by have := hn.1 a ha; (try simp at this); omega
  have QP3V0 : Hid (∀ a, A3 = some a → a.block ≠ w.heap.size) := fun a ha e => by have := hn.1 a ha; (try simp at this); omega
  have QP3V1 : Hid (∀ a, A3 = some a → a.block ≠ w1.heap.size) := fun a ha e => by have := hn.1 a ha; (try simp at this); omega
  have QP3V2 : Hid (∀ a, A3 = some a → a.block ≠ w2.heap.size) := fun a ha e => by have := hn.1 a ha; (try simp at this); omega
  have RS3 : Hid (Rd w3 B3 (X2.1.stack.map (.int .i64))) := hs
  have NS3 : Hid (∀ a, B3 = some a → w.heap.size ≤ a.block) := fun a ha => by have := hn.2 a ha; (try simp at this); omega
  have QS3V0 : Hid (∀ a, B3 = some a → a.block ≠ w.heap.size) := fun a ha e => by have := hn.2 a ha; (try simp at this); omega
  have QS3V1 : Hid (∀ a, B3 = some a → a.block ≠ w1.heap.size) := fun a ha e => by have := hn.2 a ha; (try simp at this); omega
  have QS3V2 : Hid (∀ a, B3 = some a → a.block ≠ w2.heap.size) := fun a ha e => by have := hn.2 a ha; (try simp at this); omega
  have leV3 : w.heap.size ≤ w3.heap.size := by omega
  clear hp hs hb hn
  go_wp2_with fail
  refine (f2'.out pA pc sA sc _ ?_ ?_).mono ?_
  · exact Rd.below Hp.out (by repeat (first | (with_reducible exact HB7.out) | (with_reducible refine Below.setCell ?_ leV0 _) | (with_reducible refine Below.setCell ?_ leV1 _) | (with_reducible refine Below.setCell ?_ leV2 _) | (with_reducible refine Below.setCell ?_ leV3 _) | (with_reducible refine Below.drew ?_) | (with_reducible refine bdrewN ?_ _) | ((with_reducible refine Below.alloc ?_ ?_ _); rotate_left 1; focus (first | (simp; done) | (simp; omega) | omega))))
  · exact Rd.below Hs.out (by repeat (first | (with_reducible exact HB7.out) | (with_reducible refine Below.setCell ?_ leV0 _) | (with_reducible refine Below.setCell ?_ leV1 _) | (with_reducible refine Below.setCell ?_ leV2 _) | (with_reducible refine Below.setCell ?_ leV3 _) | (with_reducible refine Below.drew ?_) | (with_reducible refine bdrewN ?_ _) | ((with_reducible refine Below.alloc ?_ ?_ _); rotate_left 1; focus (first | (simp; done) | (simp; omega) | omega))))
  rintro e w4 ⟨A4, k4, B4, j4, rfl, hp, hs, hb, hn⟩
  unfold icv
  have HXV010 : Hid (w4.heap[w.heap.size]? = some (.cells _ _ (0, 0))) := box_keep (by repeat (first | (with_reducible exact HXV07.out) | ((with_reducible refine heap_new_at _ ?_); focus (first | (with_reducible rfl) | (simp; done))) | (with_reducible refine box_alloc ?_ _) | (with_reducible apply box_set) | ((with_reducible refine box_far ?_ ?_ _); rotate_left 1; focus (first | (simp; done) | (simp; omega) | omega)) | (with_reducible refine box_drew ?_) | (with_reducible refine box_drewN ?_ _))) hb
  try simp only [List.setIfInBounds_toArray, List.set_cons_zero, List.set_cons_succ] at HXV010
  have HXV110 : Hid (w4.heap[w1.heap.size]? = some (.cells _ _ (0, 0))) := box_keep (by repeat (first | (with_reducible exact HXV17.out) | ((with_reducible refine heap_new_at _ ?_); focus (first | (with_reducible rfl) | (simp; done))) | (with_reducible refine box_alloc ?_ _) | (with_reducible apply box_set) | ((with_reducible refine box_far ?_ ?_ _); rotate_left 1; focus (first | (simp; done) | (simp; omega) | omega)) | (with_reducible refine box_drew ?_) | (with_reducible refine box_drewN ?_ _))) hb
  try simp only [List.setIfInBounds_toArray, List.set_cons_zero, List.set_cons_succ] at HXV110
  have HXV210 : Hid (w4.heap[w2.heap.size]? = some (.cells _ _ (0, 0))) := box_keep (by repeat (first | (with_reducible exact HXV27.out) | ((with_reducible refine heap_new_at _ ?_); focus (first | (with_reducible rfl) | (simp; done))) | (with_reducible refine box_alloc ?_ _) | (with_reducible apply box_set) | ((with_reducible refine box_far ?_ ?_ _); rotate_left 1; focus (first | (simp; done) | (simp; omega) | omega)) | (with_reducible refine box_drew ?_) | (with_reducible refine box_drewN ?_ _))) hb
  try simp only [List.setIfInBounds_toArray, List.set_cons_zero, List.set_cons_succ] at HXV210
  have HXV310 : Hid (w4.heap[w3.heap.size]? = some (.cells _ _ (0, 0))) := box_keep (by repeat (first | ((with_reducible refine heap_new_at _ ?_); focus (first | (with_reducible rfl) | (simp; done))) | (with_reducible refine box_alloc ?_ _) | (with_reducible apply box_set) | ((with_reducible refine box_far ?_ ?_ _); rotate_left 1; focus (first | (simp; done) | (simp; omega) | omega)) | (with_reducible refine box_drew ?_) | (with_reducible refine box_drewN ?_ _))) hb
  try simp only [List.setIfInBounds_toArray, List.set_cons_zero, List.set_cons_succ] at HXV310
  clear xV0 yV0
  clear xV1 yV1
  clear xV2 yV2
  obtain ⟨xV0, yV0⟩ := box_rules HXV010.out
  have lV010 := box_lt HXV010.out
  clear HXV07
  obtain ⟨xV1, yV1⟩ := box_rules HXV110.out
  have lV110 := box_lt HXV110.out
  clear HXV17
  obtain ⟨xV2, yV2⟩ := box_rules HXV210.out
  have lV210 := box_lt HXV210.out
  clear HXV27
  obtain ⟨xV3, yV3⟩ := box_rules HXV310.out
  have lV310 := box_lt HXV310.out
  have RP110 : Hid (Rd w4 A1 (X1.1.prio.map (.int .i64))) := Rd.below (by repeat (with_reducible first | exact RP17.out | refine Rd.set ?_ QP1V0.out _ | refine Rd.drew ?_ | refine Rd.drewN ?_ _ | refine Rd.alloc ?_ _)) hb
  clear RP17
  have RS110 : Hid (Rd w4 B1 (X1.1.stack.map (.int .i64))) := Rd.below (by repeat (with_reducible first | exact RS17.out | refine Rd.set ?_ QS1V0.out _ | refine Rd.drew ?_ | refine Rd.drewN ?_ _ | refine Rd.alloc ?_ _)) hb
  clear RS17
  have RP210 : Hid (Rd w4 A2 (X1.1.prio.map (.int .i64))) := Rd.below (by repeat (with_reducible first | exact RP27.out | refine Rd.set ?_ QP2V0.out _ | refine Rd.set ?_ QP2V1.out _ | refine Rd.drew ?_ | refine Rd.drewN ?_ _ | refine Rd.alloc ?_ _)) hb
  clear RP27
  have RS210 : Hid (Rd w4 B2 (X1.1.stack.map (.int .i64))) := Rd.below (by repeat (with_reducible first | exact RS27.out | refine Rd.set ?_ QS2V0.out _ | refine Rd.set ?_ QS2V1.out _ | refine Rd.drew ?_ | refine Rd.drewN ?_ _ | refine Rd.alloc ?_ _)) hb
  clear RS27
  have RP310 : Hid (Rd w4 A3 (X2.1.prio.map (.int .i64))) := Rd.below (by repeat (with_reducible first | exact RP3.out | refine Rd.set ?_ QP3V0.out _ | refine Rd.set ?_ QP3V1.out _ | refine Rd.set ?_ QP3V2.out _ | refine Rd.drew ?_ | refine Rd.drewN ?_ _ | refine Rd.alloc ?_ _)) hb
  clear RP3
  have RS310 : Hid (Rd w4 B3 (X2.1.stack.map (.int .i64))) := Rd.below (by repeat (with_reducible first | exact RS3.out | refine Rd.set ?_ QS3V0.out _ | refine Rd.set ?_ QS3V1.out _ | refine Rd.set ?_ QS3V2.out _ | refine Rd.drew ?_ | refine Rd.drewN ?_ _ | refine Rd.alloc ?_ _)) hb
  clear RS3
  have HB10 : Hid (Below w.heap.size w w4) := Below.trans (by repeat (first | (with_reducible exact HB7.out) | (with_reducible refine Below.setCell ?_ leV0 _) | (with_reducible refine Below.setCell ?_ leV1 _) | (with_reducible refine Below.setCell ?_ leV2 _) | (with_reducible refine Below.setCell ?_ leV3 _) | (with_reducible refine Below.drew ?_) | (with_reducible refine bdrewN ?_ _) | ((with_reducible refine Below.alloc ?_ ?_ _); rotate_left 1; focus (first | (simp; done) | (simp; omega) | omega)))) (hb.mono (by first | (simp; done) | (simp; omega) | omega | (simp [World.setCell]; omega)))
  clear HB7
  have s10 : w.heap.size ≤ w4.heap.size := HB10.out.size
  have z10 : w3.heap.size ≤ w4.heap.size := by have := hb.size; (try simp at this); omega
  have RP4 : Hid (Rd w4 A4 (X2.1.prio.map (.int .i64))) := hp
  have NP4 : Hid (∀ a, A4 = some a → w.heap.size ≤ a.block) := fun a ha => by have := hn.1 a ha; (try simp at this); omega
  have QP4V0 : Hid (∀ a, A4 = some a → a.block ≠ w.heap.size) := fun a ha e => by have := hn.1 a ha; (try simp at this); omega
  have QP4V1 : Hid (∀ a, A4 = some a → a.block ≠ w1.heap.size) := fun a ha e => by have := hn.1 a ha; (try simp at this); omega
  have QP4V2 : Hid (∀ a, A4 = some a → a.block ≠ w2.heap.size) := fun a ha e => by have := hn.1 a ha; (try simp at this); omega
  have QP4V3 : Hid (∀ a, A4 = some a → a.block ≠ w3.heap.size) := fun a ha e => by have := hn.1 a ha; (try simp at this); omega
  have RS4 : Hid (Rd w4 B4 (X2.1.stack.map (.int .i64))) := hs
  have NS4 : Hid (∀ a, B4 = some a → w.heap.size ≤ a.block) := fun a ha => by have := hn.2 a ha; (try simp at this); omega
  have QS4V0 : Hid (∀ a, B4 = some a → a.block ≠ w.heap.size) := fun a ha e => by have := hn.2 a ha; (try simp at this); omega
  have QS4V1 : Hid (∀ a, B4 = some a → a.block ≠ w1.heap.size) := fun a ha e => by have := hn.2 a ha; (try simp at this); omega
  have QS4V2 : Hid (∀ a, B4 = some a → a.block ≠ w2.heap.size) := fun a ha e => by have := hn.2 a ha; (try simp at this); omega
  have QS4V3 : Hid (∀ a, B4 = some a → a.block ≠ w3.heap.size) := fun a ha e => by have := hn.2 a ha; (try simp at this); omega
  have leV4 : w.heap.size ≤ w4.heap.size := by omega
  clear hp hs hb hn
  go_wp2_with fail
  refine (f3.out pA pc sA sc _ ?_ ?_).mono ?_
  · exact Rd.below Hp.out (by repeat (first | (with_reducible exact HB10.out) | (with_reducible refine Below.setCell ?_ leV0 _) | (with_reducible refine Below.setCell ?_ leV1 _) | (with_reducible refine Below.setCell ?_ leV2 _) | (with_reducible refine Below.setCell ?_ leV3 _) | (with_reducible refine Below.setCell ?_ leV4 _) | (with_reducible refine Below.drew ?_) | (with_reducible refine bdrewN ?_ _) | ((with_reducible refine Below.alloc ?_ ?_ _); rotate_left 1; focus (first | (simp; done) | (simp; omega) | omega))))
  · exact Rd.below Hs.out (by repeat (first | (with_reducible exact HB10.out) | (with_reducible refine Below.setCell ?_ leV0 _) | (with_reducible refine Below.setCell ?_ leV1 _) | (with_reducible refine Below.setCell ?_ leV2 _) | (with_reducible refine Below.setCell ?_ leV3 _) | (with_reducible refine Below.setCell ?_ leV4 _) | (with_reducible refine Below.drew ?_) | (with_reducible refine bdrewN ?_ _) | ((with_reducible refine Below.alloc ?_ ?_ _); rotate_left 1; focus (first | (simp; done) | (simp; omega) | omega))))
  rintro e w5 ⟨A5, k5, B5, j5, rfl, hp, hs, hb, hn⟩
  unfold icv
  have HXV013 : Hid (w5.heap[w.heap.size]? = some (.cells _ _ (0, 0))) := box_keep (by repeat (first | (with_reducible exact HXV010.out) | ((with_reducible refine heap_new_at _ ?_); focus (first | (with_reducible rfl) | (simp; done))) | (with_reducible refine box_alloc ?_ _) | (with_reducible apply box_set) | ((with_reducible refine box_far ?_ ?_ _); rotate_left 1; focus (first | (simp; done) | (simp; omega) | omega)) | (with_reducible refine box_drew ?_) | (with_reducible refine box_drewN ?_ _))) hb
  try simp only [List.setIfInBounds_toArray, List.set_cons_zero, List.set_cons_succ] at HXV013
  have HXV113 : Hid (w5.heap[w1.heap.size]? = some (.cells _ _ (0, 0))) := box_keep (by repeat (first | (with_reducible exact HXV110.out) | ((with_reducible refine heap_new_at _ ?_); focus (first | (with_reducible rfl) | (simp; done))) | (with_reducible refine box_alloc ?_ _) | (with_reducible apply box_set) | ((with_reducible refine box_far ?_ ?_ _); rotate_left 1; focus (first | (simp; done) | (simp; omega) | omega)) | (with_reducible refine box_drew ?_) | (with_reducible refine box_drewN ?_ _))) hb
  try simp only [List.setIfInBounds_toArray, List.set_cons_zero, List.set_cons_succ] at HXV113
  have HXV213 : Hid (w5.heap[w2.heap.size]? = some (.cells _ _ (0, 0))) := box_keep (by repeat (first | (with_reducible exact HXV210.out) | ((with_reducible refine heap_new_at _ ?_); focus (first | (with_reducible rfl) | (simp; done))) | (with_reducible refine box_alloc ?_ _) | (with_reducible apply box_set) | ((with_reducible refine box_far ?_ ?_ _); rotate_left 1; focus (first | (simp; done) | (simp; omega) | omega)) | (with_reducible refine box_drew ?_) | (with_reducible refine box_drewN ?_ _))) hb
  try simp only [List.setIfInBounds_toArray, List.set_cons_zero, List.set_cons_succ] at HXV213
  have HXV313 : Hid (w5.heap[w3.heap.size]? = some (.cells _ _ (0, 0))) := box_keep (by repeat (first | (with_reducible exact HXV310.out) | ((with_reducible refine heap_new_at _ ?_); focus (first | (with_reducible rfl) | (simp; done))) | (with_reducible refine box_alloc ?_ _) | (with_reducible apply box_set) | ((with_reducible refine box_far ?_ ?_ _); rotate_left 1; focus (first | (simp; done) | (simp; omega) | omega)) | (with_reducible refine box_drew ?_) | (with_reducible refine box_drewN ?_ _))) hb
  try simp only [List.setIfInBounds_toArray, List.set_cons_zero, List.set_cons_succ] at HXV313
  have HXV413 : Hid (w5.heap[w4.heap.size]? = some (.cells _ _ (0, 0))) := box_keep (by repeat (first | ((with_reducible refine heap_new_at _ ?_); focus (first | (with_reducible rfl) | (simp; done))) | (with_reducible refine box_alloc ?_ _) | (with_reducible apply box_set) | ((with_reducible refine box_far ?_ ?_ _); rotate_left 1; focus (first | (simp; done) | (simp; omega) | omega)) | (with_reducible refine box_drew ?_) | (with_reducible refine box_drewN ?_ _))) hb
  try simp only [List.setIfInBounds_toArray, List.set_cons_zero, List.set_cons_succ] at HXV413
  clear xV0 yV0
  clear xV1 yV1
  clear xV2 yV2
  clear xV3 yV3
  obtain ⟨xV0, yV0⟩ := box_rules HXV013.out
  have lV013 := box_lt HXV013.out
  clear HXV010
  obtain ⟨xV1, yV1⟩ := box_rules HXV113.out
  have lV113 := box_lt HXV113.out
  clear HXV110
  obtain ⟨xV2, yV2⟩ := box_rules HXV213.out
  have lV213 := box_lt HXV213.out
  clear HXV210
  obtain ⟨xV3, yV3⟩ := box_rules HXV313.out
  have lV313 := box_lt HXV313.out
  clear HXV310
  obtain ⟨xV4, yV4⟩ := box_rules HXV413.out
  have lV413 := box_lt HXV413.out
  have RP113 : Hid (Rd w5 A1 (X1.1.prio.map (.int .i64))) := Rd.below (by repeat (with_reducible first | exact RP110.out | refine Rd.set ?_ QP1V0.out _ | refine Rd.drew ?_ | refine Rd.drewN ?_ _ | refine Rd.alloc ?_ _)) hb
  clear RP110
  have RS113 : Hid (Rd w5 B1 (X1.1.stack.map (.int .i64))) := Rd.below (by repeat (with_reducible first | exact RS110.out | refine Rd.set ?_ QS1V0.out _ | refine Rd.drew ?_ | refine Rd.drewN ?_ _ | refine Rd.alloc ?_ _)) hb
  clear RS110
  have RP213 : Hid (Rd w5 A2 (X1.1.prio.map (.int .i64))) := Rd.below (by repeat (with_reducible first | exact RP210.out | refine Rd.set ?_ QP2V0.out _ | refine Rd.set ?_ QP2V1.out _ | refine Rd.drew ?_ | refine Rd.drewN ?_ _ | refine Rd.alloc ?_ _)) hb
  clear RP210
  have RS213 : Hid (Rd w5 B2 (X1.1.stack.map (.int .i64))) := Rd.below (by repeat (with_reducible first | exact RS210.out | refine Rd.set ?_ QS2V0.out _ | refine Rd.set ?_ QS2V1.out _ | refine Rd.drew ?_ | refine Rd.drewN ?_ _ | refine Rd.alloc ?_ _)) hb
  clear RS210
  have RP313 : Hid (Rd w5 A3 (X2.1.prio.map (.int .i64))) := Rd.below (by repeat (with_reducible first | exact RP310.out | refine Rd.set ?_ QP3V0.out _ | refine Rd.set ?_ QP3V1.out _ | refine Rd.set ?_ QP3V2.out _ | refine Rd.drew ?_ | refine Rd.drewN ?_ _ | refine Rd.alloc ?_ _)) hb
  clear RP310
  have RS313 : Hid (Rd w5 B3 (X2.1.stack.map (.int .i64))) := Rd.below (by repeat (with_reducible first | exact RS310.out | refine Rd.set ?_ QS3V0.out _ | refine Rd.set ?_ QS3V1.out _ | refine Rd.set ?_ QS3V2.out _ | refine Rd.drew ?_ | refine Rd.drewN ?_ _ | refine Rd.alloc ?_ _)) hb
  clear RS310
  have RP413 : Hid (Rd w5 A4 (X2.1.prio.map (.int .i64))) := Rd.below (by repeat (with_reducible first | exact RP4.out | refine Rd.set ?_ QP4V0.out _ | refine Rd.set ?_ QP4V1.out _ | refine Rd.set ?_ QP4V2.out _ | refine Rd.set ?_ QP4V3.out _ | refine Rd.drew ?_ | refine Rd.drewN ?_ _ | refine Rd.alloc ?_ _)) hb
  clear RP4
  have RS413 : Hid (Rd w5 B4 (X2.1.stack.map (.int .i64))) := Rd.below (by repeat (with_reducible first | exact RS4.out | refine Rd.set ?_ QS4V0.out _ | refine Rd.set ?_ QS4V1.out _ | refine Rd.set ?_ QS4V2.out _ | refine Rd.set ?_ QS4V3.out _ | refine Rd.drew ?_ | refine Rd.drewN ?_ _ | refine Rd.alloc ?_ _)) hb
  clear RS4
  have HB13 : Hid (Below w.heap.size w w5) := Below.trans (by repeat (first | (with_reducible exact HB10.out) | (with_reducible refine Below.setCell ?_ leV0 _) | (with_reducible refine Below.setCell ?_ leV1 _) | (with_reducible refine Below.setCell ?_ leV2 _) | (with_reducible refine Below.setCell ?_ leV3 _) | (with_reducible refine Below.setCell ?_ leV4 _) | (with_reducible refine Below.drew ?_) | (with_reducible refine bdrewN ?_ _) | ((with_reducible refine Below.alloc ?_ ?_ _); rotate_left 1; focus (first | (simp; done) | (simp; omega) | omega)))) (hb.mono (by first | (simp; done) | (simp; omega) | omega | (simp [World.setCell]; omega)))
  clear HB10
  have s13 : w.heap.size ≤ w5.heap.size := HB13.out.size
  have z13 : w4.heap.size ≤ w5.heap.size := by have := hb.size; (try simp at this); omega
  have RP5 : Hid (Rd w5 A5 (X3.1.prio.map (.int .i64))) := hp
  have NP5 : Hid (∀ a, A5 = some a → w.heap.size ≤ a.block) := fun a ha => by have := hn.1 a ha; (try simp at this); omega
  have QP5V0 : Hid (∀ a, A5 = some a → a.block ≠ w.heap.size) := fun a ha e => by have := hn.1 a ha; (try simp at this); omega
  have QP5V1 : Hid (∀ a, A5 = some a → a.block ≠ w1.heap.size) := fun a ha e => by have := hn.1 a ha; (try simp at this); omega
  have QP5V2 : Hid (∀ a, A5 = some a → a.block ≠ w2.heap.size) := fun a ha e => by have := hn.1 a ha; (try simp at this); omega
  have QP5V3 : Hid (∀ a, A5 = some a → a.block ≠ w3.heap.size) := fun a ha e => by have := hn.1 a ha; (try simp at this); omega
  have QP5V4 : Hid (∀ a, A5 = some a → a.block ≠ w4.heap.size) := fun a ha e => by have := hn.1 a ha; (try simp at this); omega
  have RS5 : Hid (Rd w5 B5 (X3.1.stack.map (.int .i64))) := hs
  have NS5 : Hid (∀ a, B5 = some a → w.heap.size ≤ a.block) := fun a ha => by have := hn.2 a ha; (try simp at this); omega
  have QS5V0 : Hid (∀ a, B5 = some a → a.block ≠ w.heap.size) := fun a ha e => by have := hn.2 a ha; (try simp at this); omega
  have QS5V1 : Hid (∀ a, B5 = some a → a.block ≠ w1.heap.size) := fun a ha e => by have := hn.2 a ha; (try simp at this); omega
  have QS5V2 : Hid (∀ a, B5 = some a → a.block ≠ w2.heap.size) := fun a ha e => by have := hn.2 a ha; (try simp at this); omega
  have QS5V3 : Hid (∀ a, B5 = some a → a.block ≠ w3.heap.size) := fun a ha e => by have := hn.2 a ha; (try simp at this); omega
  have QS5V4 : Hid (∀ a, B5 = some a → a.block ≠ w4.heap.size) := fun a ha e => by have := hn.2 a ha; (try simp at this); omega
  have leV5 : w.heap.size ≤ w5.heap.size := by omega
  clear hp hs hb hn
  go_wp2_with fail
  refine (f3'.out pA pc sA sc _ ?_ ?_).mono ?_
  · exact Rd.below Hp.out (by repeat (first | (with_reducible exact HB13.out) | (with_reducible refine Below.setCell ?_ leV0 _) | (with_reducible refine Below.setCell ?_ leV1 _) | (with_reducible refine Below.setCell ?_ leV2 _) | (with_reducible refine Below.setCell ?_ leV3 _) | (with_reducible refine Below.setCell ?_ leV4 _) | (with_reducible refine Below.setCell ?_ leV5 _) | (with_reducible refine Below.drew ?_) | (with_reducible refine bdrewN ?_ _) | ((with_reducible refine Below.alloc ?_ ?_ _); rotate_left 1; focus (first | (simp; done) | (simp; omega) | omega))))
  · exact Rd.below Hs.out (by repeat (first | (with_reducible exact HB13.out) | (with_reducible refine Below.setCell ?_ leV0 _) | (with_reducible refine Below.setCell ?_ leV1 _) | (with_reducible refine Below.setCell ?_ leV2 _) | (with_reducible refine Below.setCell ?_ leV3 _) | (with_reducible refine Below.setCell ?_ leV4 _) | (with_reducible refine Below.setCell ?_ leV5 _) | (with_reducible refine Below.drew ?_) | (with_reducible refine bdrewN ?_ _) | ((with_reducible refine Below.alloc ?_ ?_ _); rotate_left 1; focus (first | (simp; done) | (simp; omega) | omega))))
  rintro e w6 ⟨A6, k6, B6, j6, rfl, hp, hs, hb, hn⟩
  unfold icv
  have HXV016 : Hid (w6.heap[w.heap.size]? = some (.cells _ _ (0, 0))) := box_keep (by repeat (first | (with_reducible exact HXV013.out) | ((with_reducible refine heap_new_at _ ?_); focus (first | (with_reducible rfl) | (simp; done))) | (with_reducible refine box_alloc ?_ _) | (with_reducible apply box_set) | ((with_reducible refine box_far ?_ ?_ _); rotate_left 1; focus (first | (simp; done) | (simp; omega) | omega)) | (with_reducible refine box_drew ?_) | (with_reducible refine box_drewN ?_ _))) hb
  try simp only [List.setIfInBounds_toArray, List.set_cons_zero, List.set_cons_succ] at HXV016
  have HXV116 : Hid (w6.heap[w1.heap.size]? = some (.cells _ _ (0, 0))) := box_keep (by repeat (first | (with_reducible exact HXV113.out) | ((with_reducible refine heap_new_at _ ?_); focus (first | (with_reducible rfl) | (simp; done))) | (with_reducible refine box_alloc ?_ _) | (with_reducible apply box_set) | ((with_reducible refine box_far ?_ ?_ _); rotate_left 1; focus (first | (simp; done) | (simp; omega) | omega)) | (with_reducible refine box_drew ?_) | (with_reducible refine box_drewN ?_ _))) hb
  try simp only [List.setIfInBounds_toArray, List.set_cons_zero, List.set_cons_succ] at HXV116
  have HXV216 : Hid (w6.heap[w2.heap.size]? = some (.cells _ _ (0, 0))) := box_keep (by repeat (first | (with_reducible exact HXV213.out) | ((with_reducible refine heap_new_at _ ?_); focus (first | (with_reducible rfl) | (simp; done))) | (with_reducible refine box_alloc ?_ _) | (with_reducible apply box_set) | ((with_reducible refine box_far ?_ ?_ _); rotate_left 1; focus (first | (simp; done) | (simp; omega) | omega)) | (with_reducible refine box_drew ?_) | (with_reducible refine box_drewN ?_ _))) hb
  try simp only [List.setIfInBounds_toArray, List.set_cons_zero, List.set_cons_succ] at HXV216
  have HXV316 : Hid (w6.heap[w3.heap.size]? = some (.cells _ _ (0, 0))) := box_keep (by repeat (first | (with_reducible exact HXV313.out) | ((with_reducible refine heap_new_at _ ?_); focus (first | (with_reducible rfl) | (simp; done))) | (with_reducible refine box_alloc ?_ _) | (with_reducible apply box_set) | ((with_reducible refine box_far ?_ ?_ _); rotate_left 1; focus (first | (simp; done) | (simp; omega) | omega)) | (with_reducible refine box_drew ?_) | (with_reducible refine box_drewN ?_ _))) hb
  try simp only [List.setIfInBounds_toArray, List.set_cons_zero, List.set_cons_succ] at HXV316
  have HXV416 : Hid (w6.heap[w4.heap.size]? = some (.cells _ _ (0, 0))) := box_keep (by repeat (first | (with_reducible exact HXV413.out) | ((with_reducible refine heap_new_at _ ?_); focus (first | (with_reducible rfl) | (simp; done))) | (with_reducible refine box_alloc ?_ _) | (with_reducible apply box_set) | ((with_reducible refine box_far ?_ ?_ _); rotate_left 1; focus (first | (simp; done) | (simp; omega) | omega)) | (with_reducible refine box_drew ?_) | (with_reducible refine box_drewN ?_ _))) hb
  try simp only [List.setIfInBounds_toArray, List.set_cons_zero, List.set_cons_succ] at HXV416
  have HXV516 : Hid (w6.heap[w5.heap.size]? = some (.cells _ _ (0, 0))) := box_keep (by repeat (first | ((with_reducible refine heap_new_at _ ?_); focus (first | (with_reducible rfl) | (simp; done))) | (with_reducible refine box_alloc ?_ _) | (with_reducible apply box_set) | ((with_reducible refine box_far ?_ ?_ _); rotate_left 1; focus (first | (simp; done) | (simp; omega) | omega)) | (with_reducible refine box_drew ?_) | (with_reducible refine box_drewN ?_ _))) hb
  try simp only [List.setIfInBounds_toArray, List.set_cons_zero, List.set_cons_succ] at HXV516
  clear xV0 yV0
  clear xV1 yV1
  clear xV2 yV2
  clear xV3 yV3
  clear xV4 yV4
  obtain ⟨xV0, yV0⟩ := box_rules HXV016.out
  have lV016 := box_lt HXV016.out
  clear HXV013
  obtain ⟨xV1, yV1⟩ := box_rules HXV116.out
  have lV116 := box_lt HXV116.out
  clear HXV113
  obtain ⟨xV2, yV2⟩ := box_rules HXV216.out
  have lV216 := box_lt HXV216.out
  clear HXV213
  obtain ⟨xV3, yV3⟩ := box_rules HXV316.out
  have lV316 := box_lt HXV316.out
  clear HXV313
  obtain ⟨xV4, yV4⟩ := box_rules HXV416.out
  have lV416 := box_lt HXV416.out
  clear HXV413
  obtain ⟨xV5, yV5⟩ := box_rules HXV516.out
  have lV516 := box_lt HXV516.out
  have RP116 : Hid (Rd w6 A1 (X1.1.prio.map (.int .i64))) := Rd.below (by repeat (with_reducible first | exact RP113.out | refine Rd.set ?_ QP1V0.out _ | refine Rd.drew ?_ | refine Rd.drewN ?_ _ | refine Rd.alloc ?_ _)) hb
  clear RP113
  have RS116 : Hid (Rd w6 B1 (X1.1.stack.map (.int .i64))) := Rd.below (by repeat (with_reducible first | exact RS113.out | refine Rd.set ?_ QS1V0.out _ | refine Rd.drew ?_ | refine Rd.drewN ?_ _ | refine Rd.alloc ?_ _)) hb
  clear RS113
  have RP216 : Hid (Rd w6 A2 (X1.1.prio.map (.int .i64))) := Rd.below (by repeat (with_reducible first | exact RP213.out | refine Rd.set ?_ QP2V0.out _ | refine Rd.set ?_ QP2V1.out _ | refine Rd.drew ?_ | refine Rd.drewN ?_ _ | refine Rd.alloc ?_ _)) hb
  clear RP213
  have RS216 : Hid (Rd w6 B2 (X1.1.stack.map (.int .i64))) := Rd.below (by repeat (with_reducible first | exact RS213.out | refine Rd.set ?_ QS2V0.out _ | refine Rd.set ?_ QS2V1.out _ | refine Rd.drew ?_ | refine Rd.drewN ?_ _ | refine Rd.alloc ?_ _)) hb
  clear RS213
  have RP316 : Hid (Rd w6 A3 (X2.1.prio.map (.int .i64))) := Rd.below (by repeat (with_reducible first | exact RP313.out | refine Rd.set ?_ QP3V0.out _ | refine Rd.set ?_ QP3V1.out _ | refine Rd.set ?_ QP3V2.out _ | refine Rd.drew ?_ | refine Rd.drewN ?_ _ | refine Rd.alloc ?_ _)) hb
  clear RP313
  have RS316 : Hid (Rd w6 B3 (X2.1.stack.map (.int .i64))) := Rd.below (by repeat (with_reducible first | exact RS313.out | refine Rd.set ?_ QS3V0.out _ | refine Rd.set ?_ QS3V1.out _ | refine Rd.set ?_ QS3V2.out _ | refine Rd.drew ?_ | refine Rd.drewN ?_ _ | refine Rd.alloc ?_ _)) hb
  clear RS313
  have RP416 : Hid (Rd w6 A4 (X2.1.prio.map (.int .i64))) := Rd.below (by repeat (with_reducible first | exact RP413.out | refine Rd.set ?_ QP4V0.out _ | refine Rd.set ?_ QP4V1.out _ | refine Rd.set ?_ QP4V2.out _ | refine Rd.set ?_ QP4V3.out _ | refine Rd.drew ?_ | refine Rd.drewN ?_ _ | refine Rd.alloc ?_ _)) hb
  clear RP413
  have RS416 : Hid (Rd w6 B4 (X2.1.stack.map (.int .i64))) := Rd.below (by repeat (with_reducible first | exact RS413.out | refine Rd.set ?_ QS4V0.out _ | refine Rd.set ?_ QS4V1.out _ | refine Rd.set ?_ QS4V2.out _ | refine Rd.set ?_ QS4V3.out _ | refine Rd.drew ?_ | refine Rd.drewN ?_ _ | refine Rd.alloc ?_ _)) hb
  clear RS413
  have RP516 : Hid (Rd w6 A5 (X3.1.prio.map (.int .i64))) := Rd.below (by repeat (with_reducible first | exact RP5.out | refine Rd.set ?_ QP5V0.out _ | refine Rd.set ?_ QP5V1.out _ | refine Rd.set ?_ QP5V2.out _ | refine Rd.set ?_ QP5V3.out _ | refine Rd.set ?_ QP5V4.out _ | refine Rd.drew ?_ | refine Rd.drewN ?_ _ | refine Rd.alloc ?_ _)) hb
  clear RP5
  have RS516 : Hid (Rd w6 B5 (X3.1.stack.map (.int .i64))) := Rd.below (by repeat (with_reducible first | exact RS5.out | refine Rd.set ?_ QS5V0.out _ | refine Rd.set ?_ QS5V1.out _ | refine Rd.set ?_ QS5V2.out _ | refine Rd.set ?_ QS5V3.out _ | refine Rd.set ?_ QS5V4.out _ | refine Rd.drew ?_ | refine Rd.drewN ?_ _ | refine Rd.alloc ?_ _)) hb
  clear RS5
  have HB16 : Hid (Below w.heap.size w w6) := Below.trans (by repeat (first | (with_reducible exact HB13.out) | (with_reducible refine Below.setCell ?_ leV0 _) | (with_reducible refine Below.setCell ?_ leV1 _) | (with_reducible refine Below.setCell ?_ leV2 _) | (with_reducible refine Below.setCell ?_ leV3 _) | (with_reducible refine Below.setCell ?_ leV4 _) | (with_reducible refine Below.setCell ?_ leV5 _) | (with_reducible refine Below.drew ?_) | (with_reducible refine bdrewN ?_ _) | ((with_reducible refine Below.alloc ?_ ?_ _); rotate_left 1; focus (first | (simp; done) | (simp; omega) | omega)))) (hb.mono (by first | (simp; done) | (simp; omega) | omega | (simp [World.setCell]; omega)))
  clear HB13
  have s16 : w.heap.size ≤ w6.heap.size := HB16.out.size
  have z16 : w5.heap.size ≤ w6.heap.size := by have := hb.size; (try simp at this); omega
  have RP6 : Hid (Rd w6 A6 (X3.1.prio.map (.int .i64))) := hp
  have NP6 : Hid (∀ a, A6 = some a → w.heap.size ≤ a.block) := fun a ha => by have := hn.1 a ha; (try simp at this); omega
  have QP6V0 : Hid (∀ a, A6 = some a → a.block ≠ w.heap.size) := fun a ha e => by have := hn.1 a ha; (try simp at this); omega
  have QP6V1 : Hid (∀ a, A6 = some a → a.block ≠ w1.heap.size) := fun a ha e => by have := hn.1 a ha; (try simp at this); omega
  have QP6V2 : Hid (∀ a, A6 = some a → a.block ≠ w2.heap.size) := fun a ha e => by have := hn.1 a ha; (try simp at this); omega
  have QP6V3 : Hid (∀ a, A6 = some a → a.block ≠ w3.heap.size) := fun a ha e => by have := hn.1 a ha; (try simp at this); omega
  have QP6V4 : Hid (∀ a, A6 = some a → a.block ≠ w4.heap.size) := fun a ha e => by have := hn.1 a ha; (try simp at this); omega
  have QP6V5 : Hid (∀ a, A6 = some a → a.block ≠ w5.heap.size) := fun a ha e => by have := hn.1 a ha; (try simp at this); omega
  have RS6 : Hid (Rd w6 B6 (X3.1.stack.map (.int .i64))) := hs
  have NS6 : Hid (∀ a, B6 = some a → w.heap.size ≤ a.block) := fun a ha => by have := hn.2 a ha; (try simp at this); omega
  have QS6V0 : Hid (∀ a, B6 = some a → a.block ≠ w.heap.size) := fun a ha e => by have := hn.2 a ha; (try simp at this); omega
  have QS6V1 : Hid (∀ a, B6 = some a → a.block ≠ w1.heap.size) := fun a ha e => by have := hn.2 a ha; (try simp at this); omega
  have QS6V2 : Hid (∀ a, B6 = some a → a.block ≠ w2.heap.size) := fun a ha e => by have := hn.2 a ha; (try simp at this); omega
  have QS6V3 : Hid (∀ a, B6 = some a → a.block ≠ w3.heap.size) := fun a ha e => by have := hn.2 a ha; (try simp at this); omega
  have QS6V4 : Hid (∀ a, B6 = some a → a.block ≠ w4.heap.size) := fun a ha e => by have := hn.2 a ha; (try simp at this); omega
  have QS6V5 : Hid (∀ a, B6 = some a → a.block ≠ w5.heap.size) := fun a ha e => by have := hn.2 a ha; (try simp at this); omega
  have leV6 : w.heap.size ≤ w6.heap.size := by omega
  clear hp hs hb hn
  go_wp2_with fail
  refine (f4.out pA pc sA sc _ ?_ ?_).mono ?_
  · exact Rd.below Hp.out (by repeat (first | (with_reducible exact HB16.out) | (with_reducible refine Below.setCell ?_ leV0 _) | (with_reducible refine Below.setCell ?_ leV1 _) | (with_reducible refine Below.setCell ?_ leV2 _) | (with_reducible refine Below.setCell ?_ leV3 _) | (with_reducible refine Below.setCell ?_ leV4 _) | (with_reducible refine Below.setCell ?_ leV5 _) | (with_reducible refine Below.setCell ?_ leV6 _) | (with_reducible refine Below.drew ?_) | (with_reducible refine bdrewN ?_ _) | ((with_reducible refine Below.alloc ?_ ?_ _); rotate_left 1; focus (first | (simp; done) | (simp; omega) | omega))))
  · exact Rd.below Hs.out (by repeat (first | (with_reducible exact HB16.out) | (with_reducible refine Below.setCell ?_ leV0 _) | (with_reducible refine Below.setCell ?_ leV1 _) | (with_reducible refine Below.setCell ?_ leV2 _) | (with_reducible refine Below.setCell ?_ leV3 _) | (with_reducible refine Below.setCell ?_ leV4 _) | (with_reducible refine Below.setCell ?_ leV5 _) | (with_reducible refine Below.setCell ?_ leV6 _) | (with_reducible refine Below.drew ?_) | (with_reducible refine bdrewN ?_ _) | ((with_reducible refine Below.alloc ?_ ?_ _); rotate_left 1; focus (first | (simp; done) | (simp; omega) | omega))))
  rintro e w7 ⟨A7, k7, B7, j7, rfl, hp, hs, hb, hn⟩
  unfold icv
  have HXV019 : Hid (w7.heap[w.heap.size]? = some (.cells _ _ (0, 0))) := box_keep (by repeat (first | (with_reducible exact HXV016.out) | ((with_reducible refine heap_new_at _ ?_); focus (first | (with_reducible rfl) | (simp; done))) | (with_reducible refine box_alloc ?_ _) | (with_reducible apply box_set) | ((with_reducible refine box_far ?_ ?_ _); rotate_left 1; focus (first | (simp; done) | (simp; omega) | omega)) | (with_reducible refine box_drew ?_) | (with_reducible refine box_drewN ?_ _))) hb
  try simp only [List.setIfInBounds_toArray, List.set_cons_zero, List.set_cons_succ] at HXV019
  have HXV119 : Hid (w7.heap[w1.heap.size]? = some (.cells _ _ (0, 0))) := box_keep (by repeat (first | (with_reducible exact HXV116.out) | ((with_reducible refine heap_new_at _ ?_); focus (first | (with_reducible rfl) | (simp; done))) | (with_reducible refine box_alloc ?_ _) | (with_reducible apply box_set) | ((with_reducible refine box_far ?_ ?_ _); rotate_left 1; focus (first | (simp; done) | (simp; omega) | omega)) | (with_reducible refine box_drew ?_) | (with_reducible refine box_drewN ?_ _))) hb
  try simp only [List.setIfInBounds_toArray, List.set_cons_zero, List.set_cons_succ] at HXV119
  have HXV219 : Hid (w7.heap[w2.heap.size]? = some (.cells _ _ (0, 0))) := box_keep (by repeat (first | (with_reducible exact HXV216.out) | ((with_reducible refine heap_new_at _ ?_); focus (first | (with_reducible rfl) | (simp; done))) | (with_reducible refine box_alloc ?_ _) | (with_reducible apply box_set) | ((with_reducible refine box_far ?_ ?_ _); rotate_left 1; focus (first | (simp; done) | (simp; omega) | omega)) | (with_reducible refine box_drew ?_) | (with_reducible refine box_drewN ?_ _))) hb
  try simp only [List.setIfInBounds_toArray, List.set_cons_zero, List.set_cons_succ] at HXV219
  have HXV319 : Hid (w7.heap[w3.heap.size]? = some (.cells _ _ (0, 0))) := box_keep (by repeat (first | (with_reducible exact HXV316.out) | ((with_reducible refine heap_new_at _ ?_); focus (first | (with_reducible rfl) | (simp; done))) | (with_reducible refine box_alloc ?_ _) | (with_reducible apply box_set) | ((with_reducible refine box_far ?_ ?_ _); rotate_left 1; focus (first | (simp; done) | (simp; omega) | omega)) | (with_reducible refine box_drew ?_) | (with_reducible refine box_drewN ?_ _))) hb
  try simp only [List.setIfInBounds_toArray, List.set_cons_zero, List.set_cons_succ] at HXV319
  have HXV419 : Hid (w7.heap[w4.heap.size]? = some (.cells _ _ (0, 0))) := box_keep (by repeat (first | (with_reducible exact HXV416.out) | ((with_reducible refine heap_new_at _ ?_); focus (first | (with_reducible rfl) | (simp; done))) | (with_reducible refine box_alloc ?_ _) | (with_reducible apply box_set) | ((with_reducible refine box_far ?_ ?_ _); rotate_left 1; focus (first | (simp; done) | (simp; omega) | omega)) | (with_reducible refine box_drew ?_) | (with_reducible refine box_drewN ?_ _))) hb
  try simp only [List.setIfInBounds_toArray, List.set_cons_zero, List.set_cons_succ] at HXV419
  have HXV519 : Hid (w7.heap[w5.heap.size]? = some (.cells _ _ (0, 0))) := box_keep (by repeat (first | (with_reducible exact HXV516.out) | ((with_reducible refine heap_new_at _ ?_); focus (first | (with_reducible rfl) | (simp; done))) | (with_reducible refine box_alloc ?_ _) | (with_reducible apply box_set) | ((with_reducible refine box_far ?_ ?_ _); rotate_left 1; focus (first | (simp; done) | (simp; omega) | omega)) | (with_reducible refine box_drew ?_) | (with_reducible refine box_drewN ?_ _))) hb
  try simp only [List.setIfInBounds_toArray, List.set_cons_zero, List.set_cons_succ] at HXV519
  have HXV619 : Hid (w7.heap[w6.heap.size]? = some (.cells _ _ (0, 0))) := box_keep (by repeat (first | ((with_reducible refine heap_new_at _ ?_); focus (first | (with_reducible rfl) | (simp; done))) | (with_reducible refine box_alloc ?_ _) | (with_reducible apply box_set) | ((with_reducible refine box_far ?_ ?_ _); rotate_left 1; focus (first | (simp; done) | (simp; omega) | omega)) | (with_reducible refine box_drew ?_) | (with_reducible refine box_drewN ?_ _))) hb
  try simp only [List.setIfInBounds_toArray, List.set_cons_zero, List.set_cons_succ] at HXV619
  clear xV0 yV0
  clear xV1 yV1
  clear xV2 yV2
  clear xV3 yV3
  clear xV4 yV4
  clear xV5 yV5
  obtain ⟨xV0, yV0⟩ := box_rules HXV019.out
  have lV019 := box_lt HXV019.out
  clear HXV016
  obtain ⟨xV1, yV1⟩ := box_rules HXV119.out
  have lV119 := box_lt HXV119.out
  clear HXV116
  obtain ⟨xV2, yV2⟩ := box_rules HXV219.out
  have lV219 := box_lt HXV219.out
  clear HXV216
  obtain ⟨xV3, yV3⟩ := box_rules HXV319.out
  have lV319 := box_lt HXV319.out
  clear HXV316
  obtain ⟨xV4, yV4⟩ := box_rules HXV419.out
  have lV419 := box_lt HXV419.out
  clear HXV416
  obtain ⟨xV5, yV5⟩ := box_rules HXV519.out
  have lV519 := box_lt HXV519.out
  clear HXV516
  obtain ⟨xV6, yV6⟩ := box_rules HXV619.out
  have lV619 := box_lt HXV619.out
  have RP119 : Hid (Rd w7 A1 (X1.1.prio.map (.int .i64))) := Rd.below (by repeat (with_reducible first | exact RP116.out | refine Rd.set ?_ QP1V0.out _ | refine Rd.drew ?_ | refine Rd.drewN ?_ _ | refine Rd.alloc ?_ _)) hb
  clear RP116
  have RS119 : Hid (Rd w7 B1 (X1.1.stack.map (.int .i64))) := Rd.below (by repeat (with_reducible first | exact RS116.out | refine Rd.set ?_ QS1V0.out _ | refine Rd.drew ?_ | refine Rd.drewN ?_ _ | refine Rd.alloc ?_ _)) hb
  clear RS116
  have RP219 : Hid (Rd w7 A2 (X1.1.prio.map (.int .i64))) := Rd.below (by repeat (with_reducible first | exact RP216.out | refine Rd.set ?_ QP2V0.out _ | refine Rd.set ?_ QP2V1.out _ | refine Rd.drew ?_ | refine Rd.drewN ?_ _ | refine Rd.alloc ?_ _)) hb
  clear RP216
  have RS219 : Hid (Rd w7 B2 (X1.1.stack.map (.int .i64))) := Rd.below (by repeat (with_reducible first | exact RS216.out | refine Rd.set ?_ QS2V0.out _ | refine Rd.set ?_ QS2V1.out _ | refine Rd.drew ?_ | refine Rd.drewN ?_ _ | refine Rd.alloc ?_ _)) hb
  clear RS216
  have RP319 : Hid (Rd w7 A3 (X2.1.prio.map (.int .i64))) := Rd.below (by repeat (with_reducible first | exact RP316.out | refine Rd.set ?_ QP3V0.out _ | refine Rd.set ?_ QP3V1.out _ | refine Rd.set ?_ QP3V2.out _ | refine Rd.drew ?_ | refine Rd.drewN ?_ _ | refine Rd.alloc ?_ _)) hb
  clear RP316
  have RS319 : Hid (Rd w7 B3 (X2.1.stack.map (.int .i64))) := Rd.below (by repeat (with_reducible first | exact RS316.out | refine Rd.set ?_ QS3V0.out _ | refine Rd.set ?_ QS3V1.out _ | refine Rd.set ?_ QS3V2.out _ | refine Rd.drew ?_ | refine Rd.drewN ?_ _ | refine Rd.alloc ?_ _)) hb
  clear RS316
  have RP419 : Hid (Rd w7 A4 (X2.1.prio.map (.int .i64))) := Rd.below (by repeat (with_reducible first | exact RP416.out | refine Rd.set ?_ QP4V0.out _ | refine Rd.set ?_ QP4V1.out _ | refine Rd.set ?_ QP4V2.out _ | refine Rd.set ?_ QP4V3.out _ | refine Rd.drew ?_ | refine Rd.drewN ?_ _ | refine Rd.alloc ?_ _)) hb
  clear RP416
  have RS419 : Hid (Rd w7 B4 (X2.1.stack.map (.int .i64))) := Rd.below (by repeat (with_reducible first | exact RS416.out | refine Rd.set ?_ QS4V0.out _ | refine Rd.set ?_ QS4V1.out _ | refine Rd.set ?_ QS4V2.out _ | refine Rd.set ?_ QS4V3.out _ | refine Rd.drew ?_ | refine Rd.drewN ?_ _ | refine Rd.alloc ?_ _)) hb
  clear RS416
  have RP519 : Hid (Rd w7 A5 (X3.1.prio.map (.int .i64))) := Rd.below (by repeat (with_reducible first | exact RP516.out | refine Rd.set ?_ QP5V0.out _ | refine Rd.set ?_ QP5V1.out _ | refine Rd.set ?_ QP5V2.out _ | refine Rd.set ?_ QP5V3.out _ | refine Rd.set ?_ QP5V4.out _ | refine Rd.drew ?_ | refine Rd.drewN ?_ _ | refine Rd.alloc ?_ _)) hb
  clear RP516
  have RS519 : Hid (Rd w7 B5 (X3.1.stack.map (.int .i64))) := Rd.below (by repeat (with_reducible first | exact RS516.out | refine Rd.set ?_ QS5V0.out _ | refine Rd.set ?_ QS5V1.out _ | refine Rd.set ?_ QS5V2.out _ | refine Rd.set ?_ QS5V3.out _ | refine Rd.set ?_ QS5V4.out _ | refine Rd.drew ?_ | refine Rd.drewN ?_ _ | refine Rd.alloc ?_ _)) hb
  clear RS516
  have RP619 : Hid (Rd w7 A6 (X3.1.prio.map (.int .i64))) := Rd.below (by repeat (with_reducible first | exact RP6.out | refine Rd.set ?_ QP6V0.out _ | refine Rd.set ?_ QP6V1.out _ | refine Rd.set ?_ QP6V2.out _ | refine Rd.set ?_ QP6V3.out _ | refine Rd.set ?_ QP6V4.out _ | refine Rd.set ?_ QP6V5.out _ | refine Rd.drew ?_ | refine Rd.drewN ?_ _ | refine Rd.alloc ?_ _)) hb
  clear RP6
  have RS619 : Hid (Rd w7 B6 (X3.1.stack.map (.int .i64))) := Rd.below (by repeat (with_reducible first | exact RS6.out | refine Rd.set ?_ QS6V0.out _ | refine Rd.set ?_ QS6V1.out _ | refine Rd.set ?_ QS6V2.out _ | refine Rd.set ?_ QS6V3.out _ | refine Rd.set ?_ QS6V4.out _ | refine Rd.set ?_ QS6V5.out _ | refine Rd.drew ?_ | refine Rd.drewN ?_ _ | refine Rd.alloc ?_ _)) hb
  clear RS6
  have HB19 : Hid (Below w.heap.size w w7) := Below.trans (by repeat (first | (with_reducible exact HB16.out) | (with_reducible refine Below.setCell ?_ leV0 _) | (with_reducible refine Below.setCell ?_ leV1 _) | (with_reducible refine Below.setCell ?_ leV2 _) | (with_reducible refine Below.setCell ?_ leV3 _) | (with_reducible refine Below.setCell ?_ leV4 _) | (with_reducible refine Below.setCell ?_ leV5 _) | (with_reducible refine Below.setCell ?_ leV6 _) | (with_reducible refine Below.drew ?_) | (with_reducible refine bdrewN ?_ _) | ((with_reducible refine Below.alloc ?_ ?_ _); rotate_left 1; focus (first | (simp; done) | (simp; omega) | omega)))) (hb.mono (by first | (simp; done) | (simp; omega) | omega | (simp [World.setCell]; omega)))
  clear HB16
  have s19 : w.heap.size ≤ w7.heap.size := HB19.out.size
  have z19 : w6.heap.size ≤ w7.heap.size := by have := hb.size; (try simp at this); omega
  have RP7 : Hid (Rd w7 A7 (X4.1.prio.map (.int .i64))) := hp
  have NP7 : Hid (∀ a, A7 = some a → w.heap.size ≤ a.block) := fun a ha => by have := hn.1 a ha; (try simp at this); omega
  have QP7V0 : Hid (∀ a, A7 = some a → a.block ≠ w.heap.size) := fun a ha e => by have := hn.1 a ha; (try simp at this); omega
  have QP7V1 : Hid (∀ a, A7 = some a → a.block ≠ w1.heap.size) := fun a ha e => by have := hn.1 a ha; (try simp at this); omega
  have QP7V2 : Hid (∀ a, A7 = some a → a.block ≠ w2.heap.size) := fun a ha e => by have := hn.1 a ha; (try simp at this); omega
  have QP7V3 : Hid (∀ a, A7 = some a → a.block ≠ w3.heap.size) := fun a ha e => by have := hn.1 a ha; (try simp at this); omega
  have QP7V4 : Hid (∀ a, A7 = some a → a.block ≠ w4.heap.size) := fun a ha e => by have := hn.1 a ha; (try simp at this); omega
  have QP7V5 : Hid (∀ a, A7 = some a → a.block ≠ w5.heap.size) := fun a ha e => by have := hn.1 a ha; (try simp at this); omega
  have QP7V6 : Hid (∀ a, A7 = some a → a.block ≠ w6.heap.size) := fun a ha e => by have := hn.1 a ha; (try simp at this); omega
  have RS7 : Hid (Rd w7 B7 (X4.1.stack.map (.int .i64))) := hs
  have NS7 : Hid (∀ a, B7 = some a → w.heap.size ≤ a.block) := fun a ha => by have := hn.2 a ha; (try simp at this); omega
  have QS7V0 : Hid (∀ a, B7 = some a → a.block ≠ w.heap.size) := fun a ha e => by have := hn.2 a ha; (try simp at this); omega
  have QS7V1 : Hid (∀ a, B7 = some a → a.block ≠ w1.heap.size) := fun a ha e => by have := hn.2 a ha; (try simp at this); omega
  have QS7V2 : Hid (∀ a, B7 = some a → a.block ≠ w2.heap.size) := fun a ha e => by have := hn.2 a ha; (try simp at this); omega
  have QS7V3 : Hid (∀ a, B7 = some a → a.block ≠ w3.heap.size) := fun a ha e => by have := hn.2 a ha; (try simp at this); omega
  have QS7V4 : Hid (∀ a, B7 = some a → a.block ≠ w4.heap.size) := fun a ha e => by have := hn.2 a ha; (try simp at this); omega
  have QS7V5 : Hid (∀ a, B7 = some a → a.block ≠ w5.heap.size) := fun a ha e => by have := hn.2 a ha; (try simp at this); omega
  have QS7V6 : Hid (∀ a, B7 = some a → a.block ≠ w6.heap.size) := fun a ha e => by have := hn.2 a ha; (try simp at this); omega
  have leV7 : w.heap.size ≤ w7.heap.size := by omega
  clear hp hs hb hn
  go_wp2_with fail
  refine (f4'.out pA pc sA sc _ ?_ ?_).mono ?_
  · exact Rd.below Hp.out (by repeat (first | (with_reducible exact HB19.out) | (with_reducible refine Below.setCell ?_ leV0 _) | (with_reducible refine Below.setCell ?_ leV1 _) | (with_reducible refine Below.setCell ?_ leV2 _) | (with_reducible refine Below.setCell ?_ leV3 _) | (with_reducible refine Below.setCell ?_ leV4 _) | (with_reducible refine Below.setCell ?_ leV5 _) | (with_reducible refine Below.setCell ?_ leV6 _) | (with_reducible refine Below.setCell ?_ leV7 _) | (with_reducible refine Below.drew ?_) | (with_reducible refine bdrewN ?_ _) | ((with_reducible refine Below.alloc ?_ ?_ _); rotate_left 1; focus (first | (simp; done) | (simp; omega) | omega))))
  · exact Rd.below Hs.out (by repeat (first | (with_reducible exact HB19.out) | (with_reducible refine Below.setCell ?_ leV0 _) | (with_reducible refine Below.setCell ?_ leV1 _) | (with_reducible refine Below.setCell ?_ leV2 _) | (with_reducible refine Below.setCell ?_ leV3 _) | (with_reducible refine Below.setCell ?_ leV4 _) | (with_reducible refine Below.setCell ?_ leV5 _) | (with_reducible refine Below.setCell ?_ leV6 _) | (with_reducible refine Below.setCell ?_ leV7 _) | (with_reducible refine Below.drew ?_) | (with_reducible refine bdrewN ?_ _) | ((with_reducible refine Below.alloc ?_ ?_ _); rotate_left 1; focus (first | (simp; done) | (simp; omega) | omega))))
  rintro e w8 ⟨A8, k8, B8, j8, rfl, hp, hs, hb, hn⟩
  unfold icv
  have HXV022 : Hid (w8.heap[w.heap.size]? = some (.cells _ _ (0, 0))) := box_keep (by repeat (first | (with_reducible exact HXV019.out) | ((with_reducible refine heap_new_at _ ?_); focus (first | (with_reducible rfl) | (simp; done))) | (with_reducible refine box_alloc ?_ _) | (with_reducible apply box_set) | ((with_reducible refine box_far ?_ ?_ _); rotate_left 1; focus (first | (simp; done) | (simp; omega) | omega)) | (with_reducible refine box_drew ?_) | (with_reducible refine box_drewN ?_ _))) hb
  try simp only [List.setIfInBounds_toArray, List.set_cons_zero, List.set_cons_succ] at HXV022
  have HXV122 : Hid (w8.heap[w1.heap.size]? = some (.cells _ _ (0, 0))) := box_keep (by repeat (first | (with_reducible exact HXV119.out) | ((with_reducible refine heap_new_at _ ?_); focus (first | (with_reducible rfl) | (simp; done))) | (with_reducible refine box_alloc ?_ _) | (with_reducible apply box_set) | ((with_reducible refine box_far ?_ ?_ _); rotate_left 1; focus (first | (simp; done) | (simp; omega) | omega)) | (with_reducible refine box_drew ?_) | (with_reducible refine box_drewN ?_ _))) hb
  try simp only [List.setIfInBounds_toArray, List.set_cons_zero, List.set_cons_succ] at HXV122
  have HXV222 : Hid (w8.heap[w2.heap.size]? = some (.cells _ _ (0, 0))) := box_keep (by repeat (first | (with_reducible exact HXV219.out) | ((with_reducible refine heap_new_at _ ?_); focus (first | (with_reducible rfl) | (simp; done))) | (with_reducible refine box_alloc ?_ _) | (with_reducible apply box_set) | ((with_reducible refine box_far ?_ ?_ _); rotate_left 1; focus (first | (simp; done) | (simp; omega) | omega)) | (with_reducible refine box_drew ?_) | (with_reducible refine box_drewN ?_ _))) hb
  try simp only [List.setIfInBounds_toArray, List.set_cons_zero, List.set_cons_succ] at HXV222
  have HXV322 : Hid (w8.heap[w3.heap.size]? = some (.cells _ _ (0, 0))) := box_keep (by repeat (first | (with_reducible exact HXV319.out) | ((with_reducible refine heap_new_at _ ?_); focus (first | (with_reducible rfl) | (simp; done))) | (with_reducible refine box_alloc ?_ _) | (with_reducible apply box_set) | ((with_reducible refine box_far ?_ ?_ _); rotate_left 1; focus (first | (simp; done) | (simp; omega) | omega)) | (with_reducible refine box_drew ?_) | (with_reducible refine box_drewN ?_ _))) hb
  try simp only [List.setIfInBounds_toArray, List.set_cons_zero, List.set_cons_succ] at HXV322
  have HXV422 : Hid (w8.heap[w4.heap.size]? = some (.cells _ _ (0, 0))) := box_keep (by repeat (first | (with_reducible exact HXV419.out) | ((with_reducible refine heap_new_at _ ?_); focus (first | (with_reducible rfl) | (simp; done))) | (with_reducible refine box_alloc ?_ _) | (with_reducible apply box_set) | ((with_reducible refine box_far ?_ ?_ _); rotate_left 1; focus (first | (simp; done) | (simp; omega) | omega)) | (with_reducible refine box_drew ?_) | (with_reducible refine box_drewN ?_ _))) hb
  try simp only [List.setIfInBounds_toArray, List.set_cons_zero, List.set_cons_succ] at HXV422
  have HXV522 : Hid (w8.heap[w5.heap.size]? = some (.cells _ _ (0, 0))) := box_keep (by repeat (first | (with_reducible exact HXV519.out) | ((with_reducible refine heap_new_at _ ?_); focus (first | (with_reducible rfl) | (simp; done))) | (with_reducible refine box_alloc ?_ _) | (with_reducible apply box_set) | ((with_reducible refine box_far ?_ ?_ _); rotate_left 1; focus (first | (simp; done) | (simp; omega) | omega)) | (with_reducible refine box_drew ?_) | (with_reducible refine box_drewN ?_ _))) hb
  try simp only [List.setIfInBounds_toArray, List.set_cons_zero, List.set_cons_succ] at HXV522
  have HXV622 : Hid (w8.heap[w6.heap.size]? = some (.cells _ _ (0, 0))) := box_keep (by repeat (first | (with_reducible exact HXV619.out) | ((with_reducible refine heap_new_at _ ?_); focus (first | (with_reducible rfl) | (simp; done))) | (with_reducible refine box_alloc ?_ _) | (with_reducible apply box_set) | ((with_reducible refine box_far ?_ ?_ _); rotate_left 1; focus (first | (simp; done) | (simp; omega) | omega)) | (with_reducible refine box_drew ?_) | (with_reducible refine box_drewN ?_ _))) hb
  try simp only [List.setIfInBounds_toArray, List.set_cons_zero, List.set_cons_succ] at HXV622
  have HXV722 : Hid (w8.heap[w7.heap.size]? = some (.cells _ _ (0, 0))) := box_keep (by repeat (first | ((with_reducible refine heap_new_at _ ?_); focus (first | (with_reducible rfl) | (simp; done))) | (with_reducible refine box_alloc ?_ _) | (with_reducible apply box_set) | ((with_reducible refine box_far ?_ ?_ _); rotate_left 1; focus (first | (simp; done) | (simp; omega) | omega)) | (with_reducible refine box_drew ?_) | (with_reducible refine box_drewN ?_ _))) hb
  try simp only [List.setIfInBounds_toArray, List.set_cons_zero, List.set_cons_succ] at HXV722
  clear xV0 yV0
  clear xV1 yV1
  clear xV2 yV2
  clear xV3 yV3
  clear xV4 yV4
  clear xV5 yV5
  clear xV6 yV6
  obtain ⟨xV0, yV0⟩ := box_rules HXV022.out
  have lV022 := box_lt HXV022.out
  clear HXV019
  obtain ⟨xV1, yV1⟩ := box_rules HXV122.out
  have lV122 := box_lt HXV122.out
  clear HXV119
  obtain ⟨xV2, yV2⟩ := box_rules HXV222.out
  have lV222 := box_lt HXV222.out
  clear HXV219
  obtain ⟨xV3, yV3⟩ := box_rules HXV322.out
  have lV322 := box_lt HXV322.out
  clear HXV319
  obtain ⟨xV4, yV4⟩ := box_rules HXV422.out
  have lV422 := box_lt HXV422.out
  clear HXV419
  obtain ⟨xV5, yV5⟩ := box_rules HXV522.out
  have lV522 := box_lt HXV522.out
  clear HXV519
  obtain ⟨xV6, yV6⟩ := box_rules HXV622.out
  have lV622 := box_lt HXV622.out
  clear HXV619
  obtain ⟨xV7, yV7⟩ := box_rules HXV722.out
  have lV722 := box_lt HXV722.out
  have RP122 : Hid (Rd w8 A1 (X1.1.prio.map (.int .i64))) := Rd.below (by repeat (with_reducible first | exact RP119.out | refine Rd.set ?_ QP1V0.out _ | refine Rd.drew ?_ | refine Rd.drewN ?_ _ | refine Rd.alloc ?_ _)) hb
  clear RP119
  have RS122 : Hid (Rd w8 B1 (X1.1.stack.map (.int .i64))) := Rd.below (by repeat (with_reducible first | exact RS119.out | refine Rd.set ?_ QS1V0.out _ | refine Rd.drew ?_ | refine Rd.drewN ?_ _ | refine Rd.alloc ?_ _)) hb
  clear RS119
  have RP222 : Hid (Rd w8 A2 (X1.1.prio.map (.int .i64))) := Rd.below (by repeat (with_reducible first | exact RP219.out | refine Rd.set ?_ QP2V0.out _ | refine Rd.set ?_ QP2V1.out _ | refine Rd.drew ?_ | refine Rd.drewN ?_ _ | refine Rd.alloc ?_ _)) hb
  clear RP219
  have RS222 : Hid (Rd w8 B2 (X1.1.stack.map (.int .i64))) := Rd.below (by repeat (with_reducible first | exact RS219.out | refine Rd.set ?_ QS2V0.out _ | refine Rd.set ?_ QS2V1.out _ | refine Rd.drew ?_ | refine Rd.drewN ?_ _ | refine Rd.alloc ?_ _)) hb
  clear RS219
  have RP322 : Hid (Rd w8 A3 (X2.1.prio.map (.int .i64))) := Rd.below (by repeat (with_reducible first | exact RP319.out | refine Rd.set ?_ QP3V0.out _ | refine Rd.set ?_ QP3V1.out _ | refine Rd.set ?_ QP3V2.out _ | refine Rd.drew ?_ | refine Rd.drewN ?_ _ | refine Rd.alloc ?_ _)) hb
  clear RP319
  have RS322 : Hid (Rd w8 B3 (X2.1.stack.map (.int .i64))) := Rd.below (by repeat (with_reducible first | exact RS319.out | refine Rd.set ?_ QS3V0.out _ | refine Rd.set ?_ QS3V1.out _ | refine Rd.set ?_ QS3V2.out _ | refine Rd.drew ?_ | refine Rd.drewN ?_ _ | refine Rd.alloc ?_ _)) hb
  clear RS319
  have RP422 : Hid (Rd w8 A4 (X2.1.prio.map (.int .i64))) := Rd.below (by repeat (with_reducible first | exact RP419.out | refine Rd.set ?_ QP4V0.out _ | refine Rd.set ?_ QP4V1.out _ | refine Rd.set ?_ QP4V2.out _ | refine Rd.set ?_ QP4V3.out _ | refine Rd.drew ?_ | refine Rd.drewN ?_ _ | refine Rd.alloc ?_ _)) hb
  clear RP419
  have RS422 : Hid (Rd w8 B4 (X2.1.stack.map (.int .i64))) := Rd.below (by repeat (with_reducible first | exact RS419.out | refine Rd.set ?_ QS4V0.out _ | refine Rd.set ?_ QS4V1.out _ | refine Rd.set ?_ QS4V2.out _ | refine Rd.set ?_ QS4V3.out _ | refine Rd.drew ?_ | refine Rd.drewN ?_ _ | refine Rd.alloc ?_ _)) hb
  clear RS419
  have RP522 : Hid (Rd w8 A5 (X3.1.prio.map (.int .i64))) := Rd.below (by repeat (with_reducible first | exact RP519.out | refine Rd.set ?_ QP5V0.out _ | refine Rd.set ?_ QP5V1.out _ | refine Rd.set ?_ QP5V2.out _ | refine Rd.set ?_ QP5V3.out _ | refine Rd.set ?_ QP5V4.out _ | refine Rd.drew ?_ | refine Rd.drewN ?_ _ | refine Rd.alloc ?_ _)) hb
  clear RP519
  have RS522 : Hid (Rd w8 B5 (X3.1.stack.map (.int .i64))) := Rd.below (by repeat (with_reducible first | exact RS519.out | refine Rd.set ?_ QS5V0.out _ | refine Rd.set ?_ QS5V1.out _ | refine Rd.set ?_ QS5V2.out _ | refine Rd.set ?_ QS5V3.out _ | refine Rd.set ?_ QS5V4.out _ | refine Rd.drew ?_ | refine Rd.drewN ?_ _ | refine Rd.alloc ?_ _)) hb
  clear RS519
  have RP622 : Hid (Rd w8 A6 (X3.1.prio.map (.int .i64))) := Rd.below (by repeat (with_reducible first | exact RP619.out | refine Rd.set ?_ QP6V0.out _ | refine Rd.set ?_ QP6V1.out _ | refine Rd.set ?_ QP6V2.out _ | refine Rd.set ?_ QP6V3.out _ | refine Rd.set ?_ QP6V4.out _ | refine Rd.set ?_ QP6V5.out _ | refine Rd.drew ?_ | refine Rd.drewN ?_ _ | refine Rd.alloc ?_ _)) hb
  clear RP619
  have RS622 : Hid (Rd w8 B6 (X3.1.stack.map (.int .i64))) := Rd.below (by repeat (with_reducible first | exact RS619.out | refine Rd.set ?_ QS6V0.out _ | refine Rd.set ?_ QS6V1.out _ | refine Rd.set ?_ QS6V2.out _ | refine Rd.set ?_ QS6V3.out _ | refine Rd.set ?_ QS6V4.out _ | refine Rd.set ?_ QS6V5.out _ | refine Rd.drew ?_ | refine Rd.drewN ?_ _ | refine Rd.alloc ?_ _)) hb
  clear RS619
  have RP722 : Hid (Rd w8 A7 (X4.1.prio.map (.int .i64))) := Rd.below (by repeat (with_reducible first | exact RP7.out | refine Rd.set ?_ QP7V0.out _ | refine Rd.set ?_ QP7V1.out _ | refine Rd.set ?_ QP7V2.out _ | refine Rd.set ?_ QP7V3.out _ | refine Rd.set ?_ QP7V4.out _ | refine Rd.set ?_ QP7V5.out _ | refine Rd.set ?_ QP7V6.out _ | refine Rd.drew ?_ | refine Rd.drewN ?_ _ | refine Rd.alloc ?_ _)) hb
  clear RP7
  have RS722 : Hid (Rd w8 B7 (X4.1.stack.map (.int .i64))) := Rd.below (by repeat (with_reducible first | exact RS7.out | refine Rd.set ?_ QS7V0.out _ | refine Rd.set ?_ QS7V1.out _ | refine Rd.set ?_ QS7V2.out _ | refine Rd.set ?_ QS7V3.out _ | refine Rd.set ?_ QS7V4.out _ | refine Rd.set ?_ QS7V5.out _ | refine Rd.set ?_ QS7V6.out _ | refine Rd.drew ?_ | refine Rd.drewN ?_ _ | refine Rd.alloc ?_ _)) hb
  clear RS7
  have HB22 : Hid (Below w.heap.size w w8) := Below.trans (by repeat (first | (with_reducible exact HB19.out) | (with_reducible refine Below.setCell ?_ leV0 _) | (with_reducible refine Below.setCell ?_ leV1 _) | (with_reducible refine Below.setCell ?_ leV2 _) | (with_reducible refine Below.setCell ?_ leV3 _) | (with_reducible refine Below.setCell ?_ leV4 _) | (with_reducible refine Below.setCell ?_ leV5 _) | (with_reducible refine Below.setCell ?_ leV6 _) | (with_reducible refine Below.setCell ?_ leV7 _) | (with_reducible refine Below.drew ?_) | (with_reducible refine bdrewN ?_ _) | ((with_reducible refine Below.alloc ?_ ?_ _); rotate_left 1; focus (first | (simp; done) | (simp; omega) | omega)))) (hb.mono (by first | (simp; done) | (simp; omega) | omega | (simp [World.setCell]; omega)))
  clear HB19
  have s22 : w.heap.size ≤ w8.heap.size := HB22.out.size
  have z22 : w7.heap.size ≤ w8.heap.size := by have := hb.size; (try simp at this); omega
  have RP8 : Hid (Rd w8 A8 (X4.1.prio.map (.int .i64))) := hp
  have NP8 : Hid (∀ a, A8 = some a → w.heap.size ≤ a.block) := fun a ha => by have := hn.1 a ha; (try simp at this); omega
  have QP8V0 : Hid (∀ a, A8 = some a → a.block ≠ w.heap.size) := fun a ha e => by have := hn.1 a ha; (try simp at this); omega
  have QP8V1 : Hid (∀ a, A8 = some a → a.block ≠ w1.heap.size) := fun a ha e => by have := hn.1 a ha; (try simp at this); omega
  have QP8V2 : Hid (∀ a, A8 = some a → a.block ≠ w2.heap.size) := fun a ha e => by have := hn.1 a ha; (try simp at this); omega
  have QP8V3 : Hid (∀ a, A8 = some a → a.block ≠ w3.heap.size) := fun a ha e => by have := hn.1 a ha; (try simp at this); omega
  have QP8V4 : Hid (∀ a, A8 = some a → a.block ≠ w4.heap.size) := fun a ha e => by have := hn.1 a ha; (try simp at this); omega
  have QP8V5 : Hid (∀ a, A8 = some a → a.block ≠ w5.heap.size) := fun a ha e => by have := hn.1 a ha; (try simp at this); omega
  have QP8V6 : Hid (∀ a, A8 = some a → a.block ≠ w6.heap.size) := fun a ha e => by have := hn.1 a ha; (try simp at this); omega
  have QP8V7 : Hid (∀ a, A8 = some a → a.block ≠ w7.heap.size) := fun a ha e => by have := hn.1 a ha; (try simp at this); omega
  have RS8 : Hid (Rd w8 B8 (X4.1.stack.map (.int .i64))) := hs
  have NS8 : Hid (∀ a, B8 = some a → w.heap.size ≤ a.block) := fun a ha => by have := hn.2 a ha; (try simp at this); omega
  have QS8V0 : Hid (∀ a, B8 = some a → a.block ≠ w.heap.size) := fun a ha e => by have := hn.2 a ha; (try simp at this); omega
  have QS8V1 : Hid (∀ a, B8 = some a → a.block ≠ w1.heap.size) := fun a ha e => by have := hn.2 a ha; (try simp at this); omega
  have QS8V2 : Hid (∀ a, B8 = some a → a.block ≠ w2.heap.size) := fun a ha e => by have := hn.2 a ha; (try simp at this); omega
  have QS8V3 : Hid (∀ a, B8 = some a → a.block ≠ w3.heap.size) := fun a ha e => by have := hn.2 a ha; (try simp at this); omega
  have QS8V4 : Hid (∀ a, B8 = some a → a.block ≠ w4.heap.size) := fun a ha e => by have := hn.2 a ha; (try simp at this); omega
  have QS8V5 : Hid (∀ a, B8 = some a → a.block ≠ w5.heap.size) := fun a ha e => by have := hn.2 a ha; (try simp at this); omega
  have QS8V6 : Hid (∀ a, B8 = some a → a.block ≠ w6.heap.size) := fun a ha e => by have := hn.2 a ha; (try simp at this); omega
  have QS8V7 : Hid (∀ a, B8 = some a → a.block ≠ w7.heap.size) := fun a ha e => by have := hn.2 a ha; (try simp at this); omega
  have leV8 : w.heap.size ≤ w8.heap.size := by omega
  clear hp hs hb hn
  go_wp2_with fail
  refine (f5.out A c _ ?_).mono ?_
  · exact Rd.below Hr.out (by repeat (first | (with_reducible exact HB22.out) | (with_reducible refine Below.setCell ?_ leV0 _) | (with_reducible refine Below.setCell ?_ leV1 _) | (with_reducible refine Below.setCell ?_ leV2 _) | (with_reducible refine Below.setCell ?_ leV3 _) | (with_reducible refine Below.setCell ?_ leV4 _) | (with_reducible refine Below.setCell ?_ leV5 _) | (with_reducible refine Below.setCell ?_ leV6 _) | (with_reducible refine Below.setCell ?_ leV7 _) | (with_reducible refine Below.setCell ?_ leV8 _) | (with_reducible refine Below.drew ?_) | (with_reducible refine bdrewN ?_ _) | ((with_reducible refine Below.alloc ?_ ?_ _); rotate_left 1; focus (first | (simp; done) | (simp; omega) | omega))))
  rintro e w9 ⟨A9, k9, B9, j9, rfl, hp, hs, hb, hn⟩
  unfold icv
  have HXV025 : Hid (w9.heap[w.heap.size]? = some (.cells _ _ (0, 0))) := box_keep (by repeat (first | (with_reducible exact HXV022.out) | ((with_reducible refine heap_new_at _ ?_); focus (first | (with_reducible rfl) | (simp; done))) | (with_reducible refine box_alloc ?_ _) | (with_reducible apply box_set) | ((with_reducible refine box_far ?_ ?_ _); rotate_left 1; focus (first | (simp; done) | (simp; omega) | omega)) | (with_reducible refine box_drew ?_) | (with_reducible refine box_drewN ?_ _))) hb
  try simp only [List.setIfInBounds_toArray, List.set_cons_zero, List.set_cons_succ] at HXV025
  have HXV125 : Hid (w9.heap[w1.heap.size]? = some (.cells _ _ (0, 0))) := box_keep (by repeat (first | (with_reducible exact HXV122.out) | ((with_reducible refine heap_new_at _ ?_); focus (first | (with_reducible rfl) | (simp; done))) | (with_reducible refine box_alloc ?_ _) | (with_reducible apply box_set) | ((with_reducible refine box_far ?_ ?_ _); rotate_left 1; focus (first | (simp; done) | (simp; omega) | omega)) | (with_reducible refine box_drew ?_) | (with_reducible refine box_drewN ?_ _))) hb
  try simp only [List.setIfInBounds_toArray, List.set_cons_zero, List.set_cons_succ] at HXV125
  have HXV225 : Hid (w9.heap[w2.heap.size]? = some (.cells _ _ (0, 0))) := box_keep (by repeat (first | (with_reducible exact HXV222.out) | ((with_reducible refine heap_new_at _ ?_); focus (first | (with_reducible rfl) | (simp; done))) | (with_reducible refine box_alloc ?_ _) | (with_reducible apply box_set) | ((with_reducible refine box_far ?_ ?_ _); rotate_left 1; focus (first | (simp; done) | (simp; omega) | omega)) | (with_reducible refine box_drew ?_) | (with_reducible refine box_drewN ?_ _))) hb
  try simp only [List.setIfInBounds_toArray, List.set_cons_zero, List.set_cons_succ] at HXV225
  have HXV325 : Hid (w9.heap[w3.heap.size]? = some (.cells _ _ (0, 0))) := box_keep (by repeat (first | (with_reducible exact HXV322.out) | ((with_reducible refine heap_new_at _ ?_); focus (first | (with_reducible rfl) | (simp; done))) | (with_reducible refine box_alloc ?_ _) | (with_reducible apply box_set) | ((with_reducible refine box_far ?_ ?_ _); rotate_left 1; focus (first | (simp; done) | (simp; omega) | omega)) | (with_reducible refine box_drew ?_) | (with_reducible refine box_drewN ?_ _))) hb
  try simp only [List.setIfInBounds_toArray, List.set_cons_zero, List.set_cons_succ] at HXV325
  have HXV425 : Hid (w9.heap[w4.heap.size]? = some (.cells _ _ (0, 0))) := box_keep (by repeat (first | (with_reducible exact HXV422.out) | ((with_reducible refine heap_new_at _ ?_); focus (first | (with_reducible rfl) | (simp; done))) | (with_reducible refine box_alloc ?_ _) | (with_reducible apply box_set) | ((with_reducible refine box_far ?_ ?_ _); rotate_left 1; focus (first | (simp; done) | (simp; omega) | omega)) | (with_reducible refine box_drew ?_) | (with_reducible refine box_drewN ?_ _))) hb
  try simp only [List.setIfInBounds_toArray, List.set_cons_zero, List.set_cons_succ] at HXV425
  have HXV525 : Hid (w9.heap[w5.heap.size]? = some (.cells _ _ (0, 0))) := box_keep (by repeat (first | (with_reducible exact HXV522.out) | ((with_reducible refine heap_new_at _ ?_); focus (first | (with_reducible rfl) | (simp; done))) | (with_reducible refine box_alloc ?_ _) | (with_reducible apply box_set) | ((with_reducible refine box_far ?_ ?_ _); rotate_left 1; focus (first | (simp; done) | (simp; omega) | omega)) | (with_reducible refine box_drew ?_) | (with_reducible refine box_drewN ?_ _))) hb
  try simp only [List.setIfInBounds_toArray, List.set_cons_zero, List.set_cons_succ] at HXV525
  have HXV625 : Hid (w9.heap[w6.heap.size]? = some (.cells _ _ (0, 0))) := box_keep (by repeat (first | (with_reducible exact HXV622.out) | ((with_reducible refine heap_new_at _ ?_); focus (first | (with_reducible rfl) | (simp; done))) | (with_reducible refine box_alloc ?_ _) | (with_reducible apply box_set) | ((with_reducible refine box_far ?_ ?_ _); rotate_left 1; focus (first | (simp; done) | (simp; omega) | omega)) | (with_reducible refine box_drew ?_) | (with_reducible refine box_drewN ?_ _))) hb
  try simp only [List.setIfInBounds_toArray, List.set_cons_zero, List.set_cons_succ] at HXV625
  have HXV725 : Hid (w9.heap[w7.heap.size]? = some (.cells _ _ (0, 0))) := box_keep (by repeat (first | (with_reducible exact HXV722.out) | ((with_reducible refine heap_new_at _ ?_); focus (first | (with_reducible rfl) | (simp; done))) | (with_reducible refine box_alloc ?_ _) | (with_reducible apply box_set) | ((with_reducible refine box_far ?_ ?_ _); rotate_left 1; focus (first | (simp; done) | (simp; omega) | omega)) | (with_reducible refine box_drew ?_) | (with_reducible refine box_drewN ?_ _))) hb
  try simp only [List.setIfInBounds_toArray, List.set_cons_zero, List.set_cons_succ] at HXV725
  have HXV825 : Hid (w9.heap[w8.heap.size]? = some (.cells _ _ (0, 0))) := box_keep (by repeat (first | ((with_reducible refine heap_new_at _ ?_); focus (first | (with_reducible rfl) | (simp; done))) | (with_reducible refine box_alloc ?_ _) | (with_reducible apply box_set) | ((with_reducible refine box_far ?_ ?_ _); rotate_left 1; focus (first | (simp; done) | (simp; omega) | omega)) | (with_reducible refine box_drew ?_) | (with_reducible refine box_drewN ?_ _))) hb
  try simp only [List.setIfInBounds_toArray, List.set_cons_zero, List.set_cons_succ] at HXV825
  clear xV0 yV0
  clear xV1 yV1
  clear xV2 yV2
  clear xV3 yV3
  clear xV4 yV4
  clear xV5 yV5
  clear xV6 yV6
  clear xV7 yV7
  obtain ⟨xV0, yV0⟩ := box_rules HXV025.out
  have lV025 := box_lt HXV025.out
  clear HXV022
  obtain ⟨xV1, yV1⟩ := box_rules HXV125.out
  have lV125 := box_lt HXV125.out
  clear HXV122
  obtain ⟨xV2, yV2⟩ := box_rules HXV225.out
  have lV225 := box_lt HXV225.out
  clear HXV222
  obtain ⟨xV3, yV3⟩ := box_rules HXV325.out
  have lV325 := box_lt HXV325.out
  clear HXV322
  obtain ⟨xV4, yV4⟩ := box_rules HXV425.out
  have lV425 := box_lt HXV425.out
  clear HXV422
  obtain ⟨xV5, yV5⟩ := box_rules HXV525.out
  have lV525 := box_lt HXV525.out
  clear HXV522
  obtain ⟨xV6, yV6⟩ := box_rules HXV625.out
  have lV625 := box_lt HXV625.out
  clear HXV622
  obtain ⟨xV7, yV7⟩ := box_rules HXV725.out
  have lV725 := box_lt HXV725.out
  clear HXV722
  obtain ⟨xV8, yV8⟩ := box_rules HXV825.out
  have lV825 := box_lt HXV825.out
  have RP125 : Hid (Rd w9 A1 (X1.1.prio.map (.int .i64))) := Rd.below (by repeat (with_reducible first | exact RP122.out | refine Rd.set ?_ QP1V0.out _ | refine Rd.drew ?_ | refine Rd.drewN ?_ _ | refine Rd.alloc ?_ _)) hb
  clear RP122
  have RS125 : Hid (Rd w9 B1 (X1.1.stack.map (.int .i64))) := Rd.below (by repeat (with_reducible first | exact RS122.out | refine Rd.set ?_ QS1V0.out _ | refine Rd.drew ?_ | refine Rd.drewN ?_ _ | refine Rd.alloc ?_ _)) hb
  clear RS122
  have RP225 : Hid (Rd w9 A2 (X1.1.prio.map (.int .i64))) := Rd.below (by repeat (with_reducible first | exact RP222.out | refine Rd.set ?_ QP2V0.out _ | refine Rd.set ?_ QP2V1.out _ | refine Rd.drew ?_ | refine Rd.drewN ?_ _ | refine Rd.alloc ?_ _)) hb
  clear RP222
  have RS225 : Hid (Rd w9 B2 (X1.1.stack.map (.int .i64))) := Rd.below (by repeat (with_reducible first | exact RS222.out | refine Rd.set ?_ QS2V0.out _ | refine Rd.set ?_ QS2V1.out _ | refine Rd.drew ?_ | refine Rd.drewN ?_ _ | refine Rd.alloc ?_ _)) hb
  clear RS222
  have RP325 : Hid (Rd w9 A3 (X2.1.prio.map (.int .i64))) := Rd.below (by repeat (with_reducible first | exact RP322.out | refine Rd.set ?_ QP3V0.out _ | refine Rd.set ?_ QP3V1.out _ | refine Rd.set ?_ QP3V2.out _ | refine Rd.drew ?_ | refine Rd.drewN ?_ _ | refine Rd.alloc ?_ _)) hb
  clear RP322
  have RS325 : Hid (Rd w9 B3 (X2.1.stack.map (.int .i64))) := Rd.below (by repeat (with_reducible first | exact RS322.out | refine Rd.set ?_ QS3V0.out _ | refine Rd.set ?_ QS3V1.out _ | refine Rd.set ?_ QS3V2.out _ | refine Rd.drew ?_ | refine Rd.drewN ?_ _ | refine Rd.alloc ?_ _)) hb
  clear RS322
  have RP425 : Hid (Rd w9 A4 (X2.1.prio.map (.int .i64))) := Rd.below (by repeat (with_reducible first | exact RP422.out | refine Rd.set ?_ QP4V0.out _ | refine Rd.set ?_ QP4V1.out _ | refine Rd.set ?_ QP4V2.out _ | refine Rd.set ?_ QP4V3.out _ | refine Rd.drew ?_ | refine Rd.drewN ?_ _ | refine Rd.alloc ?_ _)) hb
  clear RP422
  have RS425 : Hid (Rd w9 B4 (X2.1.stack.map (.int .i64))) := Rd.below (by repeat (with_reducible first | exact RS422.out | refine Rd.set ?_ QS4V0.out _ | refine Rd.set ?_ QS4V1.out _ | refine Rd.set ?_ QS4V2.out _ | refine Rd.set ?_ QS4V3.out _ | refine Rd.drew ?_ | refine Rd.drewN ?_ _ | refine Rd.alloc ?_ _)) hb
  clear RS422
  have RP525 : Hid (Rd w9 A5 (X3.1.prio.map (.int .i64))) := Rd.below (by repeat (with_reducible first | exact RP522.out | refine Rd.set ?_ QP5V0.out _ | refine Rd.set ?_ QP5V1.out _ | refine Rd.set ?_ QP5V2.out _ | refine Rd.set ?_ QP5V3.out _ | refine Rd.set ?_ QP5V4.out _ | refine Rd.drew ?_ | refine Rd.drewN ?_ _ | refine Rd.alloc ?_ _)) hb
  clear RP522
  have RS525 : Hid (Rd w9 B5 (X3.1.stack.map (.int .i64))) := Rd.below (by repeat (with_reducible first | exact RS522.out | refine Rd.set ?_ QS5V0.out _ | refine Rd.set ?_ QS5V1.out _ | refine Rd.set ?_ QS5V2.out _ | refine Rd.set ?_ QS5V3.out _ | refine Rd.set ?_ QS5V4.out _ | refine Rd.drew ?_ | refine Rd.drewN ?_ _ | refine Rd.alloc ?_ _)) hb
  clear RS522
  have RP625 : Hid (Rd w9 A6 (X3.1.prio.map (.int .i64))) := Rd.below (by repeat (with_reducible first | exact RP622.out | refine Rd.set ?_ QP6V0.out _ | refine Rd.set ?_ QP6V1.out _ | refine Rd.set ?_ QP6V2.out _ | refine Rd.set ?_ QP6V3.out _ | refine Rd.set ?_ QP6V4.out _ | refine Rd.set ?_ QP6V5.out _ | refine Rd.drew ?_ | refine Rd.drewN ?_ _ | refine Rd.alloc ?_ _)) hb
  clear RP622
  have RS625 : Hid (Rd w9 B6 (X3.1.stack.map (.int .i64))) := Rd.below (by repeat (with_reducible first | exact RS622.out | refine Rd.set ?_ QS6V0.out _ | refine Rd.set ?_ QS6V1.out _ | refine Rd.set ?_ QS6V2.out _ | refine Rd.set ?_ QS6V3.out _ | refine Rd.set ?_ QS6V4.out _ | refine Rd.set ?_ QS6V5.out _ | refine Rd.drew ?_ | refine Rd.drewN ?_ _ | refine Rd.alloc ?_ _)) hb
  clear RS622
  have RP725 : Hid (Rd w9 A7 (X4.1.prio.map (.int .i64))) := Rd.below (by repeat (with_reducible first | exact RP722.out | refine Rd.set ?_ QP7V0.out _ | refine Rd.set ?_ QP7V1.out _ | refine Rd.set ?_ QP7V2.out _ | refine Rd.set ?_ QP7V3.out _ | refine Rd.set ?_ QP7V4.out _ | refine Rd.set ?_ QP7V5.out _ | refine Rd.set ?_ QP7V6.out _ | refine Rd.drew ?_ | refine Rd.drewN ?_ _ | refine Rd.alloc ?_ _)) hb
  clear RP722
  have RS725 : Hid (Rd w9 B7 (X4.1.stack.map (.int .i64))) := Rd.below (by repeat (with_reducible first | exact RS722.out | refine Rd.set ?_ QS7V0.out _ | refine Rd.set ?_ QS7V1.out _ | refine Rd.set ?_ QS7V2.out _ | refine Rd.set ?_ QS7V3.out _ | refine Rd.set ?_ QS7V4.out _ | refine Rd.set ?_ QS7V5.out _ | refine Rd.set ?_ QS7V6.out _ | refine Rd.drew ?_ | refine Rd.drewN ?_ _ | refine Rd.alloc ?_ _)) hb
  clear RS722
  have RP825 : Hid (Rd w9 A8 (X4.1.prio.map (.int .i64))) := Rd.below (by repeat (with_reducible first | exact RP8.out | refine Rd.set ?_ QP8V0.out _ | refine Rd.set ?_ QP8V1.out _ | refine Rd.set ?_ QP8V2.out _ | refine Rd.set ?_ QP8V3.out _ | refine Rd.set ?_ QP8V4.out _ | refine Rd.set ?_ QP8V5.out _ | refine Rd.set ?_ QP8V6.out _ | refine Rd.set ?_ QP8V7.out _ | refine Rd.drew ?_ | refine Rd.drewN ?_ _ | refine Rd.alloc ?_ _)) hb
  clear RP8
  have RS825 : Hid (Rd w9 B8 (X4.1.stack.map (.int .i64))) := Rd.below (by repeat (with_reducible first | exact RS8.out | refine Rd.set ?_ QS8V0.out _ | refine Rd.set ?_ QS8V1.out _ | refine Rd.set ?_ QS8V2.out _ | refine Rd.set ?_ QS8V3.out _ | refine Rd.set ?_ QS8V4.out _ | refine Rd.set ?_ QS8V5.out _ | refine Rd.set ?_ QS8V6.out _ | refine Rd.set ?_ QS8V7.out _ | refine Rd.drew ?_ | refine Rd.drewN ?_ _ | refine Rd.alloc ?_ _)) hb
  clear RS8
  have HB25 : Hid (Below w.heap.size w w9) := Below.trans (by repeat (first | (with_reducible exact HB22.out) | (with_reducible refine Below.setCell ?_ leV0 _) | (with_reducible refine Below.setCell ?_ leV1 _) | (with_reducible refine Below.setCell ?_ leV2 _) | (with_reducible refine Below.setCell ?_ leV3 _) | (with_reducible refine Below.setCell ?_ leV4 _) | (with_reducible refine Below.setCell ?_ leV5 _) | (with_reducible refine Below.setCell ?_ leV6 _) | (with_reducible refine Below.setCell ?_ leV7 _) | (with_reducible refine Below.setCell ?_ leV8 _) | (with_reducible refine Below.drew ?_) | (with_reducible refine bdrewN ?_ _) | ((with_reducible refine Below.alloc ?_ ?_ _); rotate_left 1; focus (first | (simp; done) | (simp; omega) | omega)))) (hb.mono (by first | (simp; done) | (simp; omega) | omega | (simp [World.setCell]; omega)))
  clear HB22
  have s25 : w.heap.size ≤ w9.heap.size := HB25.out.size
  have z25 : w8.heap.size ≤ w9.heap.size := by have := hb.size; (try simp at this); omega
  have RP9 : Hid (Rd w9 A9 (X5.1.prio.map (.int .i64))) := hp
  have NP9 : Hid (∀ a, A9 = some a → w.heap.size ≤ a.block) := fun a ha => by have := hn.1 a ha; (try simp at this); omega
  have QP9V0 : Hid (∀ a, A9 = some a → a.block ≠ w.heap.size) := fun a ha e => by have := hn.1 a ha; (try simp at this); omega
  have QP9V1 : Hid (∀ a, A9 = some a → a.block ≠ w1.heap.size) := fun a ha e => by have := hn.1 a ha; (try simp at this); omega
  have QP9V2 : Hid (∀ a, A9 = some a → a.block ≠ w2.heap.size) := fun a ha e => by have := hn.1 a ha; (try simp at this); omega
  have QP9V3 : Hid (∀ a, A9 = some a → a.block ≠ w3.heap.size) := fun a ha e => by have := hn.1 a ha; (try simp at this); omega
  have QP9V4 : Hid (∀ a, A9 = some a → a.block ≠ w4.heap.size) := fun a ha e => by have := hn.1 a ha; (try simp at this); omega
  have QP9V5 : Hid (∀ a, A9 = some a → a.block ≠ w5.heap.size) := fun a ha e => by have := hn.1 a ha; (try simp at this); omega
  have QP9V6 : Hid (∀ a, A9 = some a → a.block ≠ w6.heap.size) := fun a ha e => by have := hn.1 a ha; (try simp at this); omega
  have QP9V7 : Hid (∀ a, A9 = some a → a.block ≠ w7.heap.size) := fun a ha e => by have := hn.1 a ha; (try simp at this); omega
  have QP9V8 : Hid (∀ a, A9 = some a → a.block ≠ w8.heap.size) := fun a ha e => by have := hn.1 a ha; (try simp at this); omega
  have RS9 : Hid (Rd w9 B9 (X5.1.stack.map (.int .i64))) := hs
  have NS9 : Hid (∀ a, B9 = some a → w.heap.size ≤ a.block) := fun a ha => by have := hn.2 a ha; (try simp at this); omega
  have QS9V0 : Hid (∀ a, B9 = some a → a.block ≠ w.heap.size) := fun a ha e => by have := hn.2 a ha; (try simp at this); omega
  have QS9V1 : Hid (∀ a, B9 = some a → a.block ≠ w1.heap.size) := fun a ha e => by have := hn.2 a ha; (try simp at this); omega
  have QS9V2 : Hid (∀ a, B9 = some a → a.block ≠ w2.heap.size) := fun a ha e => by have := hn.2 a ha; (try simp at this); omega
  have QS9V3 : Hid (∀ a, B9 = some a → a.block ≠ w3.heap.size) := fun a ha e => by have := hn.2 a ha; (try simp at this); omega
  have QS9V4 : Hid (∀ a, B9 = some a → a.block ≠ w4.heap.size) := fun a ha e => by have := hn.2 a ha; (try simp at this); omega
  have QS9V5 : Hid (∀ a, B9 = some a → a.block ≠ w5.heap.size) := fun a ha e => by have := hn.2 a ha; (try simp at this); omega
  have QS9V6 : Hid (∀ a, B9 = some a → a.block ≠ w6.heap.size) := fun a ha e => by have := hn.2 a ha; (try simp at this); omega
  have QS9V7 : Hid (∀ a, B9 = some a → a.block ≠ w7.heap.size) := fun a ha e => by have := hn.2 a ha; (try simp at this); omega
  have QS9V8 : Hid (∀ a, B9 = some a → a.block ≠ w8.heap.size) := fun a ha e => by have := hn.2 a ha; (try simp at this); omega
  have leV9 : w.heap.size ≤ w9.heap.size := by omega
  clear hp hs hb hn
  go_wp2_with fail
  refine (f5'.out A c _ ?_).mono ?_
  · exact Rd.below Hr.out (by repeat (first | (with_reducible exact HB25.out) | (with_reducible refine Below.setCell ?_ leV0 _) | (with_reducible refine Below.setCell ?_ leV1 _) | (with_reducible refine Below.setCell ?_ leV2 _) | (with_reducible refine Below.setCell ?_ leV3 _) | (with_reducible refine Below.setCell ?_ leV4 _) | (with_reducible refine Below.setCell ?_ leV5 _) | (with_reducible refine Below.setCell ?_ leV6 _) | (with_reducible refine Below.setCell ?_ leV7 _) | (with_reducible refine Below.setCell ?_ leV8 _) | (with_reducible refine Below.setCell ?_ leV9 _) | (with_reducible refine Below.drew ?_) | (with_reducible refine bdrewN ?_ _) | ((with_reducible refine Below.alloc ?_ ?_ _); rotate_left 1; focus (first | (simp; done) | (simp; omega) | omega))))
  rintro e w10 ⟨A10, k10, B10, j10, rfl, hp, hs, hb, hn⟩
  unfold icv
  have HXV028 : Hid (w10.heap[w.heap.size]? = some (.cells _ _ (0, 0))) := box_keep (by repeat (first | (with_reducible exact HXV025.out) | ((with_reducible refine heap_new_at _ ?_); focus (first | (with_reducible rfl) | (simp; done))) | (with_reducible refine box_alloc ?_ _) | (with_reducible apply box_set) | ((with_reducible refine box_far ?_ ?_ _); rotate_left 1; focus (first | (simp; done) | (simp; omega) | omega)) | (with_reducible refine box_drew ?_) | (with_reducible refine box_drewN ?_ _))) hb
  try simp only [List.setIfInBounds_toArray, List.set_cons_zero, List.set_cons_succ] at HXV028
  have HXV128 : Hid (w10.heap[w1.heap.size]? = some (.cells _ _ (0, 0))) := box_keep (by repeat (first | (with_reducible exact HXV125.out) | ((with_reducible refine heap_new_at _ ?_); focus (first | (with_reducible rfl) | (simp; done))) | (with_reducible refine box_alloc ?_ _) | (with_reducible apply box_set) | ((with_reducible refine box_far ?_ ?_ _); rotate_left 1; focus (first | (simp; done) | (simp; omega) | omega)) | (with_reducible refine box_drew ?_) | (with_reducible refine box_drewN ?_ _))) hb
  try simp only [List.setIfInBounds_toArray, List.set_cons_zero, List.set_cons_succ] at HXV128
  have HXV228 : Hid (w10.heap[w2.heap.size]? = some (.cells _ _ (0, 0))) := box_keep (by repeat (first | (with_reducible exact HXV225.out) | ((with_reducible refine heap_new_at _ ?_); focus (first | (with_reducible rfl) | (simp; done))) | (with_reducible refine box_alloc ?_ _) | (with_reducible apply box_set) | ((with_reducible refine box_far ?_ ?_ _); rotate_left 1; focus (first | (simp; done) | (simp; omega) | omega)) | (with_reducible refine box_drew ?_) | (with_reducible refine box_drewN ?_ _))) hb
  try simp only [List.setIfInBounds_toArray, List.set_cons_zero, List.set_cons_succ] at HXV228
  have HXV328 : Hid (w10.heap[w3.heap.size]? = some (.cells _ _ (0, 0))) := box_keep (by repeat (first | (with_reducible exact HXV325.out) | ((with_reducible refine heap_new_at _ ?_); focus (first | (with_reducible rfl) | (simp; done))) | (with_reducible refine box_alloc ?_ _) | (with_reducible apply box_set) | ((with_reducible refine box_far ?_ ?_ _); rotate_left 1; focus (first | (simp; done) | (simp; omega) | omega)) | (with_reducible refine box_drew ?_) | (with_reducible refine box_drewN ?_ _))) hb
  try simp only [List.setIfInBounds_toArray, List.set_cons_zero, List.set_cons_succ] at HXV328
  have HXV428 : Hid (w10.heap[w4.heap.size]? = some (.cells _ _ (0, 0))) := box_keep (by repeat (first | (with_reducible exact HXV425.out) | ((with_reducible refine heap_new_at _ ?_); focus (first | (with_reducible rfl) | (simp; done))) | (with_reducible refine box_alloc ?_ _) | (with_reducible apply box_set) | ((with_reducible refine box_far ?_ ?_ _); rotate_left 1; focus (first | (simp; done) | (simp; omega) | omega)) | (with_reducible refine box_drew ?_) | (with_reducible refine box_drewN ?_ _))) hb
  try simp only [List.setIfInBounds_toArray, List.set_cons_zero, List.set_cons_succ] at HXV428
  have HXV528 : Hid (w10.heap[w5.heap.size]? = some (.cells _ _ (0, 0))) := box_keep (by repeat (first | (with_reducible exact HXV525.out) | ((with_reducible refine heap_new_at _ ?_); focus (first | (with_reducible rfl) | (simp; done))) | (with_reducible refine box_alloc ?_ _) | (with_reducible apply box_set) | ((with_reducible refine box_far ?_ ?_ _); rotate_left 1; focus (first | (simp; done) | (simp; omega) | omega)) | (with_reducible refine box_drew ?_) | (with_reducible refine box_drewN ?_ _))) hb
  try simp only [List.setIfInBounds_toArray, List.set_cons_zero, List.set_cons_succ] at HXV528
  have HXV628 : Hid (w10.heap[w6.heap.size]? = some (.cells _ _ (0, 0))) := box_keep (by repeat (first | (with_reducible exact HXV625.out) | ((with_reducible refine heap_new_at _ ?_); focus (first | (with_reducible rfl) | (simp; done))) | (with_reducible refine box_alloc ?_ _) | (with_reducible apply box_set) | ((with_reducible refine box_far ?_ ?_ _); rotate_left 1; focus (first | (simp; done) | (simp; omega) | omega)) | (with_reducible refine box_drew ?_) | (with_reducible refine box_drewN ?_ _))) hb
  try simp only [List.setIfInBounds_toArray, List.set_cons_zero, List.set_cons_succ] at HXV628
  have HXV728 : Hid (w10.heap[w7.heap.size]? = some (.cells _ _ (0, 0))) := box_keep (by repeat (first | (with_reducible exact HXV725.out) | ((with_reducible refine heap_new_at _ ?_); focus (first | (with_reducible rfl) | (simp; done))) | (with_reducible refine box_alloc ?_ _) | (with_reducible apply box_set) | ((with_reducible refine box_far ?_ ?_ _); rotate_left 1; focus (first | (simp; done) | (simp; omega) | omega)) | (with_reducible refine box_drew ?_) | (with_reducible refine box_drewN ?_ _))) hb
  try simp only [List.setIfInBounds_toArray, List.set_cons_zero, List.set_cons_succ] at HXV728
  have HXV828 : Hid (w10.heap[w8.heap.size]? = some (.cells _ _ (0, 0))) := box_keep (by repeat (first | (with_reducible exact HXV825.out) | ((with_reducible refine heap_new_at _ ?_); focus (first | (with_reducible rfl) | (simp; done))) | (with_reducible refine box_alloc ?_ _) | (with_reducible apply box_set) | ((with_reducible refine box_far ?_ ?_ _); rotate_left 1; focus (first | (simp; done) | (simp; omega) | omega)) | (with_reducible refine box_drew ?_) | (with_reducible refine box_drewN ?_ _))) hb
  try simp only [List.setIfInBounds_toArray, List.set_cons_zero, List.set_cons_succ] at HXV828
  have HXV928 : Hid (w10.heap[w9.heap.size]? = some (.cells _ _ (0, 0))) := box_keep (by repeat (first | ((with_reducible refine heap_new_at _ ?_); focus (first | (with_reducible rfl) | (simp; done))) | (with_reducible refine box_alloc ?_ _) | (with_reducible apply box_set) | ((with_reducible refine box_far ?_ ?_ _); rotate_left 1; focus (first | (simp; done) | (simp; omega) | omega)) | (with_reducible refine box_drew ?_) | (with_reducible refine box_drewN ?_ _))) hb
  try simp only [List.setIfInBounds_toArray, List.set_cons_zero, List.set_cons_succ] at HXV928
  clear xV0 yV0
  clear xV1 yV1
  clear xV2 yV2
  clear xV3 yV3
  clear xV4 yV4
  clear xV5 yV5
  clear xV6 yV6
  clear xV7 yV7
  clear xV8 yV8
  obtain ⟨xV0, yV0⟩ := box_rules HXV028.out
  have lV028 := box_lt HXV028.out
  clear HXV025
  obtain ⟨xV1, yV1⟩ := box_rules HXV128.out
  have lV128 := box_lt HXV128.out
  clear HXV125
  obtain ⟨xV2, yV2⟩ := box_rules HXV228.out
  have lV228 := box_lt HXV228.out
  clear HXV225
  obtain ⟨xV3, yV3⟩ := box_rules HXV328.out
  have lV328 := box_lt HXV328.out
  clear HXV325
  obtain ⟨xV4, yV4⟩ := box_rules HXV428.out
  have lV428 := box_lt HXV428.out
  clear HXV425
  obtain ⟨xV5, yV5⟩ := box_rules HXV528.out
  have lV528 := box_lt HXV528.out
  clear HXV525
  obtain ⟨xV6, yV6⟩ := box_rules HXV628.out
  have lV628 := box_lt HXV628.out
  clear HXV625
  obtain ⟨xV7, yV7⟩ := box_rules HXV728.out
  have lV728 := box_lt HXV728.out
  clear HXV725
  obtain ⟨xV8, yV8⟩ := box_rules HXV828.out
  have lV828 := box_lt HXV828.out
  clear HXV825
  obtain ⟨xV9, yV9⟩ := box_rules HXV928.out
  have lV928 := box_lt HXV928.out
  have RP128 : Hid (Rd w10 A1 (X1.1.prio.map (.int .i64))) := Rd.below (by repeat (with_reducible first | exact RP125.out | refine Rd.set ?_ QP1V0.out _ | refine Rd.drew ?_ | refine Rd.drewN ?_ _ | refine Rd.alloc ?_ _)) hb
  clear RP125
  have RS128 : Hid (Rd w10 B1 (X1.1.stack.map (.int .i64))) := Rd.below (by repeat (with_reducible first | exact RS125.out | refine Rd.set ?_ QS1V0.out _ | refine Rd.drew ?_ | refine Rd.drewN ?_ _ | refine Rd.alloc ?_ _)) hb
  clear RS125
  have RP228 : Hid (Rd w10 A2 (X1.1.prio.map (.int .i64))) := Rd.below (by repeat (with_reducible first | exact RP225.out | refine Rd.set ?_ QP2V0.out _ | refine Rd.set ?_ QP2V1.out _ | refine Rd.drew ?_ | refine Rd.drewN ?_ _ | refine Rd.alloc ?_ _)) hb
  clear RP225
  have RS228 : Hid (Rd w10 B2 (X1.1.stack.map (.int .i64))) := Rd.below (by repeat (with_reducible first | exact RS225.out | refine Rd.set ?_ QS2V0.out _ | refine Rd.set ?_ QS2V1.out _ | refine Rd.drew ?_ | refine Rd.drewN ?_ _ | refine Rd.alloc ?_ _)) hb
  clear RS225
  have RP328 : Hid (Rd w10 A3 (X2.1.prio.map (.int .i64))) := Rd.below (by repeat (with_reducible first | exact RP325.out | refine Rd.set ?_ QP3V0.out _ | refine Rd.set ?_ QP3V1.out _ | refine Rd.set ?_ QP3V2.out _ | refine Rd.drew ?_ | refine Rd.drewN ?_ _ | refine Rd.alloc ?_ _)) hb
  clear RP325
  have RS328 : Hid (Rd w10 B3 (X2.1.stack.map (.int .i64))) := Rd.below (by repeat (with_reducible first | exact RS325.out | refine Rd.set ?_ QS3V0.out _ | refine Rd.set ?_ QS3V1.out _ | refine Rd.set ?_ QS3V2.out _ | refine Rd.drew ?_ | refine Rd.drewN ?_ _ | refine Rd.alloc ?_ _)) hb
  clear RS325
  have RP428 : Hid (Rd w10 A4 (X2.1.prio.map (.int .i64))) := Rd.below (by repeat (with_reducible first | exact RP425.out | refine Rd.set ?_ QP4V0.out _ | refine Rd.set ?_ QP4V1.out _ | refine Rd.set ?_ QP4V2.out _ | refine Rd.set ?_ QP4V3.out _ | refine Rd.drew ?_ | refine Rd.drewN ?_ _ | refine Rd.alloc ?_ _)) hb
  clear RP425
  have RS428 : Hid (Rd w10 B4 (X2.1.stack.map (.int .i64))) := Rd.below (by repeat (with_reducible first | exact RS425.out | refine Rd.set ?_ QS4V0.out _ | refine Rd.set ?_ QS4V1.out _ | refine Rd.set ?_ QS4V2.out _ | refine Rd.set ?_ QS4V3.out _ | refine Rd.drew ?_ | refine Rd.drewN ?_ _ | refine Rd.alloc ?_ _)) hb
  clear RS425
  have RP528 : Hid (Rd w10 A5 (X3.1.prio.map (.int .i64))) := Rd.below (by repeat (with_reducible first | exact RP525.out | refine Rd.set ?_ QP5V0.out _ | refine Rd.set ?_ QP5V1.out _ | refine Rd.set ?_ QP5V2.out _ | refine Rd.set ?_ QP5V3.out _ | refine Rd.set ?_ QP5V4.out _ | refine Rd.drew ?_ | refine Rd.drewN ?_ _ | refine Rd.alloc ?_ _)) hb
  clear RP525
  have RS528 : Hid (Rd w10 B5 (X3.1.stack.map (.int .i64))) := Rd.below (by repeat (with_reducible first | exact RS525.out | refine Rd.set ?_ QS5V0.out _ | refine Rd.set ?_ QS5V1.out _ | refine Rd.set ?_ QS5V2.out _ | refine Rd.set ?_ QS5V3.out _ | refine Rd.set ?_ QS5V4.out _ | refine Rd.drew ?_ | refine Rd.drewN ?_ _ | refine Rd.alloc ?_ _)) hb
  clear RS525
  have RP628 : Hid (Rd w10 A6 (X3.1.prio.map (.int .i64))) := Rd.below (by repeat (with_reducible first | exact RP625.out | refine Rd.set ?_ QP6V0.out _ | refine Rd.set ?_ QP6V1.out _ | refine Rd.set ?_ QP6V2.out _ | refine Rd.set ?_ QP6V3.out _ | refine Rd.set ?_ QP6V4.out _ | refine Rd.set ?_ QP6V5.out _ | refine Rd.drew ?_ | refine Rd.drewN ?_ _ | refine Rd.alloc ?_ _)) hb
  clear RP625
  have RS628 : Hid (Rd w10 B6 (X3.1.stack.map (.int .i64))) := Rd.below (by repeat (with_reducible first | exact RS625.out | refine Rd.set ?_ QS6V0.out _ | refine Rd.set ?_ QS6V1.out _ | refine Rd.set ?_ QS6V2.out _ | refine Rd.set ?_ QS6V3.out _ | refine Rd.set ?_ QS6V4.out _ | refine Rd.set ?_ QS6V5.out _ | refine Rd.drew ?_ | refine Rd.drewN ?_ _ | refine Rd.alloc ?_ _)) hb
  clear RS625
  have RP728 : Hid (Rd w10 A7 (X4.1.prio.map (.int .i64))) := Rd.below (by repeat (with_reducible first | exact RP725.out | refine Rd.set ?_ QP7V0.out _ | refine Rd.set ?_ QP7V1.out _ | refine Rd.set ?_ QP7V2.out _ | refine Rd.set ?_ QP7V3.out _ | refine Rd.set ?_ QP7V4.out _ | refine Rd.set ?_ QP7V5.out _ | refine Rd.set ?_ QP7V6.out _ | refine Rd.drew ?_ | refine Rd.drewN ?_ _ | refine Rd.alloc ?_ _)) hb
  clear RP725
  have RS728 : Hid (Rd w10 B7 (X4.1.stack.map (.int .i64))) := Rd.below (by repeat (with_reducible first | exact RS725.out | refine Rd.set ?_ QS7V0.out _ | refine Rd.set ?_ QS7V1.out _ | refine Rd.set ?_ QS7V2.out _ | refine Rd.set ?_ QS7V3.out _ | refine Rd.set ?_ QS7V4.out _ | refine Rd.set ?_ QS7V5.out _ | refine Rd.set ?_ QS7V6.out _ | refine Rd.drew ?_ | refine Rd.drewN ?_ _ | refine Rd.alloc ?_ _)) hb
  clear RS725
  have RP828 : Hid (Rd w10 A8 (X4.1.prio.map (.int .i64))) := Rd.below (by repeat (with_reducible first | exact RP825.out | refine Rd.set ?_ QP8V0.out _ | refine Rd.set ?_ QP8V1.out _ | refine Rd.set ?_ QP8V2.out _ | refine Rd.set ?_ QP8V3.out _ | refine Rd.set ?_ QP8V4.out _ | refine Rd.set ?_ QP8V5.out _ | refine Rd.set ?_ QP8V6.out _ | refine Rd.set ?_ QP8V7.out _ | refine Rd.drew ?_ | refine Rd.drewN ?_ _ | refine Rd.alloc ?_ _)) hb
  clear RP825
  have RS828 : Hid (Rd w10 B8 (X4.1.stack.map (.int .i64))) := Rd.below (by repeat (with_reducible first | exact RS825.out | refine Rd.set ?_ QS8V0.out _ | refine Rd.set ?_ QS8V1.out _ | refine Rd.set ?_ QS8V2.out _ | refine Rd.set ?_ QS8V3.out _ | refine Rd.set ?_ QS8V4.out _ | refine Rd.set ?_ QS8V5.out _ | refine Rd.set ?_ QS8V6.out _ | refine Rd.set ?_ QS8V7.out _ | refine Rd.drew ?_ | refine Rd.drewN ?_ _ | refine Rd.alloc ?_ _)) hb
  clear RS825
  have RP928 : Hid (Rd w10 A9 (X5.1.prio.map (.int .i64))) := Rd.below (by repeat (with_reducible first | exact RP9.out | refine Rd.set ?_ QP9V0.out _ | refine Rd.set ?_ QP9V1.out _ | refine Rd.set ?_ QP9V2.out _ | refine Rd.set ?_ QP9V3.out _ | refine Rd.set ?_ QP9V4.out _ | refine Rd.set ?_ QP9V5.out _ | refine Rd.set ?_ QP9V6.out _ | refine Rd.set ?_ QP9V7.out _ | refine Rd.set ?_ QP9V8.out _ | refine Rd.drew ?_ | refine Rd.drewN ?_ _ | refine Rd.alloc ?_ _)) hb
  clear RP9
  have RS928 : Hid (Rd w10 B9 (X5.1.stack.map (.int .i64))) := Rd.below (by repeat (with_reducible first | exact RS9.out | refine Rd.set ?_ QS9V0.out _ | refine Rd.set ?_ QS9V1.out _ | refine Rd.set ?_ QS9V2.out _ | refine Rd.set ?_ QS9V3.out _ | refine Rd.set ?_ QS9V4.out _ | refine Rd.set ?_ QS9V5.out _ | refine Rd.set ?_ QS9V6.out _ | refine Rd.set ?_ QS9V7.out _ | refine Rd.set ?_ QS9V8.out _ | refine Rd.drew ?_ | refine Rd.drewN ?_ _ | refine Rd.alloc ?_ _)) hb
  clear RS9
  have HB28 : Hid (Below w.heap.size w w10) := Below.trans (by repeat (first | (with_reducible exact HB25.out) | (with_reducible refine Below.setCell ?_ leV0 _) | (with_reducible refine Below.setCell ?_ leV1 _) | (with_reducible refine Below.setCell ?_ leV2 _) | (with_reducible refine Below.setCell ?_ leV3 _) | (with_reducible refine Below.setCell ?_ leV4 _) | (with_reducible refine Below.setCell ?_ leV5 _) | (with_reducible refine Below.setCell ?_ leV6 _) | (with_reducible refine Below.setCell ?_ leV7 _) | (with_reducible refine Below.setCell ?_ leV8 _) | (with_reducible refine Below.setCell ?_ leV9 _) | (with_reducible refine Below.drew ?_) | (with_reducible refine bdrewN ?_ _) | ((with_reducible refine Below.alloc ?_ ?_ _); rotate_left 1; focus (first | (simp; done) | (simp; omega) | omega)))) (hb.mono (by first | (simp; done) | (simp; omega) | omega | (simp [World.setCell]; omega)))
  clear HB25
  have s28 : w.heap.size ≤ w10.heap.size := HB28.out.size
  have z28 : w9.heap.size ≤ w10.heap.size := by have := hb.size; (try simp at this); omega
  have RP10 : Hid (Rd w10 A10 (X5.1.prio.map (.int .i64))) := hp
  have NP10 : Hid (∀ a, A10 = some a → w.heap.size ≤ a.block) := fun a ha => by have := hn.1 a ha; (try simp at this); omega
  have QP10V0 : Hid (∀ a, A10 = some a → a.block ≠ w.heap.size) := fun a ha e => by have := hn.1 a ha; (try simp at this); omega
  have QP10V1 : Hid (∀ a, A10 = some a → a.block ≠ w1.heap.size) := fun a ha e => by have := hn.1 a ha; (try simp at this); omega
  have QP10V2 : Hid (∀ a, A10 = some a → a.block ≠ w2.heap.size) := fun a ha e => by have := hn.1 a ha; (try simp at this); omega
  have QP10V3 : Hid (∀ a, A10 = some a → a.block ≠ w3.heap.size) := fun a ha e => by have := hn.1 a ha; (try simp at this); omega
  have QP10V4 : Hid (∀ a, A10 = some a → a.block ≠ w4.heap.size) := fun a ha e => by have := hn.1 a ha; (try simp at this); omega
  have QP10V5 : Hid (∀ a, A10 = some a → a.block ≠ w5.heap.size) := fun a ha e => by have := hn.1 a ha; (try simp at this); omega
  have QP10V6 : Hid (∀ a, A10 = some a → a.block ≠ w6.heap.size) := fun a ha e => by have := hn.1 a ha; (try simp at this); omega
  have QP10V7 : Hid (∀ a, A10 = some a → a.block ≠ w7.heap.size) := fun a ha e => by have := hn.1 a ha; (try simp at this); omega
  have QP10V8 : Hid (∀ a, A10 = some a → a.block ≠ w8.heap.size) := fun a ha e => by have := hn.1 a ha; (try simp at this); omega
  have QP10V9 : Hid (∀ a, A10 = some a → a.block ≠ w9.heap.size) := fun a ha e => by have := hn.1 a ha; (try simp at this); omega
  have RS10 : Hid (Rd w10 B10 (X5.1.stack.map (.int .i64))) := hs
  have NS10 : Hid (∀ a, B10 = some a → w.heap.size ≤ a.block) := fun a ha => by have := hn.2 a ha; (try simp at this); omega
  have QS10V0 : Hid (∀ a, B10 = some a → a.block ≠ w.heap.size) := fun a ha e => by have := hn.2 a ha; (try simp at this); omega
  have QS10V1 : Hid (∀ a, B10 = some a → a.block ≠ w1.heap.size) := fun a ha e => by have := hn.2 a ha; (try simp at this); omega
  have QS10V2 : Hid (∀ a, B10 = some a → a.block ≠ w2.heap.size) := fun a ha e => by have := hn.2 a ha; (try simp at this); omega
  have QS10V3 : Hid (∀ a, B10 = some a → a.block ≠ w3.heap.size) := fun a ha e => by have := hn.2 a ha; (try simp at this); omega
  have QS10V4 : Hid (∀ a, B10 = some a → a.block ≠ w4.heap.size) := fun a ha e => by have := hn.2 a ha; (try simp at this); omega
  have QS10V5 : Hid (∀ a, B10 = some a → a.block ≠ w5.heap.size) := fun a ha e => by have := hn.2 a ha; (try simp at this); omega
  have QS10V6 : Hid (∀ a, B10 = some a → a.block ≠ w6.heap.size) := fun a ha e => by have := hn.2 a ha; (try simp at this); omega
  have QS10V7 : Hid (∀ a, B10 = some a → a.block ≠ w7.heap.size) := fun a ha e => by have := hn.2 a ha; (try simp at this); omega
  have QS10V8 : Hid (∀ a, B10 = some a → a.block ≠ w8.heap.size) := fun a ha e => by have := hn.2 a ha; (try simp at this); omega
  have QS10V9 : Hid (∀ a, B10 = some a → a.block ≠ w9.heap.size) := fun a ha e => by have := hn.2 a ha; (try simp at this); omega
  have leV10 : w.heap.size ≤ w10.heap.size := by omega
  clear hp hs hb hn
  go_upto_region 11 with (fail)
  refine name_world fun W hW => ?_
  have HXV031 : Hid (W.heap[w.heap.size]? = some (.cells _ _ (0, 0))) := Lib.hid (by rw [hW]; repeat (first | (with_reducible exact HXV028.out) | ((with_reducible refine heap_new_at _ ?_); focus (first | (with_reducible rfl) | (simp; done))) | (with_reducible refine box_alloc ?_ _) | (with_reducible apply box_set) | ((with_reducible refine box_far ?_ ?_ _); rotate_left 1; focus (first | (simp; done) | (simp; omega) | omega)) | (with_reducible refine box_drew ?_) | (with_reducible refine box_drewN ?_ _)))
  try simp only [List.setIfInBounds_toArray, List.set_cons_zero, List.set_cons_succ] at HXV031
  have HXV131 : Hid (W.heap[w1.heap.size]? = some (.cells _ _ (0, 0))) := Lib.hid (by rw [hW]; repeat (first | (with_reducible exact HXV128.out) | ((with_reducible refine heap_new_at _ ?_); focus (first | (with_reducible rfl) | (simp; done))) | (with_reducible refine box_alloc ?_ _) | (with_reducible apply box_set) | ((with_reducible refine box_far ?_ ?_ _); rotate_left 1; focus (first | (simp; done) | (simp; omega) | omega)) | (with_reducible refine box_drew ?_) | (with_reducible refine box_drewN ?_ _)))
  try simp only [List.setIfInBounds_toArray, List.set_cons_zero, List.set_cons_succ] at HXV131
  have HXV231 : Hid (W.heap[w2.heap.size]? = some (.cells _ _ (0, 0))) := Lib.hid (by rw [hW]; repeat (first | (with_reducible exact HXV228.out) | ((with_reducible refine heap_new_at _ ?_); focus (first | (with_reducible rfl) | (simp; done))) | (with_reducible refine box_alloc ?_ _) | (with_reducible apply box_set) | ((with_reducible refine box_far ?_ ?_ _); rotate_left 1; focus (first | (simp; done) | (simp; omega) | omega)) | (with_reducible refine box_drew ?_) | (with_reducible refine box_drewN ?_ _)))
  try simp only [List.setIfInBounds_toArray, List.set_cons_zero, List.set_cons_succ] at HXV231
  have HXV331 : Hid (W.heap[w3.heap.size]? = some (.cells _ _ (0, 0))) := Lib.hid (by rw [hW]; repeat (first | (with_reducible exact HXV328.out) | ((with_reducible refine heap_new_at _ ?_); focus (first | (with_reducible rfl) | (simp; done))) | (with_reducible refine box_alloc ?_ _) | (with_reducible apply box_set) | ((with_reducible refine box_far ?_ ?_ _); rotate_left 1; focus (first | (simp; done) | (simp; omega) | omega)) | (with_reducible refine box_drew ?_) | (with_reducible refine box_drewN ?_ _)))
  try simp only [List.setIfInBounds_toArray, List.set_cons_zero, List.set_cons_succ] at HXV331
  have HXV431 : Hid (W.heap[w4.heap.size]? = some (.cells _ _ (0, 0))) := Lib.hid (by rw [hW]; repeat (first | (with_reducible exact HXV428.out) | ((with_reducible refine heap_new_at _ ?_); focus (first | (with_reducible rfl) | (simp; done))) | (with_reducible refine box_alloc ?_ _) | (with_reducible apply box_set) | ((with_reducible refine box_far ?_ ?_ _); rotate_left 1; focus (first | (simp; done) | (simp; omega) | omega)) | (with_reducible refine box_drew ?_) | (with_reducible refine box_drewN ?_ _)))
  try simp only [List.setIfInBounds_toArray, List.set_cons_zero, List.set_cons_succ] at HXV431
  have HXV531 : Hid (W.heap[w5.heap.size]? = some (.cells _ _ (0, 0))) := Lib.hid (by rw [hW]; repeat (first | (with_reducible exact HXV528.out) | ((with_reducible refine heap_new_at _ ?_); focus (first | (with_reducible rfl) | (simp; done))) | (with_reducible refine box_alloc ?_ _) | (with_reducible apply box_set) | ((with_reducible refine box_far ?_ ?_ _); rotate_left 1; focus (first | (simp; done) | (simp; omega) | omega)) | (with_reducible refine box_drew ?_) | (with_reducible refine box_drewN ?_ _)))
  try simp only [List.setIfInBounds_toArray, List.set_cons_zero, List.set_cons_succ] at HXV531
  have HXV631 : Hid (W.heap[w6.heap.size]? = some (.cells _ _ (0, 0))) := Lib.hid (by rw [hW]; repeat (first | (with_reducible exact HXV628.out) | ((with_reducible refine heap_new_at _ ?_); focus (first | (with_reducible rfl) | (simp; done))) | (with_reducible refine box_alloc ?_ _) | (with_reducible apply box_set) | ((with_reducible refine box_far ?_ ?_ _); rotate_left 1; focus (first | (simp; done) | (simp; omega) | omega)) | (with_reducible refine box_drew ?_) | (with_reducible refine box_drewN ?_ _)))
  try simp only [List.setIfInBounds_toArray, List.set_cons_zero, List.set_cons_succ] at HXV631
  have HXV731 : Hid (W.heap[w7.heap.size]? = some (.cells _ _ (0, 0))) := Lib.hid (by rw [hW]; repeat (first | (with_reducible exact HXV728.out) | ((with_reducible refine heap_new_at _ ?_); focus (first | (with_reducible rfl) | (simp; done))) | (with_reducible refine box_alloc ?_ _) | (with_reducible apply box_set) | ((with_reducible refine box_far ?_ ?_ _); rotate_left 1; focus (first | (simp; done) | (simp; omega) | omega)) | (with_reducible refine box_drew ?_) | (with_reducible refine box_drewN ?_ _)))
  try simp only [List.setIfInBounds_toArray, List.set_cons_zero, List.set_cons_succ] at HXV731
  have HXV831 : Hid (W.heap[w8.heap.size]? = some (.cells _ _ (0, 0))) := Lib.hid (by rw [hW]; repeat (first | (with_reducible exact HXV828.out) | ((with_reducible refine heap_new_at _ ?_); focus (first | (with_reducible rfl) | (simp; done))) | (with_reducible refine box_alloc ?_ _) | (with_reducible apply box_set) | ((with_reducible refine box_far ?_ ?_ _); rotate_left 1; focus (first | (simp; done) | (simp; omega) | omega)) | (with_reducible refine box_drew ?_) | (with_reducible refine box_drewN ?_ _)))
  try simp only [List.setIfInBounds_toArray, List.set_cons_zero, List.set_cons_succ] at HXV831
  have HXV931 : Hid (W.heap[w9.heap.size]? = some (.cells _ _ (0, 0))) := Lib.hid (by rw [hW]; repeat (first | (with_reducible exact HXV928.out) | ((with_reducible refine heap_new_at _ ?_); focus (first | (with_reducible rfl) | (simp; done))) | (with_reducible refine box_alloc ?_ _) | (with_reducible apply box_set) | ((with_reducible refine box_far ?_ ?_ _); rotate_left 1; focus (first | (simp; done) | (simp; omega) | omega)) | (with_reducible refine box_drew ?_) | (with_reducible refine box_drewN ?_ _)))
  try simp only [List.setIfInBounds_toArray, List.set_cons_zero, List.set_cons_succ] at HXV931
  have HXV1031 : Hid (W.heap[w10.heap.size]? = some (.cells _ _ (0, 0))) := Lib.hid (by rw [hW]; repeat (first | ((with_reducible refine heap_new_at _ ?_); focus (first | (with_reducible rfl) | (simp; done))) | (with_reducible refine box_alloc ?_ _) | (with_reducible apply box_set) | ((with_reducible refine box_far ?_ ?_ _); rotate_left 1; focus (first | (simp; done) | (simp; omega) | omega)) | (with_reducible refine box_drew ?_) | (with_reducible refine box_drewN ?_ _)))
  try simp only [List.setIfInBounds_toArray, List.set_cons_zero, List.set_cons_succ] at HXV1031
  have RP131 : Hid (Rd W A1 (X1.1.prio.map (.int .i64))) := Lib.hid (by rw [hW]; repeat (with_reducible first | exact RP128.out | refine Rd.set ?_ QP1V0.out _ | refine Rd.drew ?_ | refine Rd.drewN ?_ _ | refine Rd.alloc ?_ _))
  clear RP128
  have RS131 : Hid (Rd W B1 (X1.1.stack.map (.int .i64))) := Lib.hid (by rw [hW]; repeat (with_reducible first | exact RS128.out | refine Rd.set ?_ QS1V0.out _ | refine Rd.drew ?_ | refine Rd.drewN ?_ _ | refine Rd.alloc ?_ _))
  clear RS128
  have RP231 : Hid (Rd W A2 (X1.1.prio.map (.int .i64))) := Lib.hid (by rw [hW]; repeat (with_reducible first | exact RP228.out | refine Rd.set ?_ QP2V0.out _ | refine Rd.set ?_ QP2V1.out _ | refine Rd.drew ?_ | refine Rd.drewN ?_ _ | refine Rd.alloc ?_ _))
  clear RP228
  have RS231 : Hid (Rd W B2 (X1.1.stack.map (.int .i64))) := Lib.hid (by rw [hW]; repeat (with_reducible first | exact RS228.out | refine Rd.set ?_ QS2V0.out _ | refine Rd.set ?_ QS2V1.out _ | refine Rd.drew ?_ | refine Rd.drewN ?_ _ | refine Rd.alloc ?_ _))
  clear RS228
  have RP331 : Hid (Rd W A3 (X2.1.prio.map (.int .i64))) := Lib.hid (by rw [hW]; repeat (with_reducible first | exact RP328.out | refine Rd.set ?_ QP3V0.out _ | refine Rd.set ?_ QP3V1.out _ | refine Rd.set ?_ QP3V2.out _ | refine Rd.drew ?_ | refine Rd.drewN ?_ _ | refine Rd.alloc ?_ _))
  clear RP328
  have RS331 : Hid (Rd W B3 (X2.1.stack.map (.int .i64))) := Lib.hid (by rw [hW]; repeat (with_reducible first | exact RS328.out | refine Rd.set ?_ QS3V0.out _ | refine Rd.set ?_ QS3V1.out _ | refine Rd.set ?_ QS3V2.out _ | refine Rd.drew ?_ | refine Rd.drewN ?_ _ | refine Rd.alloc ?_ _))
  clear RS328
  have RP431 : Hid (Rd W A4 (X2.1.prio.map (.int .i64))) := Lib.hid (by rw [hW]; repeat (with_reducible first | exact RP428.out | refine Rd.set ?_ QP4V0.out _ | refine Rd.set ?_ QP4V1.out _ | refine Rd.set ?_ QP4V2.out _ | refine Rd.set ?_ QP4V3.out _ | refine Rd.drew ?_ | refine Rd.drewN ?_ _ | refine Rd.alloc ?_ _))
  clear RP428
  have RS431 : Hid (Rd W B4 (X2.1.stack.map (.int .i64))) := Lib.hid (by rw [hW]; repeat (with_reducible first | exact RS428.out | refine Rd.set ?_ QS4V0.out _ | refine Rd.set ?_ QS4V1.out _ | refine Rd.set ?_ QS4V2.out _ | refine Rd.set ?_ QS4V3.out _ | refine Rd.drew ?_ | refine Rd.drewN ?_ _ | refine Rd.alloc ?_ _))
  clear RS428
  have RP531 : Hid (Rd W A5 (X3.1.prio.map (.int .i64))) := Lib.hid (by rw [hW]; repeat (with_reducible first | exact RP528.out | refine Rd.set ?_ QP5V0.out _ | refine Rd.set ?_ QP5V1.out _ | refine Rd.set ?_ QP5V2.out _ | refine Rd.set ?_ QP5V3.out _ | refine Rd.set ?_ QP5V4.out _ | refine Rd.drew ?_ | refine Rd.drewN ?_ _ | refine Rd.alloc ?_ _))
  clear RP528
  have RS531 : Hid (Rd W B5 (X3.1.stack.map (.int .i64))) := Lib.hid (by rw [hW]; repeat (with_reducible first | exact RS528.out | refine Rd.set ?_ QS5V0.out _ | refine Rd.set ?_ QS5V1.out _ | refine Rd.set ?_ QS5V2.out _ | refine Rd.set ?_ QS5V3.out _ | refine Rd.set ?_ QS5V4.out _ | refine Rd.drew ?_ | refine Rd.drewN ?_ _ | refine Rd.alloc ?_ _))
  clear RS528
  have RP631 : Hid (Rd W A6 (X3.1.prio.map (.int .i64))) := Lib.hid (by rw [hW]; repeat (with_reducible first | exact RP628.out | refine Rd.set ?_ QP6V0.out _ | refine Rd.set ?_ QP6V1.out _ | refine Rd.set ?_ QP6V2.out _ | refine Rd.set ?_ QP6V3.out _ | refine Rd.set ?_ QP6V4.out _ | refine Rd.set ?_ QP6V5.out _ | refine Rd.drew ?_ | refine Rd.drewN ?_ _ | refine Rd.alloc ?_ _))
  clear RP628
  have RS631 : Hid (Rd W B6 (X3.1.stack.map (.int .i64))) := Lib.hid (by rw [hW]; repeat (with_reducible first | exact RS628.out | refine Rd.set ?_ QS6V0.out _ | refine Rd.set ?_ QS6V1.out _ | refine Rd.set ?_ QS6V2.out _ | refine Rd.set ?_ QS6V3.out _ | refine Rd.set ?_ QS6V4.out _ | refine Rd.set ?_ QS6V5.out _ | refine Rd.drew ?_ | refine Rd.drewN ?_ _ | refine Rd.alloc ?_ _))
  clear RS628
  have RP731 : Hid (Rd W A7 (X4.1.prio.map (.int .i64))) := Lib.hid (by rw [hW]; repeat (with_reducible first | exact RP728.out | refine Rd.set ?_ QP7V0.out _ | refine Rd.set ?_ QP7V1.out _ | refine Rd.set ?_ QP7V2.out _ | refine Rd.set ?_ QP7V3.out _ | refine Rd.set ?_ QP7V4.out _ | refine Rd.set ?_ QP7V5.out _ | refine Rd.set ?_ QP7V6.out _ | refine Rd.drew ?_ | refine Rd.drewN ?_ _ | refine Rd.alloc ?_ _))
  clear RP728
  have RS731 : Hid (Rd W B7 (X4.1.stack.map (.int .i64))) := Lib.hid (by rw [hW]; repeat (with_reducible first | exact RS728.out | refine Rd.set ?_ QS7V0.out _ | refine Rd.set ?_ QS7V1.out _ | refine Rd.set ?_ QS7V2.out _ | refine Rd.set ?_ QS7V3.out _ | refine Rd.set ?_ QS7V4.out _ | refine Rd.set ?_ QS7V5.out _ | refine Rd.set ?_ QS7V6.out _ | refine Rd.drew ?_ | refine Rd.drewN ?_ _ | refine Rd.alloc ?_ _))
  clear RS728
  have RP831 : Hid (Rd W A8 (X4.1.prio.map (.int .i64))) := Lib.hid (by rw [hW]; repeat (with_reducible first | exact RP828.out | refine Rd.set ?_ QP8V0.out _ | refine Rd.set ?_ QP8V1.out _ | refine Rd.set ?_ QP8V2.out _ | refine Rd.set ?_ QP8V3.out _ | refine Rd.set ?_ QP8V4.out _ | refine Rd.set ?_ QP8V5.out _ | refine Rd.set ?_ QP8V6.out _ | refine Rd.set ?_ QP8V7.out _ | refine Rd.drew ?_ | refine Rd.drewN ?_ _ | refine Rd.alloc ?_ _))
  clear RP828
  have RS831 : Hid (Rd W B8 (X4.1.stack.map (.int .i64))) := Lib.hid (by rw [hW]; repeat (with_reducible first | exact RS828.out | refine Rd.set ?_ QS8V0.out _ | refine Rd.set ?_ QS8V1.out _ | refine Rd.set ?_ QS8V2.out _ | refine Rd.set ?_ QS8V3.out _ | refine Rd.set ?_ QS8V4.out _ | refine Rd.set ?_ QS8V5.out _ | refine Rd.set ?_ QS8V6.out _ | refine Rd.set ?_ QS8V7.out _ | refine Rd.drew ?_ | refine Rd.drewN ?_ _ | refine Rd.alloc ?_ _))
  clear RS828
  have RP931 : Hid (Rd W A9 (X5.1.prio.map (.int .i64))) := Lib.hid (by rw [hW]; repeat (with_reducible first | exact RP928.out | refine Rd.set ?_ QP9V0.out _ | refine Rd.set ?_ QP9V1.out _ | refine Rd.set ?_ QP9V2.out _ | refine Rd.set ?_ QP9V3.out _ | refine Rd.set ?_ QP9V4.out _ | refine Rd.set ?_ QP9V5.out _ | refine Rd.set ?_ QP9V6.out _ | refine Rd.set ?_ QP9V7.out _ | refine Rd.set ?_ QP9V8.out _ | refine Rd.drew ?_ | refine Rd.drewN ?_ _ | refine Rd.alloc ?_ _))
  clear RP928
  have RS931 : Hid (Rd W B9 (X5.1.stack.map (.int .i64))) := Lib.hid (by rw [hW]; repeat (with_reducible first | exact RS928.out | refine Rd.set ?_ QS9V0.out _ | refine Rd.set ?_ QS9V1.out _ | refine Rd.set ?_ QS9V2.out _ | refine Rd.set ?_ QS9V3.out _ | refine Rd.set ?_ QS9V4.out _ | refine Rd.set ?_ QS9V5.out _ | refine Rd.set ?_ QS9V6.out _ | refine Rd.set ?_ QS9V7.out _ | refine Rd.set ?_ QS9V8.out _ | refine Rd.drew ?_ | refine Rd.drewN ?_ _ | refine Rd.alloc ?_ _))
  clear RS928
  have RP1031 : Hid (Rd W A10 (X5.1.prio.map (.int .i64))) := Lib.hid (by rw [hW]; repeat (with_reducible first | exact RP10.out | refine Rd.set ?_ QP10V0.out _ | refine Rd.set ?_ QP10V1.out _ | refine Rd.set ?_ QP10V2.out _ | refine Rd.set ?_ QP10V3.out _ | refine Rd.set ?_ QP10V4.out _ | refine Rd.set ?_ QP10V5.out _ | refine Rd.set ?_ QP10V6.out _ | refine Rd.set ?_ QP10V7.out _ | refine Rd.set ?_ QP10V8.out _ | refine Rd.set ?_ QP10V9.out _ | refine Rd.drew ?_ | refine Rd.drewN ?_ _ | refine Rd.alloc ?_ _))
  clear RP10
  have RS1031 : Hid (Rd W B10 (X5.1.stack.map (.int .i64))) := Lib.hid (by rw [hW]; repeat (with_reducible first | exact RS10.out | refine Rd.set ?_ QS10V0.out _ | refine Rd.set ?_ QS10V1.out _ | refine Rd.set ?_ QS10V2.out _ | refine Rd.set ?_ QS10V3.out _ | refine Rd.set ?_ QS10V4.out _ | refine Rd.set ?_ QS10V5.out _ | refine Rd.set ?_ QS10V6.out _ | refine Rd.set ?_ QS10V7.out _ | refine Rd.set ?_ QS10V8.out _ | refine Rd.set ?_ QS10V9.out _ | refine Rd.drew ?_ | refine Rd.drewN ?_ _ | refine Rd.alloc ?_ _))
  clear RS10
  have HB31 : Hid (Below w.heap.size w W) := Lib.hid (by rw [hW]; repeat (first | (with_reducible exact HB28.out) | (with_reducible refine Below.setCell ?_ leV0 _) | (with_reducible refine Below.setCell ?_ leV1 _) | (with_reducible refine Below.setCell ?_ leV2 _) | (with_reducible refine Below.setCell ?_ leV3 _) | (with_reducible refine Below.setCell ?_ leV4 _) | (with_reducible refine Below.setCell ?_ leV5 _) | (with_reducible refine Below.setCell ?_ leV6 _) | (with_reducible refine Below.setCell ?_ leV7 _) | (with_reducible refine Below.setCell ?_ leV8 _) | (with_reducible refine Below.setCell ?_ leV9 _) | (with_reducible refine Below.setCell ?_ leV10 _) | (with_reducible refine Below.drew ?_) | (with_reducible refine bdrewN ?_ _) | ((with_reducible refine Below.alloc ?_ ?_ _); rotate_left 1; focus (first | (simp; done) | (simp; omega) | omega))))
  clear HB28
  have z31 : w10.heap.size ≤ W.heap.size := by rw [hW]; first | (simp; done) | (simp; omega)
  clear hW
  have s31 : w.heap.size ≤ W.heap.size := HB31.out.size
  clear xV0 yV0 HXV028
  obtain ⟨xV0, yV0⟩ := box_rules HXV031.out
  have lV031 := box_lt HXV031.out
  clear xV1 yV1 HXV128
  obtain ⟨xV1, yV1⟩ := box_rules HXV131.out
  have lV131 := box_lt HXV131.out
  clear xV2 yV2 HXV228
  obtain ⟨xV2, yV2⟩ := box_rules HXV231.out
  have lV231 := box_lt HXV231.out
  clear xV3 yV3 HXV328
  obtain ⟨xV3, yV3⟩ := box_rules HXV331.out
  have lV331 := box_lt HXV331.out
  clear xV4 yV4 HXV428
  obtain ⟨xV4, yV4⟩ := box_rules HXV431.out
  have lV431 := box_lt HXV431.out
  clear xV5 yV5 HXV528
  obtain ⟨xV5, yV5⟩ := box_rules HXV531.out
  have lV531 := box_lt HXV531.out
  clear xV6 yV6 HXV628
  obtain ⟨xV6, yV6⟩ := box_rules HXV631.out
  have lV631 := box_lt HXV631.out
  clear xV7 yV7 HXV728
  obtain ⟨xV7, yV7⟩ := box_rules HXV731.out
  have lV731 := box_lt HXV731.out
  clear xV8 yV8 HXV828
  obtain ⟨xV8, yV8⟩ := box_rules HXV831.out
  have lV831 := box_lt HXV831.out
  clear xV9 yV9 HXV928
  obtain ⟨xV9, yV9⟩ := box_rules HXV931.out
  have lV931 := box_lt HXV931.out
  obtain ⟨xV10, yV10⟩ := box_rules HXV1031.out
  have lV1031 := box_lt HXV1031.out
  have CR0 := Lib.hid (fun w' (h : Hid (Below W.heap.size W w')) => box_keep HXV031.out h.out)
  have rV0 : ∀ w', Hid (Below W.heap.size W w') → ∀ i, w'.cell? ⟨w.heap.size, i, none⟩ = _ := fun w' h => (box_rules (CR0.out w' h)).1
  clear xV0 yV0
  have CR1 := Lib.hid (fun w' (h : Hid (Below W.heap.size W w')) => box_keep HXV131.out h.out)
  have rV1 : ∀ w', Hid (Below W.heap.size W w') → ∀ i, w'.cell? ⟨w1.heap.size, i, none⟩ = _ := fun w' h => (box_rules (CR1.out w' h)).1
  clear xV1 yV1
  have CR2 := Lib.hid (fun w' (h : Hid (Below W.heap.size W w')) => box_keep HXV231.out h.out)
  have rV2 : ∀ w', Hid (Below W.heap.size W w') → ∀ i, w'.cell? ⟨w2.heap.size, i, none⟩ = _ := fun w' h => (box_rules (CR2.out w' h)).1
  clear xV2 yV2
  have CR3 := Lib.hid (fun w' (h : Hid (Below W.heap.size W w')) => box_keep HXV331.out h.out)
  have rV3 : ∀ w', Hid (Below W.heap.size W w') → ∀ i, w'.cell? ⟨w3.heap.size, i, none⟩ = _ := fun w' h => (box_rules (CR3.out w' h)).1
  clear xV3 yV3
  have CR4 := Lib.hid (fun w' (h : Hid (Below W.heap.size W w')) => box_keep HXV431.out h.out)
  have rV4 : ∀ w', Hid (Below W.heap.size W w') → ∀ i, w'.cell? ⟨w4.heap.size, i, none⟩ = _ := fun w' h => (box_rules (CR4.out w' h)).1
  clear xV4 yV4
  have CR5 := Lib.hid (fun w' (h : Hid (Below W.heap.size W w')) => box_keep HXV531.out h.out)
  have rV5 : ∀ w', Hid (Below W.heap.size W w') → ∀ i, w'.cell? ⟨w5.heap.size, i, none⟩ = _ := fun w' h => (box_rules (CR5.out w' h)).1
  clear xV5 yV5
  have CR6 := Lib.hid (fun w' (h : Hid (Below W.heap.size W w')) => box_keep HXV631.out h.out)
  have rV6 : ∀ w', Hid (Below W.heap.size W w') → ∀ i, w'.cell? ⟨w6.heap.size, i, none⟩ = _ := fun w' h => (box_rules (CR6.out w' h)).1
  clear xV6 yV6
  have CR7 := Lib.hid (fun w' (h : Hid (Below W.heap.size W w')) => box_keep HXV731.out h.out)
  have rV7 : ∀ w', Hid (Below W.heap.size W w') → ∀ i, w'.cell? ⟨w7.heap.size, i, none⟩ = _ := fun w' h => (box_rules (CR7.out w' h)).1
  clear xV7 yV7
  have CR8 := Lib.hid (fun w' (h : Hid (Below W.heap.size W w')) => box_keep HXV831.out h.out)
  have rV8 : ∀ w', Hid (Below W.heap.size W w') → ∀ i, w'.cell? ⟨w8.heap.size, i, none⟩ = _ := fun w' h => (box_rules (CR8.out w' h)).1
  clear xV8 yV8
  have CR9 := Lib.hid (fun w' (h : Hid (Below W.heap.size W w')) => box_keep HXV931.out h.out)
  have rV9 : ∀ w', Hid (Below W.heap.size W w') → ∀ i, w'.cell? ⟨w9.heap.size, i, none⟩ = _ := fun w' h => (box_rules (CR9.out w' h)).1
  clear xV9 yV9
  have CR10 := Lib.hid (fun w' (h : Hid (Below W.heap.size W w')) => box_keep HXV1031.out h.out)
  have rV10 : ∀ w', Hid (Below W.heap.size W w') → ∀ i, w'.cell? ⟨w10.heap.size, i, none⟩ = _ := fun w' h => (box_rules (CR10.out w' h)).1
  clear xV10 yV10
  have m1 : Hid (∀ w', Hid (Below W.heap.size W w') → Calls Tryd.prog 17 #[.agg #[.int .u64 X1.1.p, .int .u64 X1.1.e, .int .u64 X1.1.r, .int .u64 X1.1.g, .slice A1 X1.1.prio.length k1, .int .i64 X1.1.t, .slice B1 X1.1.stack.length j1], .agg #[.int .u64 X1.1.p, .int .u64 X1.1.e, .int .u64 X1.1.r, .int .u64 X1.1.g, .slice A2 X1.1.prio.length k2, .int .i64 X1.1.t, .slice B2 X1.1.stack.length j2]] w' fun e w'' => e = .returned (.bool true) ∧ Below w'.heap.size w' w'') := fun w' h => sm1.out A1 k1 B1 j1 A2 k2 B2 j2 w' (RP131.out.below h.out) (RS131.out.below h.out) (RP231.out.below h.out) (RS231.out.below h.out)
  have m2 : Hid (∀ w', Hid (Below W.heap.size W w') → Calls Tryd.prog 17 #[.agg #[.int .u64 X2.1.p, .int .u64 X2.1.e, .int .u64 X2.1.r, .int .u64 X2.1.g, .slice A3 X2.1.prio.length k3, .int .i64 X2.1.t, .slice B3 X2.1.stack.length j3], .agg #[.int .u64 X2.1.p, .int .u64 X2.1.e, .int .u64 X2.1.r, .int .u64 X2.1.g, .slice A4 X2.1.prio.length k4, .int .i64 X2.1.t, .slice B4 X2.1.stack.length j4]] w' fun e w'' => e = .returned (.bool true) ∧ Below w'.heap.size w' w'') := fun w' h => sm2.out A3 k3 B3 j3 A4 k4 B4 j4 w' (RP331.out.below h.out) (RS331.out.below h.out) (RP431.out.below h.out) (RS431.out.below h.out)
  have m3 : Hid (∀ w', Hid (Below W.heap.size W w') → Calls Tryd.prog 17 #[.agg #[.int .u64 X3.1.p, .int .u64 X3.1.e, .int .u64 X3.1.r, .int .u64 X3.1.g, .slice A5 X3.1.prio.length k5, .int .i64 X3.1.t, .slice B5 X3.1.stack.length j5], .agg #[.int .u64 X3.1.p, .int .u64 X3.1.e, .int .u64 X3.1.r, .int .u64 X3.1.g, .slice A6 X3.1.prio.length k6, .int .i64 X3.1.t, .slice B6 X3.1.stack.length j6]] w' fun e w'' => e = .returned (.bool true) ∧ Below w'.heap.size w' w'') := fun w' h => sm3.out A5 k5 B5 j5 A6 k6 B6 j6 w' (RP531.out.below h.out) (RS531.out.below h.out) (RP631.out.below h.out) (RS631.out.below h.out)
  have m4 : Hid (∀ w', Hid (Below W.heap.size W w') → Calls Tryd.prog 17 #[.agg #[.int .u64 X4.1.p, .int .u64 X4.1.e, .int .u64 X4.1.r, .int .u64 X4.1.g, .slice A7 X4.1.prio.length k7, .int .i64 X4.1.t, .slice B7 X4.1.stack.length j7], .agg #[.int .u64 X4.1.p, .int .u64 X4.1.e, .int .u64 X4.1.r, .int .u64 X4.1.g, .slice A8 X4.1.prio.length k8, .int .i64 X4.1.t, .slice B8 X4.1.stack.length j8]] w' fun e w'' => e = .returned (.bool true) ∧ Below w'.heap.size w' w'') := fun w' h => sm4.out A7 k7 B7 j7 A8 k8 B8 j8 w' (RP731.out.below h.out) (RS731.out.below h.out) (RP831.out.below h.out) (RS831.out.below h.out)
  have m5 : Hid (∀ w', Hid (Below W.heap.size W w') → Calls Tryd.prog 17 #[.agg #[.int .u64 X5.1.p, .int .u64 X5.1.e, .int .u64 X5.1.r, .int .u64 X5.1.g, .slice A9 X5.1.prio.length k9, .int .i64 X5.1.t, .slice B9 X5.1.stack.length j9], .agg #[.int .u64 X5.1.p, .int .u64 X5.1.e, .int .u64 X5.1.r, .int .u64 X5.1.g, .slice A10 X5.1.prio.length k10, .int .i64 X5.1.t, .slice B10 X5.1.stack.length j10]] w' fun e w'' => e = .returned (.bool true) ∧ Below w'.heap.size w' w'') := fun w' h => sm5.out A9 k9 B9 j9 A10 k10 B10 j10 w' (RP931.out.below h.out) (RS931.out.below h.out) (RP1031.out.below h.out) (RS1031.out.below h.out)
  have mT := Lib.hid (fun w' (h : Hid (Below W.heap.size W w')) => f0.out w' ((HT.out.below HB31.out lT).below h.out (by omega)))
  have mC := Lib.hid (fun w' (h : Hid (Below W.heap.size W w')) => f6.out pA pc sA sc w' ((Hp.out.below HB31.out).below h.out) ((Hs.out.below HB31.out).below h.out))
  have mC' := Lib.hid (fun w' (h : Hid (Below W.heap.size W w')) => f6'.out pA pc sA sc w' ((Hp.out.below HB31.out).below h.out) ((Hs.out.below HB31.out).below h.out))
  have hS0 := S_refl W
  go_region_held3 (fun w' => Hid (Below W.heap.size W w')) (assumption) ((first
    | (go_at_call 16; refine (mT.out _ (by assumption)).mono ?_; rintro e w' ⟨rfl, hb⟩; have hk := S_call (W := W) (by assumption) hb; clear hb)
    | (go_at_call 23; refine (mC.out _ (by assumption)).mono ?_; rintro e w' ⟨rfl, hb⟩; have hk := S_call (W := W) (by assumption) hb; clear hb)
    | (go_at_call 32; refine (mC'.out _ (by assumption)).mono ?_; rintro e w' ⟨rfl, hb⟩; have hk := S_call (W := W) (by assumption) hb; clear hb)
    | (go_at_call 17; (first | ((with_reducible refine (m1.out _ ?_).mono ?_)) | ((with_reducible refine (m2.out _ ?_).mono ?_)) | ((with_reducible refine (m3.out _ ?_).mono ?_)) | ((with_reducible refine (m4.out _ ?_).mono ?_)) | ((with_reducible refine (m5.out _ ?_).mono ?_))); (focus assumption); rintro e w' ⟨rfl, hb⟩; have hk := S_call (W := W) (by assumption) hb; clear hb)))
  all_goals
    go_wp2
    go_ret
    refine ⟨rfl, HB31.out.trans (Below.mono (B := W.heap.size) (Hid.out (by assumption)) HB31.out.size)⟩
end Go.Proofs.YtbhjkfeonhddlaaDoor

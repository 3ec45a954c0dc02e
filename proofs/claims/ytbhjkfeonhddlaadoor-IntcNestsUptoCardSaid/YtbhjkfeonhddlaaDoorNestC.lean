/- vergelaw06: the walk of IntcNests. Conditions: a word below 2^64, lists that read, the de Bruijn table as its initialiser lays it. -/
import Derived.Test.YtbhjkfeonhddlaaDoorNestL
namespace Go.Proofs.YtbhjkfeonhddlaaDoor
open Go.RowKit Go.Shelf

theorem add_succ (a : Addr) (n : Nat) : a.add (n + 1) = ⟨(a.add n).block, (a.add n).off + 1, none⟩ := by
  unfold Addr.add
  rw [if_neg (by omega)]
  split
  · rename_i h; subst h; simp
  · simp; omega
def flat (l : List (Int × Int)) : List Value := l.flatMap fun x => [.int .i64 x.1, .int .i64 x.2]
theorem flat_get : ∀ (l : List (Int × Int)) (k : Nat), k < l.length → (flat l)[k * 2]? = some (.int .i64 (l.getD k (0, 0)).1) ∧ (flat l)[k * 2 + 1]? = some (.int .i64 (l.getD k (0, 0)).2)
  | [], k, h => by simp at h
  | x :: l, 0, _ => ⟨rfl, rfl⟩
  | x :: l, k + 1, h => by
    have ih := flat_get l k (by simpa using h)
    have e : flat (x :: l) = .int .i64 x.1 :: .int .i64 x.2 :: flat l := rfl
    rw [e, show (k + 1) * 2 = k * 2 + 1 + 1 by omega]
    simpa using ih

set_option maxRecDepth 100000 in
set_option maxHeartbeats 32000000 in
theorem nests_any (g : Nat) (hg : g < 18446744073709551616) (l : List Int) (hl : l.length ≤ 549755813888) (A : Option Addr) (c : Nat) (turns : List (Int × Int)) (htl : turns.length ≤ 549755813888) (LA : Option Addr) (LC : Nat) (w : World)
    (hr : Rd w A (l.map (.int .i64))) (hL : Rd w LA (flat turns)) (hT : Tab w) :
    Calls Tryd.prog 5 #[.int .u64 g, .slice A l.length c, .slice LA turns.length LC] w fun e w' => e = .returned (.bool true) ∧ Below w.heap.size w w' := by
  have f0 := Lib.hid (fun w hT => lives_any w hT)
  have f1 := Lib.hid (fun w hr => make_none g hg l hl A c w hr)
  have HT := Lib.hid hT
  have lT := hT.lt
  have Hr := Lib.hid hr
  have HL := Lib.hid hL
  clear hT hr hL
  by_cases hk0 : (freshC g l).ok
  · have HM := Lib.hid (makeC_ok hk0)
    rw [HM.out] at f1
    have HK0 := Lib.hid (IC.Keeps.refl hk0 (freshC_fits hg hl))
    have hl64 : l.length ≤ 64 := hk0.len2
    have hk1 : Hid (1 ≤ l.length) := hk0.len1
    clear HM hk0
    have f1' : Hid (∀ w, Rd w A (l.map (.int .i64)) → Calls Tryd.prog 21 #[.int .u64 g, .slice A l.length c] w (RetMake1 (freshC g l) 0 w)) := fun w hr => f1.out w hr
    clear f1
    generalize hD0 : freshC g l = D0 at *
    have HD0l : Hid (D0.prio = l) := by show _ = _; rw [← hD0]; rfl
    have HD0s : Hid (D0.stack = []) := by show _ = _; rw [← hD0]; rfl
    have HD0t : Hid (D0.t = 0) := by show _ = _; rw [← hD0]; rfl
    clear hD0
    unfold icv at *
    go_enter Tryd.func5, Tryd.ntmps5
    go_wp2_with fail
    refine (f0.out _ HT.out).mono ?_
    rintro e w1 ⟨rfl, hb⟩
    have HB1 : Hid (Below w.heap.size w w1) := Below.trans (by repeat (first | (with_reducible exact Below.refl _ _) | (with_reducible refine Below.drew ?_) | (with_reducible refine bdrewN ?_ _) | ((with_reducible refine Below.alloc ?_ ?_ _); rotate_left 1; focus (first | (simp; done) | (simp; omega) | omega)))) (hb.mono (by first | (simp; done) | (simp; omega) | omega | (simp [World.setCell]; omega)))
    have s1 : w.heap.size ≤ w1.heap.size := HB1.out.size
    clear hb
    go_wp2_with fail
    refine (f1'.out _ ?_).mono ?_
    · exact Rd.below Hr.out (by repeat (first | (with_reducible exact HB1.out) | (with_reducible refine Below.drew ?_) | (with_reducible refine bdrewN ?_ _) | ((with_reducible refine Below.alloc ?_ ?_ _); rotate_left 1; focus (first | (simp; done) | (simp; omega) | omega))))
    rintro e w2 ⟨A1, k1, rfl, hp, hb, h1⟩
    unfold icv
    have HB2 : Hid (Below w.heap.size w w2) := Below.trans (by repeat (first | (with_reducible exact HB1.out) | (with_reducible refine Below.drew ?_) | (with_reducible refine bdrewN ?_ _) | ((with_reducible refine Below.alloc ?_ ?_ _); rotate_left 1; focus (first | (simp; done) | (simp; omega) | omega)))) (hb.mono (by first | (simp; done) | (simp; omega) | omega | (simp [World.setCell]; omega)))
    clear HB1
    have s2 : w.heap.size ≤ w2.heap.size := HB2.out.size
    have z2 : w1.heap.size ≤ w2.heap.size := by have := hb.size; (try simp at this); omega
    have HP1 := Lib.hid hp
    have HQ1 : Hid (∀ a, A1 = some a → a.block ≠ w2.heap.size) := fun a ha e => by
      have h := hk1.out
      rw [← HD0l.out] at h
      obtain ⟨b, hb', hc⟩ := Rd.int (i := 0) HP1.out (by omega)
      rw [ha] at hb'
      cases hb'
      have := World.block_lt_of_cell? w2 _ hc
      rw [add_block] at this
      omega
    have leC : w.heap.size ≤ w2.heap.size := by omega
    clear hp hb h1
    by_cases h60 : 60 < turns.length
    · have e60 : (60 : Int) < turns.length := by omega
      go_wp2_with fail
      go_ret
      exact ⟨rfl, HB2.out.alloc (by omega) _⟩
    · have e60 : ¬ (60 : Int) < turns.length := by omega
      go_wp2
      refine name_world fun W0 hW => ?_
      have HX0 : Hid (W0.heap[w2.heap.size]? = some (.cells #[.int .u64 D0.p, .int .u64 D0.e, .int .u64 D0.r, .int .u64 D0.g, .slice A1 D0.prio.length k1, .int .i64 D0.t, .slice none D0.stack.length 0] 25 (0, 0))) := Lib.hid (by rw [hW]; exact heap_alloc_new _ _)
      have HP0 : Hid (Rd W0 A1 (D0.prio.map (.int .i64))) := Lib.hid (by rw [hW]; exact HP1.out.alloc _)
      have HB0 : Hid (Below w.heap.size w W0) := Lib.hid (by rw [hW]; exact HB2.out.alloc (by omega) _)
      clear hW
      have leC : w.heap.size ≤ w2.heap.size := by omega
      go_loopw [37] (fun i wr => ∃ (k : Nat) (x : IC) (qA : Option Addr) (qc : Nat) (tA : Option Addr) (tc : Nat), k ≤ turns.length ∧ i = .int .i64 k ∧ Hid (D0.Keeps x) ∧
          Hid (wr.heap[w2.heap.size]? = some (.cells #[.int .u64 x.p, .int .u64 x.e, .int .u64 x.r, .int .u64 x.g, .slice qA x.prio.length qc, .int .i64 x.t, .slice tA x.stack.length tc] 25 (0, 0))) ∧
          Hid (Rd wr qA (x.prio.map (.int .i64))) ∧ Hid (Rd wr tA (x.stack.map (.int .i64))) ∧ Hid ((∀ a, qA = some a → a.block ≠ w2.heap.size) ∧ (∀ a, tA = some a → a.block ≠ w2.heap.size)) ∧ Hid (Below w.heap.size w wr)) (fun i _ => turns.length - (intOf i).toNat)
      case atStart => exact ⟨0, D0, A1, k1, none, 0, by omega, rfl, HK0.out, HX0.out, HP0.out, by rw [HD0s.out]; exact Rd.nil _ _, ⟨HQ1.out, fun _ h => by cases h⟩, HB0.out⟩
      case round =>
        obtain ⟨k, x0, qA, qc, tA, tc, hk, rfl, HKx, HXw, HPw, HSw, HQw, HBw⟩ := hrel
        by_cases hlt : k < turns.length
        · obtain ⟨e1, e2⟩ := flat_get turns k hlt
          obtain ⟨a, ha, g0⟩ := (HL.out.below HBw.out) _ _ e1
          obtain ⟨a', ha', g1⟩ := (HL.out.below HBw.out) _ _ e2
          rw [ha] at ha'
          cases ha'
          subst ha
          rw [add_succ] at g1
          clear e1 e2
          have fd := Lib.hid (fun w hp hs hT => does_any x0 HKx.out.fits HKx.out.ok qA qc tA tc w hp hs (turns.getD k (0, 0)).2 hT (turns.getD k (0, 0)).1)
          generalize (turns.getD k (0, 0)).1 = kd at *
          generalize (turns.getD k (0, 0)).2 = ln at *
          unfold icv at fd
          obtain ⟨xC, yC⟩ := box_rules HXw.out
          have lC := box_lt HXw.out
          have s1 := HBw.out.size
          have QPC := Lib.hid HQw.out.1
          have QSC := Lib.hid HQw.out.2
          go_wp2_with fail
          refine (fd.out _ ?_ ?_ ?_).mono ?_
          · repeat (with_reducible first | exact HPw.out | refine Rd.set ?_ QPC.out _ | refine Rd.drew ?_ | refine Rd.drewN ?_ _ | refine Rd.alloc ?_ _)
          · repeat (with_reducible first | exact HSw.out | refine Rd.set ?_ QSC.out _ | refine Rd.drew ?_ | refine Rd.drewN ?_ _ | refine Rd.alloc ?_ _)
          · refine HT.out.below (B := w.heap.size) ?_ lT
            repeat (first | (with_reducible exact HBw.out) | (with_reducible refine Below.setCell ?_ leC _) | (with_reducible refine Below.drew ?_) | (with_reducible refine bdrewN ?_ _) | ((with_reducible refine Below.alloc ?_ ?_ _); rotate_left 1; focus (first | (simp; done) | (simp; omega) | omega)))
          rintro e w3 ⟨x, rA, rc, uA, uc, rfl, hKx, hp, hs, hb, hn⟩
          have RRC : Hid (∀ a, rA = some a → a.block ≠ w2.heap.size) := fun a ha e => (hn.1 a ha).elim (fun h => by simp at h; omega) (fun h => QPC.out a h e)
          have RUC : Hid (∀ a, uA = some a → a.block ≠ w2.heap.size) := fun a ha e => (hn.2 a ha).elim (fun h => by simp at h; omega) (fun h => QSC.out a h e)
          have HK := Lib.hid (IC.Keeps.trans HKx.out hKx)
          unfold icv
          have HXC3 : Hid (w3.heap[w2.heap.size]? = some (.cells _ _ (0, 0))) := box_keep (by repeat (first | (with_reducible exact HXw.out) | ((with_reducible refine heap_new_at _ ?_); focus (first | (with_reducible rfl) | (simp; done))) | (with_reducible refine box_alloc ?_ _) | (with_reducible apply box_set) | ((with_reducible refine box_far ?_ ?_ _); rotate_left 1; focus (first | (simp; done) | (simp; omega) | omega)) | (with_reducible refine box_drew ?_) | (with_reducible refine box_drewN ?_ _))) hb
          try simp only [List.setIfInBounds_toArray, List.set_cons_zero, List.set_cons_succ] at HXC3
          clear xC yC
          obtain ⟨xC, yC⟩ := box_rules HXC3.out
          have lC3 := box_lt HXC3.out
          clear HXw
          have HB3 : Hid (Below w.heap.size w w3) := Below.trans (by repeat (first | (with_reducible exact HBw.out) | (with_reducible refine Below.setCell ?_ leC _) | (with_reducible refine Below.drew ?_) | (with_reducible refine bdrewN ?_ _) | ((with_reducible refine Below.alloc ?_ ?_ _); rotate_left 1; focus (first | (simp; done) | (simp; omega) | omega)))) (hb.mono (by first | (simp; done) | (simp; omega) | omega | (simp [World.setCell]; omega)))
          clear HBw
          have s3 : w.heap.size ≤ w3.heap.size := HB3.out.size
          have z3 : wr.heap.size ≤ w3.heap.size := by have := hb.size; (try simp at this); omega
          have HRP := Lib.hid hp
          have HRS := Lib.hid hs
          clear hp hs hb hn hKx HKx QPC QSC HQw
          go_upto_region 10 with (fail)
          refine name_world fun W hW => ?_
          have HXC4 : Hid (W.heap[w2.heap.size]? = some (.cells _ _ (0, 0))) := Lib.hid (by rw [hW]; repeat (first | (with_reducible exact HXC3.out) | ((with_reducible refine heap_new_at _ ?_); focus (first | (with_reducible rfl) | (simp; done))) | (with_reducible refine box_alloc ?_ _) | (with_reducible apply box_set) | ((with_reducible refine box_far ?_ ?_ _); rotate_left 1; focus (first | (simp; done) | (simp; omega) | omega)) | (with_reducible refine box_drew ?_) | (with_reducible refine box_drewN ?_ _)))
          try simp only [List.setIfInBounds_toArray, List.set_cons_zero, List.set_cons_succ] at HXC4
          have RP4 : Hid (Rd W rA (x.prio.map (.int .i64))) := Lib.hid (by rw [hW]; repeat (with_reducible first | exact HRP.out | refine Rd.set ?_ RRC.out _ | refine Rd.drew ?_ | refine Rd.drewN ?_ _ | refine Rd.alloc ?_ _))
          clear HRP
          have RS4 : Hid (Rd W uA (x.stack.map (.int .i64))) := Lib.hid (by rw [hW]; repeat (with_reducible first | exact HRS.out | refine Rd.set ?_ RUC.out _ | refine Rd.drew ?_ | refine Rd.drewN ?_ _ | refine Rd.alloc ?_ _))
          clear HRS
          have HB4 : Hid (Below w.heap.size w W) := Lib.hid (by rw [hW]; repeat (first | (with_reducible exact HB3.out) | (with_reducible refine Below.setCell ?_ leC _) | (with_reducible refine Below.drew ?_) | (with_reducible refine bdrewN ?_ _) | ((with_reducible refine Below.alloc ?_ ?_ _); rotate_left 1; focus (first | (simp; done) | (simp; omega) | omega))))
          clear HB3
          have z4 : w3.heap.size ≤ W.heap.size := by rw [hW]; first | (simp; done) | (simp; omega)
          clear hW
          have s4 : w.heap.size ≤ W.heap.size := HB4.out.size
          clear xC yC HXC3
          obtain ⟨xC, yC⟩ := box_rules HXC4.out
          have lC4 := box_lt HXC4.out
          have HRU := Lib.hid (fun w' (h : Hid (Below W.heap.size W w')) => box_keep HXC4.out h.out)
          have hl2 : x.prio.length = l.length := by rw [HK.out.prio, HD0l.out]
          have Hl2 := Lib.hid hl2
          clear hl2
          have et : x.t = 0 := HK.out.t.trans HD0t.out
          have Et := Lib.hid et
          clear et
          have fc : Hid (∀ w, Rd w rA (x.prio.map (.int .i64)) → Rd w uA (x.stack.map (.int .i64)) → Calls Tryd.prog 23 #[icv x rA rc uA uc] w fun e w' => e = .returned (.int .i64 0) ∧ Below w.heap.size w w') := fun w hp hs => by
            have h := checkW x HK.out.fits rA rc uA uc w hp hs
            have e0 : x.why = 0 := by unfold IC.why; rw [if_pos HK.out.ok]
            rw [e0] at h
            exact h
          have fl : Hid (∀ w, Rd w rA (x.prio.map (.int .i64)) → Rd w uA (x.stack.map (.int .i64)) → Calls Tryd.prog 8 #[icv x rA rc uA uc] w fun e w' => e = .returned (.tuple #[.int .i64 x.level, .int .i64 0]) ∧ Below w.heap.size w w') := fun w hp hs => by
            have h := levelC_any x HK.out.fits rA rc uA uc w hp hs
            rw [IC.num_ok HK.out.ok] at h
            exact h
          obtain ⟨nb, no, hno⟩ : ∃ nb no, x.nextF = (nb, no) := ⟨_, _, rfl⟩
          have fn : Hid (∀ w, Rd w rA (x.prio.map (.int .i64)) → Rd w uA (x.stack.map (.int .i64)) → Tab w → Calls Tryd.prog 10 #[icv x rA rc uA uc] w fun e w' => e = .returned (.tuple #[.int .i64 nb, .int .i64 no]) ∧ Below w.heap.size w w') := fun w hp hs hT => by
            have h := nextC_any x HK.out.fits rA rc uA uc w hp hs hT
            rw [IC.num_ok HK.out.ok, hno] at h
            exact h
          have Hno := Lib.hid hno
          clear hno
          have f3 := Lib.hid (fun k w => has_any x.p k w HK.out.fits.p)
          have f4 := Lib.hid (fun k w => has_any x.e k w HK.out.fits.e)
          unfold icv at fc fl fn
          have HPW := Lib.hid (fun w' (h : Hid (Below W.heap.size W w')) => RP4.out.below h.out)
          have HSW := Lib.hid (fun w' (h : Hid (Below W.heap.size W w')) => RS4.out.below h.out)
          have HAW := Lib.hid (fun w' (h : Hid (Below W.heap.size W w')) => (Hr.out.below HB4.out).below h.out)
          have HTW := Lib.hid (fun w' (h : Hid (Below W.heap.size W w')) => (HT.out.below HB4.out lT).below h.out (by omega))
          have S0 : Hid (Below W.heap.size W W) := Below.refl _ _
          go_wp2_with fail
          refine (fc.out _ (HPW.out _ S0) (HSW.out _ S0)).mono ?_
          rintro e w4 ⟨rfl, hb⟩
          have S4 : Hid (Below W.heap.size W w4) := hb
          clear hb xC yC
          obtain ⟨xC, yC⟩ := box_rules (HRU.out _ S4)
          have lC5 := box_lt (HRU.out _ S4)
          have e5 : (x.t != 0) = false := by rw [Et.out]; rfl
          go_wp2
          go_loopw [55] (fun i wr2 => ∃ k2 : Nat, k2 ≤ x.stack.length ∧ i = .int .i64 k2 ∧ Hid (Below W.heap.size W wr2)) (fun i _ => x.stack.length - (intOf i).toNat)
          case atStart => exact ⟨0, by omega, rfl, S4.out⟩
          case round =>
            obtain ⟨k2, hk2, rfl, S5⟩ := hrel
            clear xC yC
            obtain ⟨xC, yC⟩ := box_rules (HRU.out _ S5)
            have lC6 := box_lt (HRU.out _ S5)
            by_cases hlt2 : k2 < x.stack.length
            · obtain ⟨b, hb', c0⟩ := (HSW.out _ S5).int hlt2
              have hst := HK.out.fits.stack
              by_cases hk0 : k2 = 0
              · subst hb'
                generalize x.stack.getD k2 0 = m at *
                have e3 : decide ((0 : Int) < (k2 : Int)) = false := by simp; omega
                have e3' : decide (0 < k2) = false := by simp; omega
                have HJ := Lib.hid hk0
                clear hk0
                go_wp2
                go_big_quiet (fail)
                go_wp2
                go_roundw
                case rel => exact ⟨k2 + 1, by omega, by go_num, bdrewN S5.out _⟩
                case measure => simp [intOf]; omega
              · obtain ⟨j, hj⟩ : ∃ j, k2 = j + 1 := ⟨k2 - 1, by omega⟩
                obtain ⟨b2, hb2, c1⟩ := (HSW.out _ S5).int (i := j) (by omega)
                rw [hb'] at hb2
                cases hb2
                subst hb'
                have gd := HK.out.ok.stack k2 hlt2
                have gd2 := HK.out.ok.stack j (by omega)
                rw [hj] at gd
                obtain ⟨m1, hm1⟩ := Int.eq_ofNat_of_zero_le gd2.1
                obtain ⟨m2, hm2⟩ := Int.eq_ofNat_of_zero_le gd.1
                have hlv : l.getD m1 0 < l.getD m2 0 := by
                  have h := gd.2.2
                  have e1 : x.ahead (j + 1) = x.pr (x.st j) := rfl
                  rw [e1, hm1, hm2] at h
                  unfold IC.pr at h
                  rw [HK.out.prio, HD0l.out] at h
                  exact h
                have i1 : m1 < l.length := by have := gd2.2.1; rw [hm1, Hl2.out] at this; omega
                have i2 : m2 < l.length := by have := gd.2.1; rw [hm2, Hl2.out] at this; omega
                obtain ⟨p, hpA, d1⟩ := (HAW.out _ S5).int i1
                obtain ⟨p2, hpA2, d2⟩ := (HAW.out _ S5).int i2
                rw [hpA] at hpA2
                cases hpA2
                subst hpA
                have c0' : wr.cell? (b.add k2) = some (.int .i64 m2) := by
                  have e1 : x.stack.getD k2 0 = (m2 : Int) := by rw [hj]; exact hm2
                  rw [c0, e1]
                have c1' : wr.cell? (b.add j) = some (.int .i64 m1) := by
                  have e1 : x.stack.getD j 0 = (m1 : Int) := hm1
                  rw [c1, e1]
                clear c0 c1 gd gd2 hm1 hm2
                generalize l.getD m1 0 = v1 at *
                generalize l.getD m2 0 = v2 at *
                have e3 : (0 : Int) < (k2 : Int) := by omega
                have e3' : 0 < k2 := by omega
                have e4 : (k2 : Int) - 1 = (j : Int) := by omega
                have e6 : (m1 : Int) < (l.length : Int) := by omega
                have e7 : (m2 : Int) < (l.length : Int) := by omega
                have e8 : j < x.stack.length := by omega
                have e9 : (j : Int) < (x.stack.length : Int) := by omega
                have HJ := Lib.hid hj
                clear hj hk0
                go_wp2
                go_big_quiet (fail)
                go_wp2
                go_roundw
                case rel => exact ⟨k2 + 1, by omega, by go_num, bdrewN S5.out _⟩
                case measure => simp [intOf]; omega
            · obtain rfl : k2 = x.stack.length := by omega
              clear S4 hlt2 hk2
              go_wp2_with fail
              refine (fn.out _ (HPW.out _ S5) (HSW.out _ S5) (HTW.out _ S5)).mono ?_
              rintro e w6 ⟨rfl, hb⟩
              have S6 := S_call (W := W) S5 hb
              clear hb xC yC
              obtain ⟨xC, yC⟩ := box_rules (HRU.out _ S6)
              have lC7 := box_lt (HRU.out _ S6)
              go_wp2_with fail
              refine (fl.out _ (HPW.out _ S6) (HSW.out _ S6)).mono ?_
              rintro e w7 ⟨rfl, hb⟩
              have S7 := S_call (W := W) S6 hb
              clear hb xC yC
              obtain ⟨xC, yC⟩ := box_rules (HRU.out _ S7)
              have lC8 := box_lt (HRU.out _ S7)
              have Hmax : Hid (∀ k, k < l.length → x.p.testBit k = true → x.e.testBit k = true → x.level < l.getD k 0 → x.best ≠ 64 ∧ l.getD k 0 ≤ x.pr x.best) := by
                intro k hk hp he hv
                have e1 : x.pr (k : Int) = l.getD k 0 := by unfold IC.pr; rw [HK.out.prio, HD0l.out]; rfl
                rw [← e1] at hv ⊢
                exact best_max HK.out.ok (by rw [Hl2.out]; exact hk) hp he hv
              have Hbo := Lib.hid (x.best_or HK.out.ok)
              generalize hlev : x.level = lev at *
              clear hlev
              by_cases hb64 : x.best = 64
              · have hn : nb = 0 ∧ no = 3 := by have h := Hno.out; unfold IC.nextF at h; rw [if_pos hb64] at h; injection h with h1 h2; exact ⟨h1.symm, h2.symm⟩
                obtain ⟨rfl, rfl⟩ := hn
                have Hm : Hid (∀ k, k < l.length → x.p.testBit k = true → x.e.testBit k = true → ¬ lev < l.getD k 0) := fun k hk hp he hv => (Hmax.out k hk hp he hv).1 hb64
                clear Hmax Hbo hb64 Hno
                go_wp2
                go_loop [103] (fun i => ∃ k3 : Nat, k3 ≤ l.length ∧ i = .int .i64 k3) (fun i => l.length - (intOf i).toNat)
                case atStart => exact ⟨0, by omega, rfl⟩
                case round =>
                  obtain ⟨k3, hk3, rfl⟩ := hrel
                  by_cases hlt3 : k3 < l.length
                  · obtain ⟨q, hqA, d3⟩ := (HAW.out _ S7).int hlt3
                    subst hqA
                    have f3' := Lib.hid (f3.out (k3 : Int)); have f4' := Lib.hid (f4.out (k3 : Int))
                    rw [hasB_nat] at f3' f4'
                    have Hm3 := Lib.hid (Hm.out k3 hlt3)
                    generalize l.getD k3 0 = v3 at *
                    generalize x.p.testBit k3 = tp at *
                    generalize x.e.testBit k3 = te at *
                    cases tp with
                    | false =>
                      go_wp2_with (refine (f3'.out _).mono ?_; rintro e w' ⟨rfl, rfl⟩)
                      go_round
                      case rel => exact ⟨k3 + 1, by omega, by go_num⟩
                      case measure => simp [intOf]; omega
                    | true =>
                      cases te with
                      | false =>
                        go_wp2_with fail
                        refine (f3'.out _).mono ?_
                        rintro e w' ⟨rfl, rfl⟩
                        go_wp2_with fail
                        refine (f4'.out _).mono ?_
                        rintro e w' ⟨rfl, rfl⟩
                        go_wp2_with fail
                        go_round
                        case rel => exact ⟨k3 + 1, by omega, by go_num⟩
                        case measure => simp [intOf]; omega
                      | true =>
                        by_cases hv : lev < v3
                        · exact absurd hv (by have := Hm3.out rfl rfl; omega)
                        · go_wp2_with fail
                          refine (f3'.out _).mono ?_
                          rintro e w' ⟨rfl, rfl⟩
                          go_wp2_with fail
                          refine (f4'.out _).mono ?_
                          rintro e w' ⟨rfl, rfl⟩
                          go_wp2_with fail
                          go_round
                          case rel => exact ⟨k3 + 1, by omega, by go_num⟩
                          case measure => simp [intOf]; omega
                  · obtain rfl : k3 = l.length := by omega
                    go_wp2
                    go_roundw
                    case rel => exact ⟨k + 1, x, rA, rc, uA, uc, by omega, by go_num, HK.out, HRU.out _ S7, HPW.out _ S7, HSW.out _ S7, ⟨RRC.out, RUC.out⟩, HB4.out.trans (S7.out.mono HB4.out.size)⟩
                    case measure => simp [intOf]; omega
              · obtain ⟨n, hn, hbn, hlv, _⟩ := Hbo.out.resolve_left hb64
                have hnn : nb = (n : Int) ∧ no = 0 := by have h := Hno.out; unfold IC.nextF at h; rw [if_neg hb64, hbn] at h; injection h with h1 h2; exact ⟨h1.symm, h2.symm⟩
                obtain ⟨rfl, rfl⟩ := hnn
                have epr : x.pr (n : Int) = l.getD n 0 := by unfold IC.pr; rw [HK.out.prio, HD0l.out]; rfl
                have Hm : Hid (∀ k, k < l.length → x.p.testBit k = true → x.e.testBit k = true → lev < l.getD k 0 → l.getD k 0 ≤ l.getD n 0) := fun k hk hp he hv => by have := (Hmax.out k hk hp he hv).2; rw [hbn, epr] at this; exact this
                have hv1 : lev < l.getD n 0 := by rw [← epr]; exact hlv
                have i1 : n < l.length := by rw [Hl2.out] at hn; exact hn
                have e6 : (n : Int) < (l.length : Int) := by omega
                have e10 : decide ((n : Int) < 0) = false := by simp
                have e11 : decide (l.length ≤ n) = false := by simp; omega
                have e12 : decide ((l.length : Int) ≤ (n : Int)) = false := by simp; omega
                obtain ⟨p, hpA, d1⟩ := (HAW.out _ S7).int i1
                subst hpA
                clear Hmax Hbo hb64 Hno epr hlv hbn hn
                generalize l.getD n 0 = vn at *
                go_wp2
                go_loop [103] (fun i => ∃ k3 : Nat, k3 ≤ l.length ∧ i = .int .i64 k3) (fun i => l.length - (intOf i).toNat)
                case atStart => exact ⟨0, by omega, rfl⟩
                case round =>
                  obtain ⟨k3, hk3, rfl⟩ := hrel
                  by_cases hlt3 : k3 < l.length
                  · obtain ⟨q, hqA, d3⟩ := (HAW.out _ S7).int hlt3
                    cases hqA
                    have f3' := Lib.hid (f3.out (k3 : Int)); have f4' := Lib.hid (f4.out (k3 : Int))
                    rw [hasB_nat] at f3' f4'
                    have Hm3 := Lib.hid (Hm.out k3 hlt3)
                    generalize l.getD k3 0 = v3 at *
                    generalize x.p.testBit k3 = tp at *
                    generalize x.e.testBit k3 = te at *
                    cases tp with
                    | false =>
                      go_wp2_with (refine (f3'.out _).mono ?_; rintro e w' ⟨rfl, rfl⟩)
                      go_round
                      case rel => exact ⟨k3 + 1, by omega, by go_num⟩
                      case measure => simp [intOf]; omega
                    | true =>
                      cases te with
                      | false =>
                        go_wp2_with fail
                        refine (f3'.out _).mono ?_
                        rintro e w' ⟨rfl, rfl⟩
                        go_wp2_with fail
                        refine (f4'.out _).mono ?_
                        rintro e w' ⟨rfl, rfl⟩
                        go_wp2_with fail
                        go_round
                        case rel => exact ⟨k3 + 1, by omega, by go_num⟩
                        case measure => simp [intOf]; omega
                      | true =>
                        by_cases hv : lev < v3
                        · have hle := Hm3.out rfl rfl hv
                          go_wp2_with fail
                          refine (f3'.out _).mono ?_
                          rintro e w' ⟨rfl, rfl⟩
                          go_wp2_with fail
                          refine (f4'.out _).mono ?_
                          rintro e w' ⟨rfl, rfl⟩
                          go_wp2_with fail
                          go_round
                          case rel => exact ⟨k3 + 1, by omega, by go_num⟩
                          case measure => simp [intOf]; omega
                        · go_wp2_with fail
                          refine (f3'.out _).mono ?_
                          rintro e w' ⟨rfl, rfl⟩
                          go_wp2_with fail
                          refine (f4'.out _).mono ?_
                          rintro e w' ⟨rfl, rfl⟩
                          go_wp2_with fail
                          go_round
                          case rel => exact ⟨k3 + 1, by omega, by go_num⟩
                          case measure => simp [intOf]; omega
                  · obtain rfl : k3 = l.length := by omega
                    go_wp2
                    go_roundw
                    case rel => exact ⟨k + 1, x, rA, rc, uA, uc, by omega, by go_num, HK.out, HRU.out _ S7, HPW.out _ S7, HSW.out _ S7, ⟨RRC.out, RUC.out⟩, HB4.out.trans (S7.out.mono HB4.out.size)⟩
                    case measure => simp [intOf]; omega
        · obtain rfl : k = turns.length := by omega
          go_wp2
          go_ret
          exact ⟨rfl, HBw.out⟩
  · have HM := Lib.hid (makeC_bad hk0)
    rw [HM.out] at f1
    have f1' : Hid (∀ w, Rd w A (l.map (.int .i64)) → Calls Tryd.prog 21 #[.int .u64 g, .slice A l.length c] w (RetMake1 IC.zero 2 w)) := fun w hr => f1.out w hr
    clear f1 HM hk0
    unfold icv at *
    go_enter Tryd.func5, Tryd.ntmps5
    go_wp2_with fail
    refine (f0.out _ HT.out).mono ?_
    rintro e w1 ⟨rfl, hb⟩
    have HB1 : Hid (Below w.heap.size w w1) := Below.trans (by repeat (first | (with_reducible exact Below.refl _ _) | (with_reducible refine Below.drew ?_) | (with_reducible refine bdrewN ?_ _) | ((with_reducible refine Below.alloc ?_ ?_ _); rotate_left 1; focus (first | (simp; done) | (simp; omega) | omega)))) (hb.mono (by first | (simp; done) | (simp; omega) | omega | (simp [World.setCell]; omega)))
    have s1 : w.heap.size ≤ w1.heap.size := HB1.out.size
    clear hb
    go_wp2_with fail
    refine (f1'.out _ ?_).mono ?_
    · exact Rd.below Hr.out (by repeat (first | (with_reducible exact HB1.out) | (with_reducible refine Below.drew ?_) | (with_reducible refine bdrewN ?_ _) | ((with_reducible refine Below.alloc ?_ ?_ _); rotate_left 1; focus (first | (simp; done) | (simp; omega) | omega))))
    rintro e w2 ⟨A1, k1, rfl, hp, hb, h1⟩
    unfold icv
    have HB2 : Hid (Below w.heap.size w w2) := Below.trans (by repeat (first | (with_reducible exact HB1.out) | (with_reducible refine Below.drew ?_) | (with_reducible refine bdrewN ?_ _) | ((with_reducible refine Below.alloc ?_ ?_ _); rotate_left 1; focus (first | (simp; done) | (simp; omega) | omega)))) (hb.mono (by first | (simp; done) | (simp; omega) | omega | (simp [World.setCell]; omega)))
    clear HB1
    have s2 : w.heap.size ≤ w2.heap.size := HB2.out.size
    have z2 : w1.heap.size ≤ w2.heap.size := by have := hb.size; (try simp at this); omega
    clear hp hb h1
    go_wp2_with fail
    go_ret
    exact ⟨rfl, HB2.out.alloc (by omega) _⟩
end Go.Proofs.YtbhjkfeonhddlaaDoor

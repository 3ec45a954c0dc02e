/- vergeref06: the walk of Next. Conditions: lists that read. -/
import Derived.Test.YtbhjkfeonhddlaaDoorRefK
namespace Go.Proofs.YtbhjkfeonhddlaaDoor
open Go.RowKit Go.Shelf

/-- The best of the first k lines, -1 in the place of none. -/
def IC.rpick (d : IC) (k : Nat) : Int × Int := d.pick (bitsTo d.waits k) (-1, d.level)
theorem IC.rpick_succ (d : IC) (k : Nat) : d.rpick (k + 1) = if d.waits.testBit k = true ∧ (d.rpick k).2 < d.pr k then ((k : Int), d.pr k) else d.rpick k := by
  unfold IC.rpick
  rw [bitsTo_succ]
  by_cases h : d.waits.testBit k = true
  · rw [if_pos h, IC.pick_snoc]
    simp only [h, true_and]
  · rw [if_neg h, if_neg (fun x => h x.1), List.append_nil]
theorem IC.pick_base (d : IC) (m : Int) : ∀ l, (d.pick l (-1, m) = (-1, m) ∧ d.pick l (64, m) = (64, m)) ∨ d.pick l (-1, m) = d.pick l (64, m)
  | [] => .inl ⟨rfl, rfl⟩
  | n :: l => by
    unfold IC.pick
    by_cases h : m < d.pr n
    · rw [if_pos h, if_pos h]; exact .inr rfl
    · rw [if_neg h, if_neg h]; exact d.pick_base m l
theorem IC.waits_bit (d : IC) {k : Nat} (hk : k < 64) : d.waits.testBit k = (d.p.testBit k && d.e.testBit k && !(ofList d.stack).testBit k) := by
  unfold IC.waits
  have e : (18446744073709551615 - ofList d.stack).testBit k = (decide (k < 64) && !(ofList d.stack).testBit k) := by
    have h := Nat.testBit_two_pow_sub_succ (n := 64) (x := ofList d.stack) (ofList_lt _) k
    have e2 : 2 ^ 64 - (ofList d.stack + 1) = 18446744073709551615 - ofList d.stack := by
      rw [show (2 : Nat) ^ 64 = 18446744073709551616 from by decide]; omega
    rw [e2] at h
    exact h
  rw [Nat.testBit_and, Nat.testBit_and, e]
  simp [hk]
theorem bitsTo_cut {b n : Nat} (h : ∀ i, n ≤ i → i < 64 → b.testBit i = false) : ∀ m, n ≤ m → m ≤ 64 → bitsTo b m = bitsTo b n := by
  intro m h1 h2
  induction m with
  | zero => obtain rfl : n = 0 := by omega
            rfl
  | succ m ih =>
    by_cases he : n = m + 1
    · rw [he]
    · rw [bitsTo_succ, h m (by omega) (by omega), ih (by omega) (by omega)]
      simp
theorem IC.rpick_all (d : IC) (hk : d.ok) : (d.rpick d.prio.length).1 = if d.best = 64 then -1 else d.best := by
  have hc : bitsOf d.waits = bitsTo d.waits d.prio.length := by
    refine bitsTo_cut (fun i h1 h2 => ?_) 64 hk.len2 (Nat.le_refl _)
    rw [d.waits_bit h2, (hk.sets i h1 h2).1]; rfl
  have hb := d.best_or hk
  unfold IC.best at hb ⊢
  unfold IC.rpick
  rw [hc] at hb ⊢
  rcases d.pick_base d.level (bitsTo d.waits d.prio.length) with ⟨h1, h2⟩ | h
  · rw [h1, h2]; rfl
  · rw [← h] at hb ⊢
    rcases d.pick_or (bitsTo d.waits d.prio.length) (-1, d.level) with e | ⟨n, hn, e, hl⟩
    · rcases hb with hb | ⟨n, _, hb, _⟩
      · rw [e] at hb; cases hb
      · rw [e] at hb; simp at hb
    · rw [e]
      have : n < d.prio.length := by
        have := (List.mem_filter.1 hn).1
        exact List.mem_range.1 this
      have := hk.len2
      rw [if_neg (by simp; omega)]

set_option maxHeartbeats 4000000 in
theorem rnextC_any (d : IC) (hf : d.Fits) (pA : Option Addr) (pc : Nat) (sA : Option Addr) (sc : Nat) (w : World) (hp : Rd w pA (d.prio.map (.int .i64))) (hs : Rd w sA (d.stack.map (.int .i64))) :
    Calls Tryd.prog 11 #[icv d pA pc sA sc] w (RetN (d.num d.nextF) w) := by
  have f1 := Lib.hid (fun w hp hs => rcheck_any d hf pA pc sA sc w hp hs)
  by_cases hk : d.ok
  · have f2 := Lib.hid (fun w hp hs => rlevel_any d hf hk pA pc sA sc w hp hs)
    have f3 := Lib.hid (fun k w => has_any d.p k w hf.p)
    have f4 := Lib.hid (fun k w => has_any d.e k w hf.e)
    have f5 := Lib.hid (fun n hn w hs => ractive_any d hf n hn pA pc sA sc w hs)
    have HR := Lib.hid (IC.num_ok hk d.nextF)
    have HL : Hid (d.nextF = if d.best = 64 then (0, 3) else (d.best, 0)) := rfl
    have Hall := Lib.hid (d.rpick_all hk)
    have Hsucc := Lib.hid (fun k => d.rpick_succ k)
    have Hbit := Lib.hid (fun k hk => d.waits_bit (k := k) hk)
    have Hbest := Lib.hid (d.best_or hk)
    have hl2 := hk.len2
    have Hp := Lib.hid hp; clear hp
    have Hs := Lib.hid hs; clear hs
    unfold icv at *
    go_enter Tryd.func11, Tryd.ntmps11
    have leD : w.heap.size ≤ w.heap.size := by omega
    go_wp2_with fail
    refine (f1.out _ (Hp.out.alloc _) (Hs.out.alloc _)).mono ?_
    rintro e w1 ⟨⟨z, rfl, hz⟩, hb⟩
    obtain rfl : z = 0 := by rcases hz with ⟨_, h⟩ | ⟨h, _⟩; exact h; exact absurd hk h
    have HXD1 : Hid (w1.heap[w.heap.size]? = some (.cells _ _ (0, 0))) := box_keep (by repeat (first | ((with_reducible refine heap_new_at _ ?_); focus (first | rfl | (simp; done))) | (with_reducible refine box_alloc ?_ _) | (with_reducible apply box_set) | ((with_reducible refine box_far ?_ ?_ _); rotate_left 1; focus (first | omega | (simp; done) | (simp; omega))) | (with_reducible refine box_drew ?_))) hb
    try simp only [List.setIfInBounds_toArray, List.set_cons_zero, List.set_cons_succ] at HXD1
    obtain ⟨xD, yD⟩ := box_rules HXD1.out
    have lD1 := box_lt HXD1.out
    have HB1 : Hid (Below w.heap.size w w1) := Below.trans (by repeat (first | (with_reducible exact Below.refl _ _) | (with_reducible refine Below.setCell ?_ leD _) | (with_reducible refine Below.drew ?_) | (with_reducible refine bdrewN ?_ _) | ((with_reducible refine Below.alloc ?_ ?_ _); rotate_left 1; focus (first | omega | (simp; done) | (simp; omega))))) (hb.mono (by first | omega | (simp; done) | (simp; omega) | (simp [World.setCell]; omega)))
    have s1 : w.heap.size ≤ w1.heap.size := HB1.out.size
    clear hb hz hk
    go_wp2_with fail
    refine (f2.out _ (Hp.out.below HB1.out) (Hs.out.below HB1.out)).mono ?_
    rintro e w2 ⟨rfl, hb⟩
    have HXD2 : Hid (w2.heap[w.heap.size]? = some (.cells _ _ (0, 0))) := box_keep (by repeat (first | (with_reducible exact HXD1.out) | ((with_reducible refine heap_new_at _ ?_); focus (first | rfl | (simp; done))) | (with_reducible refine box_alloc ?_ _) | (with_reducible apply box_set) | ((with_reducible refine box_far ?_ ?_ _); rotate_left 1; focus (first | omega | (simp; done) | (simp; omega))) | (with_reducible refine box_drew ?_))) hb
    try simp only [List.setIfInBounds_toArray, List.set_cons_zero, List.set_cons_succ] at HXD2
    clear xD yD
    obtain ⟨xD, yD⟩ := box_rules HXD2.out
    have lD2 := box_lt HXD2.out
    clear HXD1
    have HB2 : Hid (Below w.heap.size w w2) := Below.trans (by repeat (first | (with_reducible exact HB1.out) | (with_reducible refine Below.setCell ?_ leD _) | (with_reducible refine Below.drew ?_) | (with_reducible refine bdrewN ?_ _) | ((with_reducible refine Below.alloc ?_ ?_ _); rotate_left 1; focus (first | omega | (simp; done) | (simp; omega))))) (hb.mono (by first | omega | (simp; done) | (simp; omega) | (simp [World.setCell]; omega)))
    clear HB1
    have s2 : w.heap.size ≤ w2.heap.size := HB2.out.size
    clear hb
    go_wp2
    go_loopw [4, 5, 6, 7, 16] (fun b m _ _ i wr => ∃ k : Nat, k ≤ d.prio.length ∧ i = .int .i64 k ∧ b = .int .i64 (d.rpick k).1 ∧ m = .int .i64 (d.rpick k).2 ∧ Hid (wr.heap[w.heap.size]? = w2.heap[w.heap.size]?) ∧ Hid (Below w.heap.size w wr)) (fun _ _ _ _ i _ => d.prio.length - (intOf i).toNat)
    case atStart => exact ⟨0, by omega, rfl, rfl, rfl, rfl, HB2.out⟩
    case round =>
      obtain ⟨k, hk, rfl, rfl, rfl, HXw, HBw⟩ := hrel
      have HXD := Lib.hid (HXw.out.trans HXD2.out)
      clear xD yD HXw
      obtain ⟨xD, yD⟩ := box_rules HXD.out
      have lDw := box_lt HXD.out
      have sw := HBw.out.size
      by_cases hlt : k < d.prio.length
      · obtain ⟨a, ha, g1⟩ := (Hp.out.below HBw.out).int hlt
        subst ha
        have h64 : k < 64 := by omega
        have Hs1 := Lib.hid (Hsucc.out k)
        have Hpr : Hid (d.pr (k : Int) = d.prio.getD k 0) := rfl
        rw [Hbit.out k h64, Hpr.out] at Hs1
        have f3' := Lib.hid (f3.out (k : Int)); have f4' := Lib.hid (f4.out (k : Int)); have f5' := Lib.hid (f5.out k h64)
        rw [hasB_nat] at f3' f4'
        generalize d.prio.getD k 0 = p at *
        generalize d.p.testBit k = tp at *
        generalize d.e.testBit k = te at *
        generalize (ofList d.stack).testBit k = ta at *
        generalize hB : (d.rpick k).1 = B at *
        generalize hM : (d.rpick k).2 = M at *
        have HBM : Hid (d.rpick k = (B, M)) := by show _ = _; rw [← hB, ← hM]
        clear hB hM
        have HK : Hid (Below w.heap.size w wr) := HBw.out
        cases tp with
        | false =>
          have HN : Hid (d.rpick (k + 1) = (B, M)) := by show _ = _; rw [Hs1.out, HBM.out]; simp
          go_wp2_with (refine (f3'.out _).mono ?_; rintro e w' ⟨rfl, rfl⟩)
          go_roundw
          case rel => exact ⟨k + 1, by omega, by go_num, by rw [HN.out], by rw [HN.out], HXD.out.trans HXD2.out.symm, HBw.out⟩
          case measure => simp [intOf]; omega
        | true =>
          cases te with
          | false =>
            have HN : Hid (d.rpick (k + 1) = (B, M)) := by show _ = _; rw [Hs1.out, HBM.out]; simp
            go_wp2_with fail
            refine (f3'.out _).mono ?_
            rintro e w' ⟨rfl, rfl⟩
            go_wp2_with fail
            refine (f4'.out _).mono ?_
            rintro e w' ⟨rfl, rfl⟩
            go_wp2_with fail
            go_roundw
            case rel => exact ⟨k + 1, by omega, by go_num, by rw [HN.out], by rw [HN.out], HXD.out.trans HXD2.out.symm, HBw.out⟩
            case measure => simp [intOf]; omega
          | true =>
            go_wp2_with fail
            refine (f3'.out _).mono ?_
            rintro e w' ⟨rfl, rfl⟩
            go_wp2_with fail
            refine (f4'.out _).mono ?_
            rintro e w' ⟨rfl, rfl⟩
            go_wp2_with fail
            refine (f5'.out _ (Hs.out.below HBw.out)).mono ?_
            rintro e w3 ⟨rfl, hb⟩
            have HX3 := Lib.hid (box_keep HXD.out hb)
            have HB3 := Lib.hid (HBw.out.trans (hb.mono sw))
            clear hb
            cases ta with
            | true =>
              have HN : Hid (d.rpick (k + 1) = (B, M)) := by show _ = _; rw [Hs1.out, HBM.out]; simp
              go_wp2_with fail
              go_roundw
              case rel => exact ⟨k + 1, by omega, by go_num, by rw [HN.out], by rw [HN.out], HX3.out.trans HXD2.out.symm, HB3.out⟩
              case measure => simp [intOf]; omega
            | false =>
              by_cases hgt : M < p
              · have HN : Hid (d.rpick (k + 1) = ((k : Int), p)) := by show _ = _; rw [Hs1.out, HBM.out]; simp [hgt]
                go_wp2_with fail
                go_roundw
                case rel => exact ⟨k + 1, by omega, by go_num, by rw [HN.out], by rw [HN.out], HX3.out.trans HXD2.out.symm, HB3.out⟩
                case measure => simp [intOf]; omega
              · have HN : Hid (d.rpick (k + 1) = (B, M)) := by show _ = _; rw [Hs1.out, HBM.out]; simp; omega
                go_wp2_with fail
                go_roundw
                case rel => exact ⟨k + 1, by omega, by go_num, by rw [HN.out], by rw [HN.out], HX3.out.trans HXD2.out.symm, HB3.out⟩
                case measure => simp [intOf]; omega
      · obtain rfl : k = d.prio.length := by omega
        have Ha := Hall.out
        by_cases h64 : d.best = 64
        · rw [if_pos h64] at Ha
          have HR2 : Hid (d.num d.nextF = (0, 3)) := by show _ = _; rw [HR.out, HL.out, if_pos h64]
          rw [Ha]
          clear Ha h64
          go_wp2_with fail
          go_ret2
          rw [HR2.out]
          exact ⟨rfl, HBw.out⟩
        · rw [if_neg h64] at Ha
          have hge : 0 ≤ d.best := by rcases Hbest.out with h | ⟨n, _, h, _⟩; exact absurd h h64; omega
          have HR2 : Hid (d.num d.nextF = (d.best, 0)) := by show _ = _; rw [HR.out, HL.out, if_neg h64]
          rw [Ha]
          clear Ha h64
          generalize d.best = b at *
          go_wp2_with fail
          go_ret2
          rw [HR2.out]
          exact ⟨rfl, HBw.out⟩
  · have HR := Lib.hid (IC.num_bad hk d.nextF)
    have Hp := Lib.hid hp; clear hp
    have Hs := Lib.hid hs; clear hs
    unfold icv at *
    go_enter Tryd.func11, Tryd.ntmps11
    have leD : w.heap.size ≤ w.heap.size := by omega
    go_wp2_with fail
    refine (f1.out _ (Hp.out.alloc _) (Hs.out.alloc _)).mono ?_
    rintro e w1 ⟨⟨z, rfl, hz⟩, hb⟩
    obtain rfl : z = 2 := by rcases hz with ⟨h, _⟩ | ⟨_, h⟩; exact absurd h hk; exact h
    have HXD1 : Hid (w1.heap[w.heap.size]? = some (.cells _ _ (0, 0))) := box_keep (by repeat (first | ((with_reducible refine heap_new_at _ ?_); focus (first | rfl | (simp; done))) | (with_reducible refine box_alloc ?_ _) | (with_reducible apply box_set) | ((with_reducible refine box_far ?_ ?_ _); rotate_left 1; focus (first | omega | (simp; done) | (simp; omega))) | (with_reducible refine box_drew ?_))) hb
    try simp only [List.setIfInBounds_toArray, List.set_cons_zero, List.set_cons_succ] at HXD1
    obtain ⟨xD, yD⟩ := box_rules HXD1.out
    have lD1 := box_lt HXD1.out
    have HB1 : Hid (Below w.heap.size w w1) := Below.trans (by repeat (first | (with_reducible exact Below.refl _ _) | (with_reducible refine Below.setCell ?_ leD _) | (with_reducible refine Below.drew ?_) | (with_reducible refine bdrewN ?_ _) | ((with_reducible refine Below.alloc ?_ ?_ _); rotate_left 1; focus (first | omega | (simp; done) | (simp; omega))))) (hb.mono (by first | omega | (simp; done) | (simp; omega) | (simp [World.setCell]; omega)))
    have s1 : w.heap.size ≤ w1.heap.size := HB1.out.size
    clear hb hz hk
    go_wp2_with fail
    go_ret2
    rw [HR.out]
    exact ⟨rfl, HB1.out⟩
end Go.Proofs.YtbhjkfeonhddlaaDoor

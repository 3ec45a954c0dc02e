/- Packages curve and demand, and vergeref22, vergeref23: the walks of Most, right, Check, times. Conditions: numbers in range where said; lists that read. -/
import Derived.Test.YtgampofpabllbaaGreatRtA
import Derived.Test.YtgampofpabllbaaGreatVetF
namespace Go.Proofs.YtgampofpabllbaaGreat
open Go.RowKit

theorem Rd.ldAt {w : World} {A : Option Addr} {ts : List Ld} (h : Rd w A (ts.flatMap ldc)) {k : Nat} (hk : k < ts.length) : ∃ a x, A = some a ∧ ts.getD k ld0 = x ∧
    w.cell? (a.add (k * 4)) = some (.int .i64 x.per) ∧ w.cell? ⟨(a.add (k * 4)).block, (a.add (k * 4)).off + 1, none⟩ = some (.int .i64 x.jit) ∧
    w.cell? ⟨(a.add (k * 4)).block, (a.add (k * 4)).off + 2, none⟩ = some (.int .i64 x.ap) ∧ w.cell? ⟨(a.add (k * 4)).block, (a.add (k * 4)).off + 3, none⟩ = some (.int .i64 x.cost) := by
  have g := flatMap_get (f := ldc) (k := 4) (fun _ => rfl) ld0 ts k hk
  generalize ts.getD k ld0 = x at *
  obtain ⟨a, rfl, h0⟩ := h _ _ (g 0 (by omega))
  obtain ⟨_, ha1, h1⟩ := h _ _ (g 1 (by omega)); cases ha1
  obtain ⟨_, ha1, h2⟩ := h _ _ (g 2 (by omega)); cases ha1
  obtain ⟨_, ha1, h3⟩ := h _ _ (g 3 (by omega)); cases ha1
  rw [Nat.add_zero] at h0
  rw [add_plus _ _ _ (by omega)] at h1 h2 h3
  exact ⟨a, x, rfl, rfl, h0, h1, h2, h3⟩
theorem time01_any (t : Int) (w : World) : Calls Tryz.prog 103 #[.int .i64 t] w fun e w' => e = .returned (.bool (inB t 0 4503599627370496)) ∧ w = w' := by
  unfold inB
  by_cases h : 0 ≤ t
  · by_cases h2 : t ≤ 4503599627370496
    · go_enter Tryz.func103, Tryz.ntmps103
      go_wp2
      go_ret
      exact ⟨ret_bool (by simp; omega), rfl⟩
    · go_enter Tryz.func103, Tryz.ntmps103
      go_wp2
      go_ret
      exact ⟨ret_bool (by simp; omega), rfl⟩
  · go_enter Tryz.func103, Tryz.ntmps103
    go_wp2
    go_ret
    exact ⟨ret_bool (by simp; omega), rfl⟩
set_option maxHeartbeats 1000000 in
theorem most_any (x : Ld) (t : Int) (hx : cvOk x.per x.jit x.ap = true) (ht : 0 ≤ t ∧ t ≤ 4503599627370496) (w : World) :
    Calls Tryz.prog 159 #[cvv x.per x.jit x.ap, .int .i64 t] w fun e w' => e = .returned (.tuple #[.int .i64 (mostN x t), .int .i64 0]) ∧ Below w.heap.size w w' := by
  obtain ⟨⟨p1, p2⟩, ⟨j1, j2⟩, a1, a2⟩ := cv_in hx
  obtain ⟨t1, t2⟩ := ht
  have f1 := Lib.hid (fun w => cvCheck_any x.per x.jit x.ap w)
  have f2 := Lib.hid (fun w => time_any t w)
  have hw : cvWhy x.per x.jit x.ap = 0 := by unfold cvWhy; rw [hx]; rfl
  have hi : inB t 0 4503599627370496 = true := inB_true.2 ⟨t1, t2⟩
  rw [hw] at f1
  rw [hi] at f2
  have f3 := Lib.hid (fun w => parts_any (t + x.jit) x.per (by omega) (by omega) w)
  have f4 := Lib.hid (fun w => parts_any t x.ap (by omega) (by omega) w)
  have g1 := up_ge t1 a1
  have g2 : 0 ≤ (t + x.jit + x.per - 1) / x.per := Int.ediv_nonneg (by omega) (by omega)
  have HM : Hid (mostN x t = if t = 0 then 0 else min ((t + x.jit + x.per - 1) / x.per) ((t + x.ap - 1) / x.ap)) := Lib.hid rfl
  have e1 : IntKind.i64.wrap (t + x.jit) = t + x.jit := IntWalk.i64_in _ (by omega)
  clear hx hw hi
  generalize mostN x t = N at *
  generalize (t + x.jit + x.per - 1) / x.per = U at *
  generalize (t + x.ap - 1) / x.ap = V at *
  obtain ⟨x0, x1, x2, x3⟩ := x
  unfold cvv at *
  dsimp only at *
  go_enter Tryz.func159, Tryz.ntmps159
  go_wp2_with fail
  refine (f1.out _).mono ?_
  rintro e w2 ⟨rfl, hb⟩
  have HX := Lib.hid (box_keep (heap_alloc_new w (.cells #[.int .i64 x0, .int .i64 x1, .int .i64 x2] 107)) hb)
  have HB := Lib.hid (((Below.refl w.heap.size w).alloc (Nat.le_refl _) _).trans (hb.mono (by simp)))
  clear hb f1
  obtain ⟨hx, hy⟩ := box_rules HX.out
  by_cases h0 : t = 0
  · subst h0
    have HM2 : Hid (N = 0) := Lib.hid (by rw [HM.out]; rfl)
    clear HM
    go_wp2_with (refine (f2.out _).mono ?_; rintro e w' ⟨rfl, rfl⟩)
    go_ret2
    exact ⟨by rw [HM2.out]; rfl, HB.out⟩
  · have hne : (t == 0) = false := by simpa using h0
    rw [if_neg h0] at HM
    clear h0
    go_wp2_with (refine (f2.out _).mono ?_; rintro e w' ⟨rfl, rfl⟩)
    go_big_quiet ((go_at_call 161; first | (with_reducible exact (f3.out _).mono fun _ _ ⟨a, b⟩ => ⟨a, _, b.symm⟩) | (with_reducible exact (f4.out _).mono fun _ _ ⟨a, b⟩ => ⟨a, _, b.symm⟩)))
    go_wp2
    all_goals
      go_ret2
      refine ⟨?_, bdrewN HB.out _⟩
      rw [HM.out]
      first
        | (rw [show min U V = V by omega]; rfl)
        | (rw [show min U V = U by omega]; rfl)
set_option maxHeartbeats 1000000 in
theorem most22_any (x : Ld) (t : Int) (hx : cvOk x.per x.jit x.ap = true) (ht : 0 ≤ t ∧ t ≤ 4503599627370496) (w : World) :
    Calls Tryz.prog 139 #[cvv x.per x.jit x.ap, .int .i64 t] w fun e w' => e = .returned (.tuple #[.int .i64 (mostN x t), .int .i64 0]) ∧ Below w.heap.size w w' := by
  obtain ⟨⟨p1, p2⟩, ⟨j1, j2⟩, a1, a2⟩ := cv_in hx
  obtain ⟨t1, t2⟩ := ht
  have f1 := Lib.hid (fun w => cvCheck22_any x.per x.jit x.ap w)
  have f2 := Lib.hid (fun w => time01_any t w)
  have hw : cvWhy x.per x.jit x.ap = 0 := by unfold cvWhy; rw [hx]; rfl
  have hi : inB t 0 4503599627370496 = true := inB_true.2 ⟨t1, t2⟩
  rw [hw] at f1
  rw [hi] at f2
  have f3 := Lib.hid (fun w => up_any (t + x.jit) x.per (by omega) (by omega) w)
  have f4 := Lib.hid (fun w => up_any t x.ap (by omega) (by omega) w)
  have g1 := up_ge t1 a1
  have g2 : 0 ≤ (t + x.jit + x.per - 1) / x.per := Int.ediv_nonneg (by omega) (by omega)
  have HM : Hid (mostN x t = if t = 0 then 0 else min ((t + x.jit + x.per - 1) / x.per) ((t + x.ap - 1) / x.ap)) := Lib.hid rfl
  have e1 : IntKind.i64.wrap (t + x.jit) = t + x.jit := IntWalk.i64_in _ (by omega)
  clear hx hw hi
  generalize mostN x t = N at *
  generalize (t + x.jit + x.per - 1) / x.per = U at *
  generalize (t + x.ap - 1) / x.ap = V at *
  obtain ⟨x0, x1, x2, x3⟩ := x
  unfold cvv at *
  dsimp only at *
  go_enter Tryz.func139, Tryz.ntmps139
  go_wp2_with fail
  refine (f1.out _).mono ?_
  rintro e w2 ⟨rfl, hb⟩
  have HX := Lib.hid (box_keep (heap_alloc_new w (.cells #[.int .i64 x0, .int .i64 x1, .int .i64 x2] 107)) hb)
  have HB := Lib.hid (((Below.refl w.heap.size w).alloc (Nat.le_refl _) _).trans (hb.mono (by simp)))
  clear hb f1
  obtain ⟨hx, hy⟩ := box_rules HX.out
  by_cases h0 : t = 0
  · subst h0
    have HM2 : Hid (N = 0) := Lib.hid (by rw [HM.out]; rfl)
    clear HM
    go_wp2_with (refine (f2.out _).mono ?_; rintro e w' ⟨rfl, rfl⟩)
    go_ret2
    exact ⟨by rw [HM2.out]; rfl, HB.out⟩
  · have hne : (t == 0) = false := by simpa using h0
    rw [if_neg h0] at HM
    clear h0
    go_wp2_with (refine (f2.out _).mono ?_; rintro e w' ⟨rfl, rfl⟩)
    go_big_quiet ((go_at_call 151; first | (with_reducible exact (f3.out _).mono fun _ _ ⟨a, b⟩ => ⟨a, _, b.symm⟩) | (with_reducible exact (f4.out _).mono fun _ _ ⟨a, b⟩ => ⟨a, _, b.symm⟩)))
    go_wp2
    all_goals
      go_ret2
      refine ⟨?_, bdrewN HB.out _⟩
      rw [HM.out]
      first
        | (rw [show min U V = V by omega]; rfl)
        | (rw [show min U V = U by omega]; rfl)
theorem right_any (x : Ld) (w : World) : Calls Tryz.prog 148 #[ldv x] w fun e w' => e = .returned (.bool (ldOk x)) ∧ Below w.heap.size w w' := by
  have f1 := Lib.hid (fun w => cvCheck_any x.per x.jit x.ap w)
  have HV : Hid (ldOk x = (cvOk x.per x.jit x.ap && decide (0 ≤ x.cost ∧ x.cost ≤ 1099511627776))) := Lib.hid rfl
  have HW : Hid (cvWhy x.per x.jit x.ap = if cvOk x.per x.jit x.ap then 0 else 2) := Lib.hid rfl
  generalize ldOk x = v at *
  generalize cvWhy x.per x.jit x.ap = y at *
  generalize cvOk x.per x.jit x.ap = c at *
  obtain ⟨x0, x1, x2, x3⟩ := x
  unfold ldv cvv at *
  dsimp only at *
  cases c with
  | false =>
    obtain rfl : y = 2 := by rw [HW.out]; rfl
    rw [Bool.false_and] at HV
    obtain rfl := HV.out
    clear HW HV
    go_enter Tryz.func148, Tryz.ntmps148
    go_wp2_with fail
    refine (f1.out _).mono ?_
    rintro e w2 ⟨rfl, hb⟩
    have HB := Lib.hid (((Below.refl w.heap.size w).alloc (Nat.le_refl _) _).trans (hb.mono (by simp)))
    clear hb f1
    go_wp2
    go_ret
    exact ⟨rfl, HB.out⟩
  | true =>
    obtain rfl : y = 0 := by rw [HW.out]; rfl
    rw [Bool.true_and] at HV
    clear HW
    by_cases h1 : 0 ≤ x3
    · by_cases h2 : x3 ≤ 1099511627776
      · rw [decide_eq_true ⟨h1, h2⟩] at HV
        obtain rfl := HV.out
        clear HV
        go_enter Tryz.func148, Tryz.ntmps148
        go_wp2_with fail
        refine (f1.out _).mono ?_
        rintro e w2 ⟨rfl, hb⟩
        have HX := Lib.hid (box_keep (heap_alloc_new w (.cells #[.int .i64 x0, .int .i64 x1, .int .i64 x2, .int .i64 x3] 109)) hb)
        have HB := Lib.hid (((Below.refl w.heap.size w).alloc (Nat.le_refl _) _).trans (hb.mono (by simp)))
        clear hb f1
        obtain ⟨hx, hy⟩ := box_rules HX.out
        go_wp2
        go_ret
        exact ⟨ret_bool (by first | rfl | (simp; omega)), HB.out⟩
      · rw [decide_eq_false (fun h => h2 h.2)] at HV
        obtain rfl := HV.out
        clear HV
        go_enter Tryz.func148, Tryz.ntmps148
        go_wp2_with fail
        refine (f1.out _).mono ?_
        rintro e w2 ⟨rfl, hb⟩
        have HX := Lib.hid (box_keep (heap_alloc_new w (.cells #[.int .i64 x0, .int .i64 x1, .int .i64 x2, .int .i64 x3] 109)) hb)
        have HB := Lib.hid (((Below.refl w.heap.size w).alloc (Nat.le_refl _) _).trans (hb.mono (by simp)))
        clear hb f1
        obtain ⟨hx, hy⟩ := box_rules HX.out
        go_wp2
        go_ret
        exact ⟨ret_bool (by first | rfl | (simp; omega)), HB.out⟩
    · rw [decide_eq_false (fun h => h1 h.1)] at HV
      obtain rfl := HV.out
      clear HV
      go_enter Tryz.func148, Tryz.ntmps148
      go_wp2_with fail
      refine (f1.out _).mono ?_
      rintro e w2 ⟨rfl, hb⟩
      have HX := Lib.hid (box_keep (heap_alloc_new w (.cells #[.int .i64 x0, .int .i64 x1, .int .i64 x2, .int .i64 x3] 109)) hb)
      have HB := Lib.hid (((Below.refl w.heap.size w).alloc (Nat.le_refl _) _).trans (hb.mono (by simp)))
      clear hb f1
      obtain ⟨hx, hy⟩ := box_rules HX.out
      go_wp2
      go_ret
      exact ⟨ret_bool (by first | rfl | (simp; omega)), HB.out⟩
theorem right23_any (x : Ld) (w : World) : Calls Tryz.prog 122 #[ldv x] w fun e w' => e = .returned (.bool (ldOk x)) ∧ Below w.heap.size w w' := by
  have f1 := Lib.hid (fun w => cvCheck22_any x.per x.jit x.ap w)
  have HV : Hid (ldOk x = (cvOk x.per x.jit x.ap && decide (0 ≤ x.cost ∧ x.cost ≤ 1099511627776))) := Lib.hid rfl
  have HW : Hid (cvWhy x.per x.jit x.ap = if cvOk x.per x.jit x.ap then 0 else 2) := Lib.hid rfl
  generalize ldOk x = v at *
  generalize cvWhy x.per x.jit x.ap = y at *
  generalize cvOk x.per x.jit x.ap = c at *
  obtain ⟨x0, x1, x2, x3⟩ := x
  unfold ldv cvv at *
  dsimp only at *
  cases c with
  | false =>
    obtain rfl : y = 2 := by rw [HW.out]; rfl
    rw [Bool.false_and] at HV
    obtain rfl := HV.out
    clear HW HV
    go_enter Tryz.func122, Tryz.ntmps122
    go_wp2_with fail
    refine (f1.out _).mono ?_
    rintro e w2 ⟨rfl, hb⟩
    have HB := Lib.hid (((Below.refl w.heap.size w).alloc (Nat.le_refl _) _).trans (hb.mono (by simp)))
    clear hb f1
    go_wp2
    go_ret
    exact ⟨rfl, HB.out⟩
  | true =>
    obtain rfl : y = 0 := by rw [HW.out]; rfl
    rw [Bool.true_and] at HV
    clear HW
    by_cases h1 : 0 ≤ x3
    · by_cases h2 : x3 ≤ 1099511627776
      · rw [decide_eq_true ⟨h1, h2⟩] at HV
        obtain rfl := HV.out
        clear HV
        go_enter Tryz.func122, Tryz.ntmps122
        go_wp2_with fail
        refine (f1.out _).mono ?_
        rintro e w2 ⟨rfl, hb⟩
        have HX := Lib.hid (box_keep (heap_alloc_new w (.cells #[.int .i64 x0, .int .i64 x1, .int .i64 x2, .int .i64 x3] 109)) hb)
        have HB := Lib.hid (((Below.refl w.heap.size w).alloc (Nat.le_refl _) _).trans (hb.mono (by simp)))
        clear hb f1
        obtain ⟨hx, hy⟩ := box_rules HX.out
        go_wp2
        go_ret
        exact ⟨ret_bool (by first | rfl | (simp; omega)), HB.out⟩
      · rw [decide_eq_false (fun h => h2 h.2)] at HV
        obtain rfl := HV.out
        clear HV
        go_enter Tryz.func122, Tryz.ntmps122
        go_wp2_with fail
        refine (f1.out _).mono ?_
        rintro e w2 ⟨rfl, hb⟩
        have HX := Lib.hid (box_keep (heap_alloc_new w (.cells #[.int .i64 x0, .int .i64 x1, .int .i64 x2, .int .i64 x3] 109)) hb)
        have HB := Lib.hid (((Below.refl w.heap.size w).alloc (Nat.le_refl _) _).trans (hb.mono (by simp)))
        clear hb f1
        obtain ⟨hx, hy⟩ := box_rules HX.out
        go_wp2
        go_ret
        exact ⟨ret_bool (by first | rfl | (simp; omega)), HB.out⟩
    · rw [decide_eq_false (fun h => h1 h.1)] at HV
      obtain rfl := HV.out
      clear HV
      go_enter Tryz.func122, Tryz.ntmps122
      go_wp2_with fail
      refine (f1.out _).mono ?_
      rintro e w2 ⟨rfl, hb⟩
      have HX := Lib.hid (box_keep (heap_alloc_new w (.cells #[.int .i64 x0, .int .i64 x1, .int .i64 x2, .int .i64 x3] 109)) hb)
      have HB := Lib.hid (((Below.refl w.heap.size w).alloc (Nat.le_refl _) _).trans (hb.mono (by simp)))
      clear hb f1
      obtain ⟨hx, hy⟩ := box_rules HX.out
      go_wp2
      go_ret
      exact ⟨ret_bool (by first | rfl | (simp; omega)), HB.out⟩

/-- Whether loads are right. -/
def ldsOk (l : List Ld) : Bool := decide (l.length ≤ 256) && l.all ldOk
def ldsWhy (l : List Ld) : Int := if ldsOk l then 0 else 2
theorem lds_big {l : List Ld} (h : ¬ l.length ≤ 256) : ldsWhy l = 2 := by unfold ldsWhy ldsOk; rw [decide_eq_false h]; rfl
theorem lds_bad {l : List Ld} {k : Nat} (hk : k < l.length) (h : ldOk (l.getD k ld0) = false) : ldsWhy l = 2 := by
  unfold ldsWhy ldsOk
  have : l.all ldOk = false := by
    rw [Bool.eq_false_iff]
    intro h2
    have e : l.getD k ld0 = l[k] := by simp [List.getD, hk]
    have := List.all_eq_true.1 h2 _ (List.getElem_mem hk)
    rw [← e, h] at this
    cases this
  rw [this, Bool.and_false]; rfl
theorem lds_ok {l : List Ld} (h0 : l.length ≤ 256) (h : ∀ j, j < l.length → ldOk (l.getD j ld0) = true) : ldsWhy l = 0 := by
  unfold ldsWhy ldsOk
  have : l.all ldOk = true := by
    rw [List.all_eq_true]
    intro x hx
    obtain ⟨i, hi, rfl⟩ := List.getElem_of_mem hx
    have e : l.getD i ld0 = l[i] := by simp [List.getD, hi]
    rw [← e]; exact h i hi
  rw [this, decide_eq_true h0]; rfl
theorem lds_in {l : List Ld} (h : ldsWhy l = 0) : l.length ≤ 256 ∧ ∀ x ∈ l, ldOk x = true := by
  unfold ldsWhy at h
  split at h
  · rename_i h1
    unfold ldsOk at h1
    simp only [Bool.and_eq_true, decide_eq_true_eq, List.all_eq_true] at h1
    exact h1
  · cases h
theorem lds_02 (l : List Ld) : ldsWhy l = 0 ∨ ldsWhy l = 2 := by unfold ldsWhy; split; exact .inl rfl; exact .inr rfl
set_option maxHeartbeats 1000000 in
theorem lcheck_any (l : List Ld) (hl : l.length ≤ 1048576) (A : Option Addr) (c : Nat) (w : World) (hr : Rd w A (l.flatMap ldc)) :
    Calls Tryz.prog 135 #[.slice A l.length c] w fun e w' => e = .returned (.int .i64 (ldsWhy l)) ∧ Below w.heap.size w w' := by
  have Hr := Lib.hid hr
  have f1 := Lib.hid (fun x w => right_any x w)
  clear hr
  have HB1 : Hid (¬ l.length ≤ 256 → ldsWhy l = 2) := Lib.hid (fun h => lds_big h)
  have HB2 : Hid (∀ k, k < l.length → ldOk (l.getD k ld0) = false → ldsWhy l = 2) := Lib.hid (fun k hk h => lds_bad hk h)
  have HB3 : Hid (l.length ≤ 256 → (∀ j, j < l.length → ldOk (l.getD j ld0) = true) → ldsWhy l = 0) := Lib.hid (fun h0 h => lds_ok h0 h)
  generalize ldsWhy l = y at *
  by_cases hbig : l.length ≤ 256
  · have hb' : ¬ (256 : Int) < (l.length : Int) := by omega
    have HB4 := Lib.hid (HB3.out hbig)
    clear HB1 HB3
    go_enter Tryz.func135, Tryz.ntmps135
    go_wp2
    go_loopw [10] (fun i wr => ∃ k : Nat, k ≤ l.length ∧ i = .int .i64 k ∧ Below w.heap.size w wr ∧ Hid (∀ j, j < k → ldOk (l.getD j ld0) = true)) (fun i _ => l.length - (intOf i).toNat)
    case atStart => exact ⟨0, by omega, rfl, Below.refl _ _, fun j hj => absurd hj (Nat.not_lt_zero _)⟩
    case round =>
      obtain ⟨k, hk, rfl, hB, hm⟩ := hrel
      have sB := hB.size
      by_cases hlt : k < l.length
      · obtain ⟨a, x, rfl, hx2, g0, g1, g2, g3⟩ := (Hr.out.below hB).ldAt hlt
        have HB := Lib.hid hB
        have f2 := Lib.hid (fun w => f1.out x w)
        have HV : Hid (∀ b, ldOk x = b → ldOk (l.getD k ld0) = b) := Lib.hid (fun b h => by rw [hx2]; exact h)
        clear hB hx2
        obtain ⟨x0, x1, x2, x3⟩ := x
        unfold ldv at f2
        dsimp only at f2 g0 g1 g2 g3
        generalize ldOk ⟨x0, x1, x2, x3⟩ = v at *
        cases v with
        | true =>
          go_wp2_with fail
          refine (f2.out _).mono ?_
          rintro e w4 ⟨rfl, hb4⟩
          have HB4' := Lib.hid ((HB.out.alloc sB _).trans (hb4.mono (by simp; omega)))
          clear hb4
          go_wp2
          go_roundw
          case rel =>
            refine ⟨k + 1, by omega, by go_num, HB4'.out, fun j hj => ?_⟩
            by_cases he : j = k
            · subst he; exact HV.out _ rfl
            · exact hm.out j (by omega)
          case measure => simp [intOf]; omega
        | false =>
          go_wp2_with fail
          refine (f2.out _).mono ?_
          rintro e w4 ⟨rfl, hb4⟩
          have HB4' := Lib.hid ((HB.out.alloc sB _).trans (hb4.mono (by simp; omega)))
          clear hb4
          go_wp2
          go_ret
          exact ⟨ret_int (HB2.out k hlt (HV.out _ rfl)).symm, HB4'.out⟩
      · obtain rfl : k = l.length := by omega
        have HB := Lib.hid hB
        clear hB
        go_wp2
        go_ret
        exact ⟨ret_int (HB4.out hm.out).symm, HB.out⟩
  · have hb' : (256 : Int) < (l.length : Int) := by omega
    obtain rfl := HB1.out hbig
    clear HB1 HB2 HB3 hbig
    go_enter Tryz.func135, Tryz.ntmps135
    go_wp2
    go_ret
    exact ⟨rfl, Below.refl _ _⟩
set_option maxHeartbeats 1000000 in
theorem lcheck23_any (l : List Ld) (hl : l.length ≤ 1048576) (A : Option Addr) (c : Nat) (w : World) (hr : Rd w A (l.flatMap ldc)) :
    Calls Tryz.prog 102 #[.slice A l.length c] w fun e w' => e = .returned (.int .i64 (ldsWhy l)) ∧ Below w.heap.size w w' := by
  have Hr := Lib.hid hr
  have f1 := Lib.hid (fun x w => right23_any x w)
  clear hr
  have HB1 : Hid (¬ l.length ≤ 256 → ldsWhy l = 2) := Lib.hid (fun h => lds_big h)
  have HB2 : Hid (∀ k, k < l.length → ldOk (l.getD k ld0) = false → ldsWhy l = 2) := Lib.hid (fun k hk h => lds_bad hk h)
  have HB3 : Hid (l.length ≤ 256 → (∀ j, j < l.length → ldOk (l.getD j ld0) = true) → ldsWhy l = 0) := Lib.hid (fun h0 h => lds_ok h0 h)
  generalize ldsWhy l = y at *
  by_cases hbig : l.length ≤ 256
  · have hb' : ¬ (256 : Int) < (l.length : Int) := by omega
    have HB4 := Lib.hid (HB3.out hbig)
    clear HB1 HB3
    go_enter Tryz.func102, Tryz.ntmps102
    go_wp2
    go_loopw [10] (fun i wr => ∃ k : Nat, k ≤ l.length ∧ i = .int .i64 k ∧ Below w.heap.size w wr ∧ Hid (∀ j, j < k → ldOk (l.getD j ld0) = true)) (fun i _ => l.length - (intOf i).toNat)
    case atStart => exact ⟨0, by omega, rfl, Below.refl _ _, fun j hj => absurd hj (Nat.not_lt_zero _)⟩
    case round =>
      obtain ⟨k, hk, rfl, hB, hm⟩ := hrel
      have sB := hB.size
      by_cases hlt : k < l.length
      · obtain ⟨a, x, rfl, hx2, g0, g1, g2, g3⟩ := (Hr.out.below hB).ldAt hlt
        have HB := Lib.hid hB
        have f2 := Lib.hid (fun w => f1.out x w)
        have HV : Hid (∀ b, ldOk x = b → ldOk (l.getD k ld0) = b) := Lib.hid (fun b h => by rw [hx2]; exact h)
        clear hB hx2
        obtain ⟨x0, x1, x2, x3⟩ := x
        unfold ldv at f2
        dsimp only at f2 g0 g1 g2 g3
        generalize ldOk ⟨x0, x1, x2, x3⟩ = v at *
        cases v with
        | true =>
          go_wp2_with fail
          refine (f2.out _).mono ?_
          rintro e w4 ⟨rfl, hb4⟩
          have HB4' := Lib.hid ((HB.out.alloc sB _).trans (hb4.mono (by simp; omega)))
          clear hb4
          go_wp2
          go_roundw
          case rel =>
            refine ⟨k + 1, by omega, by go_num, HB4'.out, fun j hj => ?_⟩
            by_cases he : j = k
            · subst he; exact HV.out _ rfl
            · exact hm.out j (by omega)
          case measure => simp [intOf]; omega
        | false =>
          go_wp2_with fail
          refine (f2.out _).mono ?_
          rintro e w4 ⟨rfl, hb4⟩
          have HB4' := Lib.hid ((HB.out.alloc sB _).trans (hb4.mono (by simp; omega)))
          clear hb4
          go_wp2
          go_ret
          exact ⟨ret_int (HB2.out k hlt (HV.out _ rfl)).symm, HB4'.out⟩
      · obtain rfl : k = l.length := by omega
        have HB := Lib.hid hB
        clear hB
        go_wp2
        go_ret
        exact ⟨ret_int (HB4.out hm.out).symm, HB.out⟩
  · have hb' : (256 : Int) < (l.length : Int) := by omega
    obtain rfl := HB1.out hbig
    clear HB1 HB2 HB3 hbig
    go_enter Tryz.func102, Tryz.ntmps102
    go_wp2
    go_ret
    exact ⟨rfl, Below.refl _ _⟩
theorem times_any (n cost lim : Int) (hn : 0 ≤ n ∧ n ≤ 4503599627370496) (hc : 0 ≤ cost ∧ cost ≤ 1099511627776) (hl : 0 ≤ lim ∧ lim ≤ 4503599627370496) (w : World) :
    Calls Tryz.prog 157 #[.int .i64 n, .int .i64 cost, .int .i64 lim] w fun e w' => e = .returned (.tuple #[.int .i64 (if overB n cost lim then 0 else n * cost), .bool (!overB n cost lim)]) ∧ w = w' := by
  obtain ⟨n1, n2⟩ := hn
  obtain ⟨c1, c2⟩ := hc
  obtain ⟨l1, l2⟩ := hl
  by_cases h0 : 0 < cost
  · have HP := Lib.hid (over_pos (n := n) (lim := lim) h0)
    by_cases ho : lim < n * cost
    · have hv : overB n cost lim = true := by unfold overB; simpa using ho
      rw [hv]
      have hq : lim / cost < n := HP.out.2 ho
      clear ho hv HP
      go_enter Tryz.func157, Tryz.ntmps157
      go_wp2
      go_ret2
      exact ⟨rfl, rfl⟩
    · have hv : overB n cost lim = false := by unfold overB; simpa using ho
      rw [hv]
      have hq : ¬ lim / cost < n := fun h => ho (HP.out.1 h)
      have hm : 0 ≤ n * cost := Int.mul_nonneg n1 c1
      have e1 : IntKind.i64.wrap (n * cost) = n * cost := IntWalk.i64_in _ (by omega)
      clear hv HP
      go_enter Tryz.func157, Tryz.ntmps157
      go_wp2
      go_ret2
      exact ⟨rfl, rfl⟩
  · obtain rfl : cost = 0 := by omega
    rw [over_zero l1]
    go_enter Tryz.func157, Tryz.ntmps157
    go_wp2
    go_ret2
    exact ⟨by simp, rfl⟩
end Go.Proofs.YtgampofpabllbaaGreat

/- vergelaw35: the walk of HyperDivides. Conditions: the de Bruijn table as its initialiser lays it. -/
import Derived.Test.YtpdanmdpaanafaaDoorHypI
namespace Go.Proofs.YtpdanmdpaanafaaDoor
open Go.RowKit Go.Shelf

theorem lcm_two {a b : Nat} (ha : 1 ≤ a ∧ a ≤ 4503599627370496) (hb : 1 ≤ b ∧ b ≤ 4503599627370496) :
    lcmOf [(a : Int), (b : Int)] = if 4503599627370496 / a < b / Nat.gcd a b then (0, 10) else (((a * (b / Nat.gcd a b) : Nat) : Int), 0) := by
  have h1 : [(a : Int), (b : Int)].all okN = true := by
    simp [okN]; omega
  have e1 : lcmGo 1 [a, b] = if 4503599627370496 / a < b / Nat.gcd a b then none else some (a * (b / Nat.gcd a b)) := by
    show (if 4503599627370496 / 1 < a / Nat.gcd 1 a then none else lcmGo (1 * (a / Nat.gcd 1 a)) [b]) = _
    rw [Nat.gcd_one_left, Nat.div_one, Nat.div_one, if_neg (by omega), Nat.one_mul]
    rfl
  unfold lcmOf
  rw [h1, if_pos rfl]
  show lcmRes (lcmGo 1 [a, b]) = _
  rw [e1]
  split <;> rfl
theorem lcm_zero {a b : Int} (h : a = 0 ∨ b = 0) : lcmOf [a, b] = (0, 1) := by
  have h1 : [a, b].all okN = false := by
    rcases h with rfl | rfl <;> simp [okN]
  unfold lcmOf
  rw [h1]; rfl
theorem gcd_mul_swap (a b : Nat) : a / Nat.gcd a b * b = a * (b / Nat.gcd a b) := by
  rw [← Nat.mul_div_assoc a (Nat.gcd_dvd_right a b), Nat.mul_comm (a / Nat.gcd a b) b, ← Nat.mul_div_assoc b (Nat.gcd_dvd_left a b), Nat.mul_comm b a]
theorem over_two {a b : Nat} (ha : 0 < a) (hb : 0 < b) (h : 4503599627370496 / a < b / Nat.gcd a b) : 4503599627370496 / b < a / Nat.gcd a b := by
  rw [Nat.div_lt_iff_lt_mul ha] at h
  rw [Nat.div_lt_iff_lt_mul hb, gcd_mul_swap, Nat.mul_comm]
  exact h

theorem gcd_mod {a b : Nat} {d : Int} (h0 : 0 < d) (h1 : (a : Int) % d = 0) (h2 : (b : Int) % d = 0) : ((Nat.gcd a b : Nat) : Int) % d = 0 := by
  obtain ⟨e, rfl⟩ := Int.eq_ofNat_of_zero_le (Int.le_of_lt h0)
  rw [← Int.natCast_emod] at h1 h2 ⊢
  have h1' : a % e = 0 := by omega
  have h2' : b % e = 0 := by omega
  rw [Nat.mod_eq_zero_of_dvd (Nat.dvd_gcd (Nat.dvd_of_mod_eq_zero h1') (Nat.dvd_of_mod_eq_zero h2'))]
  rfl

/-- The facts that the last statement asks for, as the model writes them. -/
theorem quo_nat (x y : Nat) : Int.tdiv (x : Int) (y : Int) = ((x / y : Nat) : Int) := by
  rw [Int.tdiv_eq_ediv_of_nonneg (Int.natCast_nonneg _), Int.natCast_ediv]
theorem wrap_nat {q : Nat} (h : q ≤ 4503599627370496) : IntKind.i64.wrap (q : Int) = (q : Int) := Go.IntWalk.i64_in _ (by omega)
theorem rem_nat {x y : Nat} (h : x % y = 0) : Int.tmod (x : Int) (y : Int) = 0 := by
  rw [Int.tmod_eq_emod_of_nonneg (Int.natCast_nonneg _), ← Int.natCast_emod, h]; rfl
theorem mul_nat {x y z : Nat} (h : x * y = z) (hz : z ≤ 4503599627370496) : IntKind.i64.wrap ((x : Int) * (y : Int)) = (z : Int) := by
  rw [← Int.natCast_mul, h]
  exact Go.IntWalk.i64_in _ (by omega)
set_option maxHeartbeats 8000000 in
set_option maxRecDepth 100000 in
theorem divides_any (a b d : Int) (w : World) (hT : Tab w) :
    Calls Tryd.prog 5 #[.int .i64 a, .int .i64 b, .int .i64 d] w fun e w' => e = .returned (.bool true) ∧ Below w.heap.size w w' := by
  have f0 := Lib.hid (fun w hT => lives_any w hT)
  have f1 := Lib.hid (fun w hT => gcd_any a b w hT)
  have f2 : Hid (∀ A c w, Rd w A [.int .i64 a, .int .i64 b] → Tab w → Calls Tryd.prog 10 #[.slice A 2 c] w (RetT (lcmOf [a, b]) w)) := Lib.hid (fun A c w hr hT => lcm_any [a, b] (by simp) A c w hr hT)
  have HT := Lib.hid hT
  clear hT
  by_cases hG : tmOk a = true ∧ tmOk b = true ∧ ¬ (a = 0 ∧ b = 0)
  · have hg : gcdOf a b = (((Nat.gcd a.toNat b.toNat : Nat) : Int), 0) := by unfold gcdOf; rw [if_pos hG]
    obtain ⟨h1, h2, h0⟩ := hG
    obtain ⟨a1, a2⟩ := tmOk_true.1 h1
    obtain ⟨b1, b2⟩ := tmOk_true.1 h2
    clear h1 h2
    rw [hg] at f1
    clear hg
    by_cases ha0 : a = 0
    · subst ha0
      have hb0 : b ≠ 0 := fun h => h0 ⟨rfl, h⟩
      obtain ⟨b, rfl⟩ := Int.eq_ofNat_of_zero_le b1
      rw [lcm_zero (.inl rfl)] at f2
      simp only [Int.toNat_natCast, Int.toNat_zero, Nat.gcd_zero_left] at f1
      clear h0 a1 a2 b1
      unfold RetT at *
      go_enter Tryd.func5, Tryd.ntmps5
      go_wp2_with fail
      refine (f0.out _ HT.out).mono ?_
      rintro e w1 ⟨rfl, hb⟩
      have hB1 := Lib.hid hb
      have HT2 := Lib.hid (HT.out.below hb HT.out.lt)
      clear hb
      go_wp2_with fail
      refine (f1.out _ HT2.out).mono ?_
      rintro e w2 ⟨rfl, rfl⟩
      by_cases d0 : 0 < d
      · by_cases d2 : ((b : Nat) : Int) % d = 0
        · go_wp2_with (go_at_call 10; refine (f2.out _ _ _ (by intro j u hu; exact ⟨_, rfl, by rw [add_zero_lit, Nat.zero_add]; exact new_cell hu⟩) (HT2.out.below ((Below.refl _ _).alloc (Nat.le_refl _) _) HT2.out.lt)).mono ?_; rintro e w' ⟨rfl, rfl⟩)
          go_ret
          exact ⟨rfl, hB1.out.alloc hB1.out.size _⟩
        · go_wp2_with (go_at_call 10; refine (f2.out _ _ _ (by intro j u hu; exact ⟨_, rfl, by rw [add_zero_lit, Nat.zero_add]; exact new_cell hu⟩) (HT2.out.below ((Below.refl _ _).alloc (Nat.le_refl _) _) HT2.out.lt)).mono ?_; rintro e w' ⟨rfl, rfl⟩)
          go_ret
          exact ⟨rfl, hB1.out.alloc hB1.out.size _⟩
      · go_wp2_with (go_at_call 10; refine (f2.out _ _ _ (by intro j u hu; exact ⟨_, rfl, by rw [add_zero_lit, Nat.zero_add]; exact new_cell hu⟩) (HT2.out.below ((Below.refl _ _).alloc (Nat.le_refl _) _) HT2.out.lt)).mono ?_; rintro e w' ⟨rfl, rfl⟩)
        go_ret
        exact ⟨rfl, hB1.out.alloc hB1.out.size _⟩
    · by_cases hb0 : b = 0
      · subst hb0
        obtain ⟨a, rfl⟩ := Int.eq_ofNat_of_zero_le a1
        rw [lcm_zero (.inr rfl)] at f2
        simp only [Int.toNat_natCast, Int.toNat_zero, Nat.gcd_zero_right] at f1
        clear h0 b1 b2 a1
        unfold RetT at *
        go_enter Tryd.func5, Tryd.ntmps5
        go_wp2_with fail
        refine (f0.out _ HT.out).mono ?_
        rintro e w1 ⟨rfl, hb⟩
        have hB1 := Lib.hid hb
        have HT2 := Lib.hid (HT.out.below hb HT.out.lt)
        clear hb
        go_wp2_with fail
        refine (f1.out _ HT2.out).mono ?_
        rintro e w2 ⟨rfl, rfl⟩
        by_cases d0 : 0 < d
        · by_cases d2 : ((a : Nat) : Int) % d = 0
          · go_wp2_with (go_at_call 10; refine (f2.out _ _ _ (by intro j u hu; exact ⟨_, rfl, by rw [add_zero_lit, Nat.zero_add]; exact new_cell hu⟩) (HT2.out.below ((Below.refl _ _).alloc (Nat.le_refl _) _) HT2.out.lt)).mono ?_; rintro e w' ⟨rfl, rfl⟩)
            go_ret
            exact ⟨rfl, hB1.out.alloc hB1.out.size _⟩
          · go_wp2_with (go_at_call 10; refine (f2.out _ _ _ (by intro j u hu; exact ⟨_, rfl, by rw [add_zero_lit, Nat.zero_add]; exact new_cell hu⟩) (HT2.out.below ((Below.refl _ _).alloc (Nat.le_refl _) _) HT2.out.lt)).mono ?_; rintro e w' ⟨rfl, rfl⟩)
            go_ret
            exact ⟨rfl, hB1.out.alloc hB1.out.size _⟩
        · go_wp2_with (go_at_call 10; refine (f2.out _ _ _ (by intro j u hu; exact ⟨_, rfl, by rw [add_zero_lit, Nat.zero_add]; exact new_cell hu⟩) (HT2.out.below ((Below.refl _ _).alloc (Nat.le_refl _) _) HT2.out.lt)).mono ?_; rintro e w' ⟨rfl, rfl⟩)
          go_ret
          exact ⟨rfl, hB1.out.alloc hB1.out.size _⟩
      · obtain ⟨a, rfl⟩ := Int.eq_ofNat_of_zero_le a1
        obtain ⟨b, rfl⟩ := Int.eq_ofNat_of_zero_le b1
        simp only [Int.toNat_natCast] at f1
        have hg0 : 1 ≤ Nat.gcd a b := by
          rcases Nat.eq_zero_or_pos (Nat.gcd a b) with h | h
          · exact absurd ⟨by rw [Nat.eq_zero_of_gcd_eq_zero_left h]; rfl, by rw [Nat.eq_zero_of_gcd_eq_zero_right h]; rfl⟩ h0
          · exact h
        have ma := Lib.hid (show (a : Int) % ((Nat.gcd a b : Nat) : Int) = 0 by rw [← Int.natCast_emod, Nat.mod_eq_zero_of_dvd (Nat.gcd_dvd_left a b)]; rfl)
        have mb' := Lib.hid (show (b : Int) % ((Nat.gcd a b : Nat) : Int) = 0 by rw [← Int.natCast_emod, Nat.mod_eq_zero_of_dvd (Nat.gcd_dvd_right a b)]; rfl)
        have p1 : 1 ≤ a := by omega
        have p2 : 1 ≤ b := by omega
        clear h0 a1 b1 ha0 hb0
        rw [lcm_two (by omega) (by omega)] at f2
        have DG := Lib.hid (fun (h0 : 0 < d) (h1 : (a : Int) % d = 0) (h2 : (b : Int) % d = 0) => gcd_mod h0 h1 h2)
        have OV := Lib.hid (over_two (a := a) (b := b) (by omega) (by omega))
        have SW := Lib.hid (gcd_mul_swap a b)
        have T1 := quo_nat a (Nat.gcd a b)
        have T2 : Int.tdiv (4503599627370496 : Int) (b : Int) = ((4503599627370496 / b : Nat) : Int) := quo_nat 4503599627370496 b
        have T2w : IntKind.i64.wrap (Int.tdiv (4503599627370496 : Int) (b : Int)) = ((4503599627370496 / b : Nat) : Int) := by rw [T2]; exact wrap_nat (Nat.div_le_self _ _)
        have T1w : IntKind.i64.wrap (Int.tdiv (a : Int) ((Nat.gcd a b : Nat) : Int)) = ((a / Nat.gcd a b : Nat) : Int) := by rw [T1]; exact wrap_nat (Nat.le_trans (Nat.div_le_self _ _) (by omega))
        have DL := Lib.hid (show a * (b / Nat.gcd a b) % b = 0 by rw [← gcd_mul_swap]; exact Nat.mul_mod_left _ _)
        have DA := Lib.hid (show a * (b / Nat.gcd a b) % a = 0 from Nat.mul_mod_right _ _)
        have LE := Lib.hid (by_le (all := a) (n := b))
        have mb1 : 4503599627370496 / b ≤ 4503599627370496 := Nat.div_le_self _ _
        have mb2 : a / Nat.gcd a b ≤ a := Nat.div_le_self _ _
        generalize 4503599627370496 / b = mb at *
        generalize a / Nat.gcd a b = ag at *
        generalize b / Nat.gcd a b = bg at *
        generalize Nat.gcd a b = g at *
        unfold RetT at *
        go_enter Tryd.func5, Tryd.ntmps5
        go_wp2_with fail
        refine (f0.out _ HT.out).mono ?_
        rintro e w1 ⟨rfl, hb⟩
        have hB1 := Lib.hid hb
        have HT2 := Lib.hid (HT.out.below hb HT.out.lt)
        clear hb
        go_wp2_with fail
        refine (f1.out _ HT2.out).mono ?_
        rintro e w2 ⟨rfl, rfl⟩
        have z1 : ((a : Int) == 0) = false := by rw [beq_eq_false_iff_ne]; omega
        have z2 : ((b : Int) == 0) = false := by rw [beq_eq_false_iff_ne]; omega
        have hg1 : ¬ ((g : Int) < 1) := by omega
        have hg2 : decide ((g : Int) < 1) = false := by simp; omega
        have ma1 := ma.out
        have mb3 := mb'.out
        clear ma mb'
        by_cases d0 : 0 < d
        · by_cases d1 : (a : Int) % d = 0
          · by_cases d2 : (b : Int) % d = 0
            · have d3 := DG.out d0 d1 d2
              clear DG
              by_cases hov : 4503599627370496 / a < bg
              · rw [if_pos hov] at f2
                have ov := OV.out hov
                clear OV DL LE SW DA
                have ov' : (mb : Int) < (ag : Int) := by omega
                have ov2 : decide ((mb : Int) < (ag : Int)) = true := decide_eq_true ov'
                have ov3 : decide (mb < ag) = true := decide_eq_true ov
                go_wp2_with (go_at_call 10; refine (f2.out _ _ _ (by intro j u hu; exact ⟨_, rfl, by rw [add_zero_lit, Nat.zero_add]; exact new_cell hu⟩) (HT2.out.below ((Below.refl _ _).alloc (Nat.le_refl _) _) HT2.out.lt)).mono ?_; rintro e w' ⟨rfl, rfl⟩)
                go_big_quiet (fail)
                go_wp2
                go_ret
                first | exact ⟨rfl, hB1.out.alloc hB1.out.size _⟩ | exact ⟨rfl, bdrewN (hB1.out.alloc hB1.out.size _) _⟩ | exact ⟨rfl, (hB1.out.alloc hB1.out.size _).drew⟩
              · rw [if_neg hov] at f2
                have le := LE.out hov
                have T3 := rem_nat DA.out
                have T4 := rem_nat DL.out
                have T5 := mul_nat SW.out le
                clear OV DL LE SW DA
                generalize a * bg = L at *
                go_wp2_with (go_at_call 10; refine (f2.out _ _ _ (by intro j u hu; exact ⟨_, rfl, by rw [add_zero_lit, Nat.zero_add]; exact new_cell hu⟩) (HT2.out.below ((Below.refl _ _).alloc (Nat.le_refl _) _) HT2.out.lt)).mono ?_; rintro e w' ⟨rfl, rfl⟩)
                go_big_quiet (fail)
                go_wp2
                go_ret
                first | exact ⟨rfl, hB1.out.alloc hB1.out.size _⟩ | exact ⟨rfl, bdrewN (hB1.out.alloc hB1.out.size _) _⟩ | exact ⟨rfl, (hB1.out.alloc hB1.out.size _).drew⟩
            · clear DG
              by_cases hov : 4503599627370496 / a < bg
              · rw [if_pos hov] at f2
                have ov := OV.out hov
                clear OV DL LE SW DA
                have ov' : (mb : Int) < (ag : Int) := by omega
                have ov2 : decide ((mb : Int) < (ag : Int)) = true := decide_eq_true ov'
                have ov3 : decide (mb < ag) = true := decide_eq_true ov
                go_wp2_with (go_at_call 10; refine (f2.out _ _ _ (by intro j u hu; exact ⟨_, rfl, by rw [add_zero_lit, Nat.zero_add]; exact new_cell hu⟩) (HT2.out.below ((Below.refl _ _).alloc (Nat.le_refl _) _) HT2.out.lt)).mono ?_; rintro e w' ⟨rfl, rfl⟩)
                go_big_quiet (fail)
                go_wp2
                go_ret
                first | exact ⟨rfl, hB1.out.alloc hB1.out.size _⟩ | exact ⟨rfl, bdrewN (hB1.out.alloc hB1.out.size _) _⟩ | exact ⟨rfl, (hB1.out.alloc hB1.out.size _).drew⟩
              · rw [if_neg hov] at f2
                have le := LE.out hov
                have T3 := rem_nat DA.out
                have T4 := rem_nat DL.out
                have T5 := mul_nat SW.out le
                clear OV DL LE SW DA
                generalize a * bg = L at *
                go_wp2_with (go_at_call 10; refine (f2.out _ _ _ (by intro j u hu; exact ⟨_, rfl, by rw [add_zero_lit, Nat.zero_add]; exact new_cell hu⟩) (HT2.out.below ((Below.refl _ _).alloc (Nat.le_refl _) _) HT2.out.lt)).mono ?_; rintro e w' ⟨rfl, rfl⟩)
                go_big_quiet (fail)
                go_wp2
                go_ret
                first | exact ⟨rfl, hB1.out.alloc hB1.out.size _⟩ | exact ⟨rfl, bdrewN (hB1.out.alloc hB1.out.size _) _⟩ | exact ⟨rfl, (hB1.out.alloc hB1.out.size _).drew⟩
          · clear DG
            by_cases hov : 4503599627370496 / a < bg
            · rw [if_pos hov] at f2
              have ov := OV.out hov
              clear OV DL LE SW DA
              have ov' : (mb : Int) < (ag : Int) := by omega
              have ov2 : decide ((mb : Int) < (ag : Int)) = true := decide_eq_true ov'
              have ov3 : decide (mb < ag) = true := decide_eq_true ov
              go_wp2_with (go_at_call 10; refine (f2.out _ _ _ (by intro j u hu; exact ⟨_, rfl, by rw [add_zero_lit, Nat.zero_add]; exact new_cell hu⟩) (HT2.out.below ((Below.refl _ _).alloc (Nat.le_refl _) _) HT2.out.lt)).mono ?_; rintro e w' ⟨rfl, rfl⟩)
              go_big_quiet (fail)
              go_wp2
              go_ret
              first | exact ⟨rfl, hB1.out.alloc hB1.out.size _⟩ | exact ⟨rfl, bdrewN (hB1.out.alloc hB1.out.size _) _⟩ | exact ⟨rfl, (hB1.out.alloc hB1.out.size _).drew⟩
            · rw [if_neg hov] at f2
              have le := LE.out hov
              have T3 := rem_nat DA.out
              have T4 := rem_nat DL.out
              have T5 := mul_nat SW.out le
              clear OV DL LE SW DA
              generalize a * bg = L at *
              go_wp2_with (go_at_call 10; refine (f2.out _ _ _ (by intro j u hu; exact ⟨_, rfl, by rw [add_zero_lit, Nat.zero_add]; exact new_cell hu⟩) (HT2.out.below ((Below.refl _ _).alloc (Nat.le_refl _) _) HT2.out.lt)).mono ?_; rintro e w' ⟨rfl, rfl⟩)
              go_big_quiet (fail)
              go_wp2
              go_ret
              first | exact ⟨rfl, hB1.out.alloc hB1.out.size _⟩ | exact ⟨rfl, bdrewN (hB1.out.alloc hB1.out.size _) _⟩ | exact ⟨rfl, (hB1.out.alloc hB1.out.size _).drew⟩
        · clear DG
          by_cases hov : 4503599627370496 / a < bg
          · rw [if_pos hov] at f2
            have ov := OV.out hov
            clear OV DL LE SW DA
            have ov' : (mb : Int) < (ag : Int) := by omega
            have ov2 : decide ((mb : Int) < (ag : Int)) = true := decide_eq_true ov'
            have ov3 : decide (mb < ag) = true := decide_eq_true ov
            go_wp2_with (go_at_call 10; refine (f2.out _ _ _ (by intro j u hu; exact ⟨_, rfl, by rw [add_zero_lit, Nat.zero_add]; exact new_cell hu⟩) (HT2.out.below ((Below.refl _ _).alloc (Nat.le_refl _) _) HT2.out.lt)).mono ?_; rintro e w' ⟨rfl, rfl⟩)
            go_big_quiet (fail)
            go_wp2
            go_ret
            first | exact ⟨rfl, hB1.out.alloc hB1.out.size _⟩ | exact ⟨rfl, bdrewN (hB1.out.alloc hB1.out.size _) _⟩ | exact ⟨rfl, (hB1.out.alloc hB1.out.size _).drew⟩
          · rw [if_neg hov] at f2
            have le := LE.out hov
            have T3 := rem_nat DA.out
            have T4 := rem_nat DL.out
            have T5 := mul_nat SW.out le
            clear OV DL LE SW DA
            generalize a * bg = L at *
            go_wp2_with (go_at_call 10; refine (f2.out _ _ _ (by intro j u hu; exact ⟨_, rfl, by rw [add_zero_lit, Nat.zero_add]; exact new_cell hu⟩) (HT2.out.below ((Below.refl _ _).alloc (Nat.le_refl _) _) HT2.out.lt)).mono ?_; rintro e w' ⟨rfl, rfl⟩)
            go_big_quiet (fail)
            go_wp2
            go_ret
            first | exact ⟨rfl, hB1.out.alloc hB1.out.size _⟩ | exact ⟨rfl, bdrewN (hB1.out.alloc hB1.out.size _) _⟩ | exact ⟨rfl, (hB1.out.alloc hB1.out.size _).drew⟩
  · have hg : gcdOf a b = (0, 1) := by unfold gcdOf; rw [if_neg hG]
    rw [hg] at f1
    clear hG hg
    unfold RetT at *
    go_enter Tryd.func5, Tryd.ntmps5
    go_wp2_with fail
    refine (f0.out _ HT.out).mono ?_
    rintro e w1 ⟨rfl, hb⟩
    have hB1 := Lib.hid hb
    have HT2 := Lib.hid (HT.out.below hb HT.out.lt)
    clear hb
    go_wp2_with fail
    refine (f1.out _ HT2.out).mono ?_
    rintro e w2 ⟨rfl, rfl⟩
    go_wp2
    go_ret
    exact ⟨rfl, hB1.out⟩
end Go.Proofs.YtpdanmdpaanafaaDoor

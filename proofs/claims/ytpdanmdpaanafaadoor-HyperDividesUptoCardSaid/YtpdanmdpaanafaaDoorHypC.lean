/- Packages hyper and vergeref35: the walks of Lcm. Conditions: lists that read; the de Bruijn table as its initialiser lays it. -/
import Derived.Test.YtpdanmdpaanafaaDoorHypB
namespace Go.Proofs.YtpdanmdpaanafaaDoor
open Go.RowKit

theorem okN_all {l : List Int} (h : ∀ j, j < l.length → okN (l.getD j 0) = true) : l.all okN = true := by
  rw [List.all_eq_true]
  intro x hx
  obtain ⟨i, hi, rfl⟩ := List.getElem_of_mem hx
  simpa [List.getD, hi] using h i hi
theorem okN_no {l : List Int} {k : Nat} (hk : k < l.length) (h : okN (l.getD k 0) = false) : lcmOf l = (0, 1) := by
  have : l.all okN = false := by
    rw [List.all_eq_false]
    refine ⟨_, List.getElem_mem hk, ?_⟩
    simp [List.getD, hk] at h
    simp [h]
  unfold lcmOf
  rw [this]; rfl
theorem lcm_drop {l : List Int} {k : Nat} (hk : k < l.length) : (l.drop k).map Int.toNat = (l.getD k 0).toNat :: (l.drop (k + 1)).map Int.toNat := by
  have e : l.getD k 0 = l[k] := by simp [List.getD, hk]
  rw [List.drop_eq_getElem_cons hk, List.map_cons, e]
theorem by_le {all n : Nat} (h : ¬ 4503599627370496 / all < n / Nat.gcd all n) : all * (n / Nat.gcd all n) ≤ 4503599627370496 :=
  Nat.le_trans (Nat.mul_le_mul_left _ (by omega)) (Nat.mul_div_le _ _)
set_option maxHeartbeats 2000000 in
theorem lcm_any (l : List Int) (hl : l.length ≤ 1048576) (A : Option Addr) (c : Nat) (w : World) (hr : Rd w A (l.map (.int .i64))) (hT : Tab w) :
    Calls Tryd.prog 10 #[.slice A l.length c] w (RetT (lcmOf l) w) := by
  have HT := Lib.hid hT
  clear hT
  have Hr := Lib.hid hr
  clear hr
  go_enter Tryd.func10, Tryd.ntmps10
  go_wp2
  go_loop [12] (fun i => ∃ k : Nat, k ≤ l.length ∧ i = .int .i64 k ∧ Hid (∀ j, j < k → okN (l.getD j 0) = true)) (fun i => l.length - (intOf i).toNat)
  case atStart => exact ⟨0, by omega, rfl, fun j hj => absurd hj (Nat.not_lt_zero _)⟩
  case round =>
    obtain ⟨k, hk, rfl, hm⟩ := hrel
    by_cases hlt : k < l.length
    · obtain ⟨a, rfl, h1⟩ := Hr.out.int hlt
      generalize hx : l.getD k 0 = x at *
      have Hx := Lib.hid hx
      clear hx
      by_cases t1 : x < 1
      · go_wp2
        go_ret2
        exact RetT.of (okN_no hlt (by rw [Hx.out]; simp [okN]; omega))
      · by_cases t2 : 4503599627370496 < x
        · go_wp2
          go_ret2
          exact RetT.of (okN_no hlt (by rw [Hx.out]; simp [okN]; omega))
        · go_wp2
          refine ⟨⟨k + 1, by omega, by go_num, fun j hj => ?_⟩, by simp [intOf]; omega⟩
          by_cases he : j = k
          · subst he; rw [Hx.out]; simp [okN]; omega
          · exact hm.out j (by omega)
    · obtain rfl : k = l.length := by omega
      have HL : Hid (lcmOf l = lcmRes (lcmGo 1 (l.map Int.toNat))) := Lib.hid (by unfold lcmOf; rw [okN_all hm.out]; rfl)
      go_wp2
      go_loop [6, 25] (fun s i => ∃ k all : Nat, k ≤ l.length ∧ i = .int .i64 k ∧ s = .int .i64 all ∧ 1 ≤ all ∧ all ≤ 4503599627370496 ∧ Hid (lcmGo 1 (l.map Int.toNat) = lcmGo all ((l.drop k).map Int.toNat))) (fun _ i => l.length - (intOf i).toNat)
      case atStart => exact ⟨0, 1, by omega, rfl, rfl, by omega, by omega, rfl⟩
      case round =>
        obtain ⟨k, all, hk, rfl, rfl, ha1, ha2, hg⟩ := hrel
        by_cases hlt : k < l.length
        · obtain ⟨a, rfl, h1⟩ := Hr.out.int hlt
          have hok := hm.out k hlt
          have HD := Lib.hid (lcm_drop hlt)
          generalize l.getD k 0 = x at *
          have hx : 1 ≤ x ∧ x ≤ 4503599627370496 := by unfold okN at hok; simpa using hok
          obtain ⟨n, rfl⟩ := Int.eq_ofNat_of_zero_le (show 0 ≤ x by omega)
          obtain ⟨n1, n2⟩ := hx
          have HD2 : Hid (lcmGo 1 (l.map Int.toNat) = if 4503599627370496 / all < n / Nat.gcd all n then none else lcmGo (all * (n / Nat.gcd all n)) ((l.drop (k + 1)).map Int.toNat)) := Lib.hid (by rw [hg.out, HD.out]; rfl)
          have hy0 := lcm_by (all := all) (n := n) (by omega) (by omega)
          have HV := Lib.hid (over_iff (M := 4503599627370496) (show 0 < all by omega) hy0)
          have HB := Lib.hid (by_le (all := all) (n := n))
          have hg0 : 0 < Nat.gcd all n := Nat.gcd_pos_of_pos_left _ (by omega)
          have hgl : Nat.gcd all n ≤ all := Nat.le_of_dvd (by omega) (Nat.gcd_dvd_left _ _)
          have E1 : (n : Int) / ((Nat.gcd all n : Nat) : Int) = ((n / Nat.gcd all n : Nat) : Int) := (Int.natCast_ediv _ _).symm
          have hyn : n / Nat.gcd all n ≤ n := Nat.div_le_self _ _
          have f1 := Lib.hid (fun w hT => divisor_any all n (by omega) (by omega) w hT)
          generalize hy : n / Nat.gcd all n = y at *
          generalize Nat.gcd all n = g at *
          have E2 : (4503599627370496 : Int) / (all : Int) = ((4503599627370496 / all : Nat) : Int) := (Int.natCast_ediv _ _).symm
          have hm1 : 4503599627370496 / all ≤ 4503599627370496 := Nat.div_le_self _ _
          have E3 : (4503599627370496 : Int) / (y : Int) = ((4503599627370496 / y : Nat) : Int) := (Int.natCast_ediv _ _).symm
          have hm2 : 4503599627370496 / y ≤ 4503599627370496 := Nat.div_le_self _ _
          generalize 4503599627370496 / all = m1 at *
          generalize 4503599627370496 / y = m2 at *
          have W1 : wrap64 (y : Int) = y := Go.IntWalk.wrap64_in _ (by omega)
          have W2 : wrap64 (m1 : Int) = m1 := Go.IntWalk.wrap64_in _ (by omega)
          have W3 : wrap64 (m2 : Int) = m2 := Go.IntWalk.wrap64_in _ (by omega)
          clear hy HD hok hg
          by_cases hov : m1 < y
          · have hG := Lib.hid (show lcmOf l = (0, 10) by rw [HL.out, HD2.out, if_pos hov]; rfl)
            go_wp2_with fail
            refine (f1.out _ HT.out).mono ?_
            rintro e w' ⟨rfl, rfl⟩
            have e1 := Lib.hid E1
            have e2 := Lib.hid E2
            have e3 := Lib.hid W1
            have e4 := Lib.hid W2
            clear E1 E2 E3 W1 W2 W3
            go_wp2_with (first | rw [e1.out, e3.out] | rw [e2.out, e4.out])
            all_goals try (exfalso; rename_i hx; rw [e2.out] at hx; omega; done)
            go_ret2
            exact RetT.of hG.out
          · have hG := Lib.hid (show lcmGo 1 (l.map Int.toNat) = lcmGo (all * y) ((l.drop (k + 1)).map Int.toNat) by rw [HD2.out, if_neg hov])
            have hle := HB.out hov
            have h1 : 1 ≤ all * y := Nat.mul_pos (by omega) hy0
            have E4 := Lib.hid (show wrap64 ((all : Int) * (y : Int)) = ((all * y : Nat) : Int) by
              rw [Int.natCast_mul]
              exact Go.IntWalk.wrap64_in _ (by have e : (all : Int) * (y : Int) = ((all * y : Nat) : Int) := (Int.natCast_mul _ _).symm
                                               omega))
            go_wp2_with fail
            refine (f1.out _ HT.out).mono ?_
            rintro e w' ⟨rfl, rfl⟩
            have e1 := Lib.hid E1
            have e2 := Lib.hid E2
            have e3 := Lib.hid W1
            have e4 := Lib.hid W2
            clear E1 E2 E3 W1 W2 W3
            go_wp2_with (first | rw [e1.out, e3.out] | rw [e2.out, e4.out])
            all_goals try (exfalso; rename_i hx; rw [e2.out] at hx; omega; done)
            refine ⟨⟨k + 1, all * y, by omega, by go_num, by (first | rw [E4.out] | rw [Int.natCast_mul]), h1, hle, hG.out⟩, by simp [intOf]; omega⟩
        · obtain rfl : k = l.length := by omega
          have hz := Lib.hid (show lcmOf l = ((all : Int), 0) by rw [HL.out, hg.out, List.drop_length]; rfl)
          go_wp2
          go_ret2
          exact RetT.of hz.out

set_option maxHeartbeats 2000000 in
theorem lcm35_any (l : List Int) (hl : l.length ≤ 1048576) (A : Option Addr) (c : Nat) (w : World) (hr : Rd w A (l.map (.int .i64))) :
    Calls Tryd.prog 11 #[.slice A l.length c] w (RetT (lcmOf l) w) := by
  have Hr := Lib.hid hr
  clear hr
  go_enter Tryd.func11, Tryd.ntmps11
  go_wp2
  go_loop [12] (fun i => ∃ k : Nat, k ≤ l.length ∧ i = .int .i64 k ∧ Hid (∀ j, j < k → okN (l.getD j 0) = true)) (fun i => l.length - (intOf i).toNat)
  case atStart => exact ⟨0, by omega, rfl, fun j hj => absurd hj (Nat.not_lt_zero _)⟩
  case round =>
    obtain ⟨k, hk, rfl, hm⟩ := hrel
    by_cases hlt : k < l.length
    · obtain ⟨a, rfl, h1⟩ := Hr.out.int hlt
      generalize hx : l.getD k 0 = x at *
      have Hx := Lib.hid hx
      clear hx
      by_cases t1 : x < 1
      · go_wp2
        go_ret2
        exact RetT.of (okN_no hlt (by rw [Hx.out]; simp [okN]; omega))
      · by_cases t2 : 4503599627370496 < x
        · go_wp2
          go_ret2
          exact RetT.of (okN_no hlt (by rw [Hx.out]; simp [okN]; omega))
        · go_wp2
          refine ⟨⟨k + 1, by omega, by go_num, fun j hj => ?_⟩, by simp [intOf]; omega⟩
          by_cases he : j = k
          · subst he; rw [Hx.out]; simp [okN]; omega
          · exact hm.out j (by omega)
    · obtain rfl : k = l.length := by omega
      have HL : Hid (lcmOf l = lcmRes (lcmGo 1 (l.map Int.toNat))) := Lib.hid (by unfold lcmOf; rw [okN_all hm.out]; rfl)
      go_wp2
      go_loop [6, 25] (fun s i => ∃ k all : Nat, k ≤ l.length ∧ i = .int .i64 k ∧ s = .int .i64 all ∧ 1 ≤ all ∧ all ≤ 4503599627370496 ∧ Hid (lcmGo 1 (l.map Int.toNat) = lcmGo all ((l.drop k).map Int.toNat))) (fun _ i => l.length - (intOf i).toNat)
      case atStart => exact ⟨0, 1, by omega, rfl, rfl, by omega, by omega, rfl⟩
      case round =>
        obtain ⟨k, all, hk, rfl, rfl, ha1, ha2, hg⟩ := hrel
        by_cases hlt : k < l.length
        · obtain ⟨a, rfl, h1⟩ := Hr.out.int hlt
          have hok := hm.out k hlt
          have HD := Lib.hid (lcm_drop hlt)
          generalize l.getD k 0 = x at *
          have hx : 1 ≤ x ∧ x ≤ 4503599627370496 := by unfold okN at hok; simpa using hok
          obtain ⟨n, rfl⟩ := Int.eq_ofNat_of_zero_le (show 0 ≤ x by omega)
          obtain ⟨n1, n2⟩ := hx
          have HD2 : Hid (lcmGo 1 (l.map Int.toNat) = if 4503599627370496 / all < n / Nat.gcd all n then none else lcmGo (all * (n / Nat.gcd all n)) ((l.drop (k + 1)).map Int.toNat)) := Lib.hid (by rw [hg.out, HD.out]; rfl)
          have hy0 := lcm_by (all := all) (n := n) (by omega) (by omega)
          have HV := Lib.hid (over_iff (M := 4503599627370496) (show 0 < all by omega) hy0)
          have HB := Lib.hid (by_le (all := all) (n := n))
          have hg0 : 0 < Nat.gcd all n := Nat.gcd_pos_of_pos_left _ (by omega)
          have hgl : Nat.gcd all n ≤ all := Nat.le_of_dvd (by omega) (Nat.gcd_dvd_left _ _)
          have E1 : (n : Int) / ((Nat.gcd all n : Nat) : Int) = ((n / Nat.gcd all n : Nat) : Int) := (Int.natCast_ediv _ _).symm
          have hyn : n / Nat.gcd all n ≤ n := Nat.div_le_self _ _
          have f1 := Lib.hid (fun w => divisor35_any n all (by omega) (by omega) w)
          generalize hy : n / Nat.gcd all n = y at *
          generalize Nat.gcd all n = g at *
          have E2 : (4503599627370496 : Int) / (all : Int) = ((4503599627370496 / all : Nat) : Int) := (Int.natCast_ediv _ _).symm
          have hm1 : 4503599627370496 / all ≤ 4503599627370496 := Nat.div_le_self _ _
          have E3 : (4503599627370496 : Int) / (y : Int) = ((4503599627370496 / y : Nat) : Int) := (Int.natCast_ediv _ _).symm
          have hm2 : 4503599627370496 / y ≤ 4503599627370496 := Nat.div_le_self _ _
          generalize 4503599627370496 / all = m1 at *
          generalize 4503599627370496 / y = m2 at *
          have W1 : wrap64 (y : Int) = y := Go.IntWalk.wrap64_in _ (by omega)
          have W2 : wrap64 (m1 : Int) = m1 := Go.IntWalk.wrap64_in _ (by omega)
          have W3 : wrap64 (m2 : Int) = m2 := Go.IntWalk.wrap64_in _ (by omega)
          clear hy HD hok hg
          by_cases hov : m1 < y
          · have hG := Lib.hid (show lcmOf l = (0, 10) by rw [HL.out, HD2.out, if_pos hov]; rfl)
            go_wp2_with fail
            refine (f1.out _).mono ?_
            rintro e w' ⟨rfl, rfl⟩
            have e1 := Lib.hid E1
            have e2 := Lib.hid E3
            have e3 := Lib.hid W1
            have e4 := Lib.hid W3
            clear E1 E2 E3 W1 W2 W3
            go_wp2_with (first | rw [e1.out, e3.out] | rw [e2.out, e4.out])
            all_goals try (exfalso; rename_i hx; rw [e2.out] at hx; have := HV.out; omega; done)
            go_ret2
            exact RetT.of hG.out
          · have hG := Lib.hid (show lcmGo 1 (l.map Int.toNat) = lcmGo (all * y) ((l.drop (k + 1)).map Int.toNat) by rw [HD2.out, if_neg hov])
            have hle := HB.out hov
            have h1 : 1 ≤ all * y := Nat.mul_pos (by omega) hy0
            have E4 := Lib.hid (show wrap64 ((all : Int) * (y : Int)) = ((all * y : Nat) : Int) by
              rw [Int.natCast_mul]
              exact Go.IntWalk.wrap64_in _ (by have e : (all : Int) * (y : Int) = ((all * y : Nat) : Int) := (Int.natCast_mul _ _).symm
                                               omega))
            go_wp2_with fail
            refine (f1.out _).mono ?_
            rintro e w' ⟨rfl, rfl⟩
            have e1 := Lib.hid E1
            have e2 := Lib.hid E3
            have e3 := Lib.hid W1
            have e4 := Lib.hid W3
            clear E1 E2 E3 W1 W2 W3
            go_wp2_with (first | rw [e1.out, e3.out] | rw [e2.out, e4.out])
            all_goals try (exfalso; rename_i hx; rw [e2.out] at hx; have := HV.out; omega; done)
            refine ⟨⟨k + 1, all * y, by omega, by go_num, by (first | rw [E4.out] | rw [Int.natCast_mul]), h1, hle, hG.out⟩, by simp [intOf]; omega⟩
        · obtain rfl : k = l.length := by omega
          have hz := Lib.hid (show lcmOf l = ((all : Int), 0) by rw [HL.out, hg.out, List.drop_length]; rfl)
          go_wp2
          go_ret2
          exact RetT.of hz.out
end Go.Proofs.YtpdanmdpaanafaaDoor

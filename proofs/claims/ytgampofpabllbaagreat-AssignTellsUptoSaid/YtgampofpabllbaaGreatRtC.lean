/- Packages demand and vergeref23: what loads come to; the walks of All. Conditions: lists that read. -/
import Derived.Test.YtgampofpabllbaaGreatRtB
import Derived.Test.YtgampofpabllbaaGreatKeepL
import Derived.Test.YtgampofpabllbaaGreatVetH
namespace Go.Proofs.YtgampofpabllbaaGreat
open Go.RowKit Go.Shelf
attribute [local go_sem] Oper.semAt_some

/-- What the first k loads come to. -/
def totK (l : List Ld) (t : Int) : Nat → Int
  | 0 => 0
  | k + 1 => totK l t k + mostN (l.getD k ld0) t * (l.getD k ld0).cost
def allWhy (l : List Ld) (t : Int) : Int := if ldsWhy l ≠ 0 then 2 else if inB t 0 4503599627370496 = false then 1 else if 4503599627370496 < totK l t l.length then 10 else 0
def allN (l : List Ld) (t : Int) : Int := if allWhy l t = 0 then totK l t l.length else 0
theorem ld_mem {l : List Ld} {k : Nat} (hk : k < l.length) : l.getD k ld0 ∈ l := by
  have e : l.getD k ld0 = l[k] := by simp [List.getD, hk]
  rw [e]; exact List.getElem_mem hk
theorem totK_nonneg {l : List Ld} {t : Int} (h : ∀ x ∈ l, ldOk x = true) (ht : 0 ≤ t ∧ t ≤ 4503599627370496) {j : Nat} : ∀ k, j ≤ k → k ≤ l.length → totK l t j ≤ totK l t k
  | 0, hj, _ => by obtain rfl : j = 0 := by omega
                   exact Int.le_refl _
  | k + 1, hj, hk => by
    by_cases e : j = k + 1
    · subst e; exact Int.le_refl _
    · have ih := totK_nonneg h ht (j := j) k (by omega) (by omega)
      have hx := h _ (ld_mem (by omega : k < l.length))
      have h1 := (most_in hx ht).1
      have h2 := (ld_in hx).2.1
      have h3 := Int.mul_nonneg h1 h2
      show _ ≤ totK l t k + _
      omega
theorem all_form {l : List Ld} {t : Int} (h : ldsWhy l ≠ 0) : allWhy l t = 2 ∧ allN l t = 0 := by
  have : allWhy l t = 2 := by unfold allWhy; rw [if_pos h]
  exact ⟨this, by unfold allN; rw [this, if_neg (by simp)]⟩
theorem all_range {l : List Ld} {t : Int} (h : ldsWhy l = 0) (ht : inB t 0 4503599627370496 = false) : allWhy l t = 1 ∧ allN l t = 0 := by
  have : allWhy l t = 1 := by unfold allWhy; rw [if_neg (by simp [h]), if_pos ht]
  exact ⟨this, by unfold allN; rw [this, if_neg (by simp)]⟩
theorem all_over {l : List Ld} {t : Int} (h : ldsWhy l = 0) (ht : inB t 0 4503599627370496 = true) {k : Nat} (hk : k ≤ l.length) (ho : 4503599627370496 < totK l t k) : allWhy l t = 10 ∧ allN l t = 0 := by
  have h1 := totK_nonneg (lds_in h).2 (inB_true.1 ht) (j := k) l.length hk (Nat.le_refl _)
  have : allWhy l t = 10 := by unfold allWhy; rw [if_neg (by simp [h]), if_neg (by simp [ht]), if_pos (by omega)]
  exact ⟨this, by unfold allN; rw [this, if_neg (by simp)]⟩
theorem all_ok {l : List Ld} {t : Int} (h : ldsWhy l = 0) (ht : inB t 0 4503599627370496 = true) (ho : totK l t l.length ≤ 4503599627370496) : allWhy l t = 0 ∧ allN l t = totK l t l.length := by
  have : allWhy l t = 0 := by unfold allWhy; rw [if_neg (by simp [h]), if_neg (by simp [ht]), if_neg (by omega)]
  exact ⟨this, by unfold allN; rw [this, if_pos rfl]⟩
/-- Two numbers, and below the old heap nothing turned. -/
def RetN (n y : Int) (w : World) (e : Ending) (w' : World) : Prop := e = .returned (.tuple #[.int .i64 n, .int .i64 y]) ∧ Below w.heap.size w w'

set_option maxHeartbeats 4000000 in
set_option maxRecDepth 100000 in
theorem all23_any (l : List Ld) (t : Int) (hl : l.length ≤ 1048576) (A : Option Addr) (c : Nat) (w : World) (hr : Rd w A (l.flatMap ldc)) :
    Calls Tryz.prog 123 #[.slice A l.length c, .int .i64 t] w (RetN (allN l t) (allWhy l t) w) := by
  have Hr := Lib.hid hr
  have f1 := Lib.hid (fun w hr => lcheck23_any l hl A c w hr)
  have f2 := Lib.hid (fun w => time01_any t w)
  have Hf : Hid (ldsWhy l ≠ 0 → allWhy l t = 2 ∧ allN l t = 0) := Lib.hid all_form
  have Hg : Hid (ldsWhy l = 0 → inB t 0 4503599627370496 = false → allWhy l t = 1 ∧ allN l t = 0) := Lib.hid all_range
  have Ho : Hid (ldsWhy l = 0 → inB t 0 4503599627370496 = true → ∀ k, k ≤ l.length → 4503599627370496 < totK l t k → allWhy l t = 10 ∧ allN l t = 0) := Lib.hid (fun h h2 k hk h3 => all_over h h2 hk h3)
  have Hk : Hid (ldsWhy l = 0 → inB t 0 4503599627370496 = true → totK l t l.length ≤ 4503599627370496 → allWhy l t = 0 ∧ allN l t = totK l t l.length) := Lib.hid all_ok
  have Hin : Hid (ldsWhy l = 0 → ∀ x ∈ l, ldOk x = true) := Lib.hid (fun h => (lds_in h).2)
  have H02 := lds_02 l
  have Ht : Hid (inB t 0 4503599627370496 = true → 0 ≤ t ∧ t ≤ 4503599627370496) := Lib.hid (fun h => inB_true.1 h)
  clear hr
  generalize allN l t = N at *
  generalize allWhy l t = Y at *
  generalize ldsWhy l = y at *
  generalize inB t 0 4503599627370496 = b at *
  go_enter Tryz.func123, Tryz.ntmps123
  go_wp2_with fail
  refine (f1.out _ Hr.out).mono ?_
  rintro e W ⟨rfl, hb⟩
  have HBW := Lib.hid hb
  clear hb f1
  rcases H02 with rfl | rfl
  · clear Hf
    cases b with
    | false =>
      obtain ⟨rfl, rfl⟩ := Hg.out (by first | rfl | trivial) (by first | rfl | trivial)
      clear Hg Ho Hk Hin Ht
      go_wp2_with (refine (f2.out _).mono ?_; rintro e w' ⟨rfl, rfl⟩)
      go_ret2
      exact ⟨rfl, HBW.out⟩
    | true =>
      obtain ⟨t1, t2⟩ := Ht.out (by first | rfl | trivial)
      have Ho2 := Lib.hid (Ho.out (by first | rfl | trivial) (by first | rfl | trivial))
      have Hk2 := Lib.hid (Hk.out (by first | rfl | trivial) (by first | rfl | trivial))
      have Hi2 := Lib.hid (Hin.out (by first | rfl | trivial))
      have HM := Lib.hid (fun j k h1 h2 => totK_nonneg Hi2.out ⟨t1, t2⟩ (j := j) k h1 h2)
      clear Hg Ho Hk Hin Ht
      go_wp2_with (refine (f2.out _).mono ?_; rintro e w' ⟨rfl, rfl⟩)
      go_loopw [6, 19] (fun s i wr => ∃ k : Nat, k ≤ l.length ∧ i = .int .i64 k ∧ s = .int .i64 (totK l t k) ∧ totK l t k ≤ 4503599627370496 ∧ Below W.heap.size W wr) (fun _ i _ => l.length - (intOf i).toNat)
      case atStart => exact ⟨0, by omega, rfl, rfl, (show (0 : Int) ≤ 4503599627370496 by omega), Below.refl _ _⟩
      case round =>
        obtain ⟨k, hk, rfl, rfl, hle, hB⟩ := hrel
        have sB := hB.size
        have HB := Lib.hid hB
        have h0 : 0 ≤ totK l t k := HM.out 0 k (Nat.zero_le _) hk
        by_cases hlt : k < l.length
        · obtain ⟨a, x, rfl, hx2, g0, g1, g2, g3⟩ := (Hr.out.below (HBW.out.trans (hB.mono HBW.out.size))).ldAt hlt
          have hx := Hi2.out _ (ld_mem hlt)
          rw [hx2] at hx
          have HS : Hid (totK l t (k + 1) = totK l t k + mostN x t * x.cost) := Lib.hid (by rw [← hx2]; rfl)
          obtain ⟨n1, n2⟩ := most_in hx ⟨t1, t2⟩
          obtain ⟨c1, c2⟩ := (ld_in hx).2
          have f3 := Lib.hid (fun w => most22_any x t (ld_in hx).1 ⟨t1, t2⟩ w)
          clear hB hx hx2
          obtain ⟨x0, x1, x2, x3⟩ := x
          unfold cvv at f3
          dsimp only at f3 g0 g1 g2 g3 HS n1 n2 c1 c2
          generalize mostN ⟨x0, x1, x2, x3⟩ t = n at *
          have HS2 := Lib.hid (Ho2.out (k + 1) hlt)
          rw [HS.out] at HS2
          have hT : Hid (totK l t k = totK l t k) := Lib.hid rfl
          generalize hT0 : totK l t k = T at *
          clear hT hT0
          go_wp2_with fail
          refine (f3.out _).mono ?_
          rintro e w4 ⟨rfl, hb4⟩
          have HB4 := Lib.hid ((HB.out.alloc sB _).trans (hb4.mono (by simp; omega)))
          have HM4 := Lib.hid (box_keep (heap_alloc_new wr (.cells #[.int .i64 x0, .int .i64 x1, .int .i64 x2, .int .i64 x3] 109)) hb4)
          clear hb4
          obtain ⟨mx4, my4⟩ := box_rules HM4.out
          by_cases hc0 : 0 < x3
          · have HP := Lib.hid (over_pos (n := n) (lim := 4503599627370496 - T) hc0)
            by_cases ho : 4503599627370496 < T + n * x3
            · have hq : (4503599627370496 - T) / x3 < n := HP.out.2 (by omega)
              obtain ⟨rfl, rfl⟩ := HS2.out ho
              clear HP ho HS2
              go_wp2
              go_ret2
              exact ⟨rfl, HBW.out.trans (HB4.out.mono HBW.out.size)⟩
            · have hq : ¬ (4503599627370496 - T) / x3 < n := fun h => ho (by have := HP.out.1 h; omega)
              have hm : 0 ≤ n * x3 := Int.mul_nonneg n1 c1
              have e1 : IntKind.i64.wrap (n * x3) = n * x3 := IntWalk.i64_in _ (by omega)
              clear HP HS2
              go_wp2
              go_roundw
              case rel => exact ⟨k + 1, by omega, by go_num, by rw [HS.out], by rw [HS.out]; omega, HB4.out⟩
              case measure => simp [intOf]; omega
          · obtain rfl : x3 = 0 := by omega
            clear HS2
            rw [Int.mul_zero] at HS
            go_wp2
            go_roundw
            case rel => exact ⟨k + 1, by omega, by go_num, by rw [HS.out]; simp, by rw [HS.out]; omega, HB4.out⟩
            case measure => simp [intOf]; omega
        · obtain rfl : k = l.length := by omega
          obtain ⟨rfl, rfl⟩ := Hk2.out hle
          clear hB
          go_wp2
          go_ret2
          exact ⟨rfl, HBW.out.trans (HB.out.mono HBW.out.size)⟩
  · obtain ⟨rfl, rfl⟩ := Hf.out (by first | decide | trivial)
    clear Hg Ho Hk Hin Ht Hf
    go_wp2
    go_ret2
    exact ⟨rfl, HBW.out⟩
end Go.Proofs.YtgampofpabllbaaGreat

/- Packages chart and vergeref39: marks and runs as data; the walks of time, somebody, right. Conditions: lists that read. -/
import Derived.Test.YtlmhgfgdkenpfaaDoorKitK
import Derived.IntWalk
import Derived.Below
namespace Go.Proofs.YtlmhgfgdkenpfaaDoor
open Go.RowKit

/-- A mark's data. -/
structure Mk where
  time : Int
  kind : Int
  who : Int
  a : Int
def mkv (x : Mk) : Value := .agg #[.int .i64 x.time, .int .u8 x.kind, .int .i64 x.who, .int .i64 x.a]
def mkc (x : Mk) : List Value := [.int .i64 x.time, .int .u8 x.kind, .int .i64 x.who, .int .i64 x.a]
def mk0 : Mk := ⟨0, 0, 0, 0⟩
/-- A run's data. -/
structure Rn where
  kind : Int
  who : Int
  ff : Int
  tt : Int
deriving DecidableEq
def rnv (x : Rn) : Value := .agg #[.int .u8 x.kind, .int .i64 x.who, .int .i64 x.ff, .int .i64 x.tt]
def rnc (x : Rn) : List Value := [.int .u8 x.kind, .int .i64 x.who, .int .i64 x.ff, .int .i64 x.tt]
def rn0 : Rn := ⟨0, 0, 0, 0⟩
theorem add_plus (a : Addr) (n j : Nat) (hj : 0 < j) : a.add (n + j) = ⟨(a.add n).block, (a.add n).off + j, none⟩ := by
  unfold Addr.add
  split <;> split <;> first | (exfalso; omega) | simp_all <;> omega
theorem flatMap_get {α : Type} {f : α → List Value} {k : Nat} (hk : ∀ x, (f x).length = k) (d : α) : ∀ (l : List α) (i : Nat), i < l.length → ∀ j, j < k → (l.flatMap f)[i * k + j]? = (f (l.getD i d))[j]?
  | x :: l, 0, _, j, hj => by
    rw [List.flatMap_cons, Nat.zero_mul, Nat.zero_add, List.getElem?_append_left (by rw [hk]; exact hj)]
    rfl
  | x :: l, i + 1, hi, j, hj => by
    rw [List.flatMap_cons, List.getElem?_append_right (by rw [hk, Nat.add_mul]; omega), hk, show (i + 1) * k + j - k = i * k + j by rw [Nat.add_mul]; omega]
    exact flatMap_get hk d l i (by simpa using hi) j hj
theorem Rd.mkAt {w : World} {A : Option Addr} {ts : List Mk} (h : Rd w A (ts.flatMap mkc)) {k : Nat} (hk : k < ts.length) : ∃ a x, A = some a ∧ ts.getD k mk0 = x ∧
    w.cell? (a.add (k * 4)) = some (.int .i64 x.time) ∧ w.cell? ⟨(a.add (k * 4)).block, (a.add (k * 4)).off + 1, none⟩ = some (.int .u8 x.kind) ∧
    w.cell? ⟨(a.add (k * 4)).block, (a.add (k * 4)).off + 2, none⟩ = some (.int .i64 x.who) ∧ w.cell? ⟨(a.add (k * 4)).block, (a.add (k * 4)).off + 3, none⟩ = some (.int .i64 x.a) := by
  have g := flatMap_get (f := mkc) (k := 4) (fun _ => rfl) mk0 ts k hk
  generalize ts.getD k mk0 = x at *
  obtain ⟨a, rfl, h0⟩ := h _ _ (g 0 (by omega))
  obtain ⟨_, ha1, h1⟩ := h _ _ (g 1 (by omega)); cases ha1
  obtain ⟨_, ha1, h2⟩ := h _ _ (g 2 (by omega)); cases ha1
  obtain ⟨_, ha1, h3⟩ := h _ _ (g 3 (by omega)); cases ha1
  rw [Nat.add_zero] at h0
  rw [add_plus _ _ _ (by omega)] at h1 h2 h3
  exact ⟨a, x, rfl, rfl, h0, h1, h2, h3⟩
theorem Rd.rnAt {w : World} {A : Option Addr} {ts : List Rn} (h : Rd w A (ts.flatMap rnc)) {k : Nat} (hk : k < ts.length) : ∃ a x, A = some a ∧ ts.getD k rn0 = x ∧
    w.cell? (a.add (k * 4)) = some (.int .u8 x.kind) ∧ w.cell? ⟨(a.add (k * 4)).block, (a.add (k * 4)).off + 1, none⟩ = some (.int .i64 x.who) ∧
    w.cell? ⟨(a.add (k * 4)).block, (a.add (k * 4)).off + 2, none⟩ = some (.int .i64 x.ff) ∧ w.cell? ⟨(a.add (k * 4)).block, (a.add (k * 4)).off + 3, none⟩ = some (.int .i64 x.tt) := by
  have g := flatMap_get (f := rnc) (k := 4) (fun _ => rfl) rn0 ts k hk
  generalize ts.getD k rn0 = x at *
  obtain ⟨a, rfl, h0⟩ := h _ _ (g 0 (by omega))
  obtain ⟨_, ha1, h1⟩ := h _ _ (g 1 (by omega)); cases ha1
  obtain ⟨_, ha1, h2⟩ := h _ _ (g 2 (by omega)); cases ha1
  obtain ⟨_, ha1, h3⟩ := h _ _ (g 3 (by omega)); cases ha1
  rw [Nat.add_zero] at h0
  rw [add_plus _ _ _ (by omega)] at h1 h2 h3
  exact ⟨a, x, rfl, rfl, h0, h1, h2, h3⟩
theorem drop_at {α : Type} {d : α} : ∀ {l : List α} {k : Nat}, k < l.length → l.drop k = l.getD k d :: l.drop (k + 1)
  | x :: l, 0, _ => rfl
  | x :: l, k + 1, h => by
    show l.drop k = _
    rw [drop_at (d := d) (by simpa using h)]
    rfl

def tmB (t : Int) : Bool := decide (0 ≤ t ∧ t ≤ 4503599627370496)
def sbB (m : Mk) : Bool := decide ((0 ≤ m.a ∧ m.a < 4) ∧ (0 ≤ m.who ∧ m.who ≤ 63) ∧ (m.a = 0 → m.who = 0))
def rgGo (now : Int) : Int → List Mk → Bool
  | _, [] => true
  | p, m :: l => if m.time < p ∨ now < m.time ∨ (m.kind = 11 ∧ sbB m = false) then false else rgGo now m.time l
def rgB (ms : List Mk) (start now : Int) : Bool := decide (tmB start = true ∧ tmB now = true ∧ start ≤ now ∧ rgGo now start ms = true)
theorem time_any (t : Int) (w : World) : Calls Tryd.prog 24 #[.int .i64 t] w fun e w' => e = .returned (.bool (tmB t)) ∧ w = w' := by
  unfold tmB
  by_cases h0 : t < 0
  · rw [decide_eq_false (by omega)]
    go_enter Tryd.func24, Tryd.ntmps24
    go_wp2
    go_ret
    exact ⟨rfl, rfl⟩
  · have h0' : 0 ≤ t := by omega
    by_cases h1 : t ≤ 4503599627370496
    · rw [decide_eq_true (by omega)]
      go_enter Tryd.func24, Tryd.ntmps24
      go_wp2
      go_ret
      exact ⟨rfl, rfl⟩
    · rw [decide_eq_false (by omega)]
      go_enter Tryd.func24, Tryd.ntmps24
      go_wp2
      go_ret
      exact ⟨rfl, rfl⟩
theorem time01_any (t : Int) (w : World) : Calls Tryd.prog 26 #[.int .i64 t] w fun e w' => e = .returned (.bool (tmB t)) ∧ w = w' := by
  unfold tmB
  by_cases h0 : t < 0
  · rw [decide_eq_false (by omega)]
    go_enter Tryd.func26, Tryd.ntmps26
    go_wp2
    go_ret
    exact ⟨rfl, rfl⟩
  · have h0' : 0 ≤ t := by omega
    by_cases h1 : t ≤ 4503599627370496
    · rw [decide_eq_true (by omega)]
      go_enter Tryd.func26, Tryd.ntmps26
      go_wp2
      go_ret
      exact ⟨rfl, rfl⟩
    · rw [decide_eq_false (by omega)]
      go_enter Tryd.func26, Tryd.ntmps26
      go_wp2
      go_ret
      exact ⟨rfl, rfl⟩
set_option maxHeartbeats 2000000 in
theorem somebody_any (t k o a : Int) (w : World) : Calls Tryd.prog 28 #[mkv ⟨t, k, o, a⟩] w fun e w' => e = .returned (.bool (sbB ⟨t, k, o, a⟩)) ∧ Below w.heap.size w w' := by
  unfold sbB mkv
  dsimp only
  by_cases h0 : a < 0
  · rw [decide_eq_false (by omega)]
    go_enter Tryd.func28, Tryd.ntmps28
    go_wp2
    go_ret
    exact ⟨rfl, (Below.refl _ _).alloc (Nat.le_refl _) _⟩
  by_cases h1 : 4 ≤ a
  · rw [decide_eq_false (by omega)]
    have h0' : 0 ≤ a := by omega
    go_enter Tryd.func28, Tryd.ntmps28
    go_wp2
    go_ret
    exact ⟨rfl, (Below.refl _ _).alloc (Nat.le_refl _) _⟩
  by_cases h2 : o < 0
  · rw [decide_eq_false (by omega)]
    go_enter Tryd.func28, Tryd.ntmps28
    go_wp2
    go_ret
    exact ⟨rfl, (Below.refl _ _).alloc (Nat.le_refl _) _⟩
  by_cases h3 : 63 < o
  · rw [decide_eq_false (by omega)]
    have h2' : 0 ≤ o := by omega
    go_enter Tryd.func28, Tryd.ntmps28
    go_wp2
    go_ret
    exact ⟨rfl, (Below.refl _ _).alloc (Nat.le_refl _) _⟩
  by_cases h4 : a = 0
  · subst h4
    have ha : ((0 : Int) != 0) = false := by decide
    by_cases h5 : o = 0
    · subst h5
      rw [decide_eq_true (by omega)]
      have ho : ((0 : Int) == 0) = true := by decide
      go_enter Tryd.func28, Tryd.ntmps28
      go_wp2
      go_ret
      exact ⟨rfl, (Below.refl _ _).alloc (Nat.le_refl _) _⟩
    · rw [decide_eq_false (by omega)]
      have ho : (o == 0) = false := by simpa using h5
      go_enter Tryd.func28, Tryd.ntmps28
      go_wp2
      go_ret
      exact ⟨rfl, (Below.refl _ _).alloc (Nat.le_refl _) _⟩
  · rw [decide_eq_true (by omega)]
    have ha : (a != 0) = true := by simpa using h4
    go_enter Tryd.func28, Tryd.ntmps28
    go_wp2
    go_ret
    exact ⟨rfl, (Below.refl _ _).alloc (Nat.le_refl _) _⟩
set_option maxHeartbeats 4000000 in
theorem right_any (ms : List Mk) (A : Option Addr) (c : Nat) (start now : Int) (w : World) (hl : ms.length ≤ 1048576) (hr : Rd w A (ms.flatMap mkc)) :
    Calls Tryd.prog 18 #[.slice A ms.length c, .int .i64 start, .int .i64 now] w fun e w' => e = .returned (.bool (rgB ms start now)) ∧ Below w.heap.size w w' := by
  have c1 := Lib.hid (fun w => time_any start w)
  have c2 := Lib.hid (fun w => time_any now w)
  have HR := Lib.hid hr
  clear hr
  have HB : Hid (rgB ms start now = decide (tmB start = true ∧ tmB now = true ∧ start ≤ now ∧ rgGo now start ms = true)) := Lib.hid rfl
  have HL := Lib.hid hl
  generalize rgB ms start now = RR at *
  generalize tmB start = b1 at *
  generalize tmB now = b2 at *
  go_enter Tryd.func18, Tryd.ntmps18
  cases b1 with
  | false =>
    have HB1 := Lib.hid (show RR = false by rw [HB.out]; exact decide_eq_false (by simp))
    go_wp2_with (first | ((with_reducible refine (c1.out _).mono ?_); rintro e w' ⟨rfl, rfl⟩) | ((with_reducible refine (c2.out _).mono ?_); rintro e w' ⟨rfl, rfl⟩))
    go_ret
    exact ⟨by (rw [HB1.out]; try rfl), Below.refl _ _⟩
  | true =>
  cases b2 with
  | false =>
    have HB1 := Lib.hid (show RR = false by rw [HB.out]; exact decide_eq_false (by simp))
    go_wp2_with (first | ((with_reducible refine (c1.out _).mono ?_); rintro e w' ⟨rfl, rfl⟩) | ((with_reducible refine (c2.out _).mono ?_); rintro e w' ⟨rfl, rfl⟩))
    go_ret
    exact ⟨by (rw [HB1.out]; try rfl), Below.refl _ _⟩
  | true =>
  by_cases hsn : now < start
  · have HB1 := Lib.hid (show RR = false by rw [HB.out]; exact decide_eq_false (by simp; omega))
    go_wp2_with (first | ((with_reducible refine (c1.out _).mono ?_); rintro e w' ⟨rfl, rfl⟩) | ((with_reducible refine (c2.out _).mono ?_); rintro e w' ⟨rfl, rfl⟩))
    go_ret
    exact ⟨by (rw [HB1.out]; try rfl), Below.refl _ _⟩
  have HB1 := Lib.hid (show rgGo now start (ms.drop 0) = RR by rw [HB.out]; simp; omega)
  clear HB
  go_wp2_with (first | ((with_reducible refine (c1.out _).mono ?_); rintro e w' ⟨rfl, rfl⟩) | ((with_reducible refine (c2.out _).mono ?_); rintro e w' ⟨rfl, rfl⟩))
  go_loopw [7, 26] (fun s i wr => ∃ (k : Nat) (p : Int), k ≤ ms.length ∧ i = .int .i64 k ∧ s = .int .i64 p ∧ Hid (rgGo now p (ms.drop k) = RR) ∧ Hid (Below w.heap.size w wr)) (fun _ i _ => ms.length - (intOf i).toNat)
  case atStart => exact ⟨0, start, by omega, rfl, rfl, HB1, Lib.hid (Below.refl _ _)⟩
  case round =>
    obtain ⟨k, p, hk, rfl, rfl, HG, hSr⟩ := hrel
    by_cases hlt : k < ms.length
    · obtain ⟨a, x, rfl, hx, g0, g1, g2, g3⟩ := (HR.out.below hSr.out).mkAt hlt
      have HG2 := Lib.hid (show (if x.time < p ∨ now < x.time ∨ (x.kind = 11 ∧ sbB x = false) then false else rgGo now x.time (ms.drop (k + 1))) = RR by rw [← HG.out, drop_at (d := mk0) hlt, hx]; rfl)
      clear hx HG
      obtain ⟨x0, x1, x2, x3⟩ := x
      have c3 := Lib.hid (fun w => somebody_any x0 x1 x2 x3 w)
      unfold mkv at c3
      generalize sbB ⟨x0, x1, x2, x3⟩ = sb at *
      dsimp only at *
      by_cases h0 : x0 < p
      · have HN := Lib.hid (show RR = false by rw [← HG2.out, if_pos (.inl h0)])
        go_wp2
        go_ret
        exact ⟨by (rw [HN.out]; try rfl), hSr.out.alloc hSr.out.size _⟩
      by_cases h1 : now < x0
      · have HN := Lib.hid (show RR = false by rw [← HG2.out, if_pos (.inr (.inl h1))])
        go_wp2
        go_ret
        exact ⟨by (rw [HN.out]; try rfl), hSr.out.alloc hSr.out.size _⟩
      by_cases h2 : x1 = 11
      · subst h2
        have hk1 : ((11 : Int) == 11) = true := by decide
        cases sb with
        | false =>
          have HN := Lib.hid (show RR = false by rw [← HG2.out, if_pos (.inr (.inr ⟨rfl, rfl⟩))])
          go_wp2_with (refine (c3.out _).mono ?_; rintro e w2 ⟨rfl, hb⟩; have hS2 := Lib.hid ((hSr.out.alloc hSr.out.size (.cells #[.int .i64 x0, .int .u8 11, .int .i64 x2, .int .i64 x3] 51)).trans (hb.mono (by have := hSr.out.size; simp; omega))); clear hb)
          go_ret
          exact ⟨by (rw [HN.out]; try rfl), hS2.out⟩
        | true =>
          have HN := Lib.hid (show rgGo now x0 (ms.drop (k + 1)) = RR by rw [← HG2.out, if_neg (by simp; omega)])
          go_wp2_with fail
          refine (c3.out _).mono ?_
          rintro e w2 ⟨rfl, hb⟩
          have hS2 := Lib.hid ((hSr.out.alloc hSr.out.size (.cells #[.int .i64 x0, .int .u8 11, .int .i64 x2, .int .i64 x3] 51)).trans (hb.mono (by have := hSr.out.size; simp; omega)))
          obtain ⟨cx, cy⟩ := box_rules (box_new hb)
          have lc := box_lt (box_new hb)
          clear hb
          go_wp2
          refine ⟨⟨k + 1, _, by omega, by go_num, rfl, HN, hS2⟩, ?_⟩
          simp [intOf]; omega
      · have hk1 : (x1 == 11) = false := by simpa using h2
        have HN := Lib.hid (show rgGo now x0 (ms.drop (k + 1)) = RR by rw [← HG2.out, if_neg (by omega)])
        go_wp2
        refine ⟨⟨k + 1, _, by omega, by go_num, rfl, HN, hSr.out.alloc hSr.out.size _⟩, ?_⟩
        simp [intOf]; omega
    · obtain rfl : k = ms.length := by omega
      have HN := Lib.hid (show RR = true by rw [← HG.out, List.drop_length]; rfl)
      go_wp2
      go_ret
      exact ⟨by (rw [HN.out]; try rfl), hSr.out⟩
end Go.Proofs.YtlmhgfgdkenpfaaDoor

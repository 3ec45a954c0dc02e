/- Package vergelaw39: the walk of lives. Conditions: the tables as laid. -/
import Derived.Test.YtlmhgfgdkenpfaaDoorChE
import Derived.Test.YtlmhgfgdkenpfaaDoorChG
import Derived.Test.YtlmhgfgdkenpfaaDoorChH
import Derived.Test.YtlmhgfgdkenpfaaDoorChL
namespace Go.Proofs.YtlmhgfgdkenpfaaDoor
open Go.RowKit Go.Shelf
attribute [local go_sem] Oper.semAt_some

theorem own_litK {w : World} {e : TypeId} {n k base : Nat} {cs : Array Value} (hb : base ≤ w.heap.size) (hk : cs.size = n * k) (hn : n ≤ 1000) : (w.alloc (.cells cs e)).ownsRow base e k (.slice (some ⟨w.heap.size, 0, none⟩) n n) n cs.toList :=
  ⟨by simp [hk], .inr ⟨w.heap.size, n, cs, rfl, hb, heap_alloc_new w _, Nat.le_refl _, by unfold maxLen; omega, by simp [hk], by rw [List.take_of_length_le (by simp [hk])]⟩⟩
def ms39 : List Mk := [⟨2, 11, 1, 1⟩, ⟨5, 11, 0, 0⟩]
def rn39 : List Rn := [⟨0, 0, 0, 2⟩, ⟨1, 1, 2, 5⟩, ⟨0, 0, 5, 9⟩]
def st39 : List UInt8 := [105, 58, 50, 32, 116, 49, 58, 51, 32, 105, 58, 52]
theorem it1 (n : Nat) (h : n < 10) : Lib.itoa (n : Int) = [UInt8.ofNat (48 + n)] := by
  unfold Lib.itoa
  rw [if_neg (by omega)]
  exact Lib.decDigits_one (by simpa using h)
theorem tx39 : txt rn39 = some st39 := by
  have h1 := it1 1 (by omega); have h2 := it1 2 (by omega); have h3 := it1 3 (by omega); have h4 := it1 4 (by omega)
  show (if okR ⟨0, 0, 0, 2⟩ = true then if okR ⟨1, 1, 2, 5⟩ = true then if okR ⟨0, 0, 5, 9⟩ = true then some (([] ++ tx1 0 ⟨0, 0, 0, 2⟩) ++ tx1 1 ⟨1, 1, 2, 5⟩ ++ tx1 2 ⟨0, 0, 5, 9⟩) else none else none else none) = _
  rw [if_pos (by decide), if_pos (by decide), if_pos (by decide)]
  have e1 : tx1 0 ⟨0, 0, 0, 2⟩ = [105, 58] ++ Lib.itoa ((2 : Nat) : Int) := rfl
  have e2 : tx1 1 ⟨1, 1, 2, 5⟩ = ([32, 116] ++ Lib.itoa ((1 : Nat) : Int)) ++ [58] ++ Lib.itoa ((3 : Nat) : Int) := rfl
  have e3 : tx1 2 ⟨0, 0, 5, 9⟩ = [32, 105, 58] ++ Lib.itoa ((4 : Nat) : Int) := rfl
  rw [e1, e2, e3, h1, h2, h3, h4]
  rfl
theorem tx4 : txt [⟨4, 0, 0, 0⟩] = none := by
  show (if okR ⟨4, 0, 0, 0⟩ = true then some ([] ++ tx1 0 ⟨4, 0, 0, 0⟩) else none) = none
  rw [if_neg (by decide)]
/-- What lives holds behind its first look at the time 4. -/
structure LvI (w : World) (P : Option Addr) (D : Nat) (X : World) : Prop where
  m : Rd X (some ⟨w.heap.size, 0, none⟩) (ms39.flatMap mkc)
  r : Rd X P (rn39.flatMap rnc)
  b : Below w.heap.size w X
  x : X.heap[D]? = some (.cells #[.int .u8 1, .int .i64 1, .int .i64 2, .int .i64 5] 33 (0, 0))
theorem LvI.next {w X Y : World} {P : Option Addr} {D : Nat} (h : LvI w P D X) (hb : Below X.heap.size X Y) : LvI w P D Y := ⟨h.m.below hb, h.r.below hb, h.b.trans (hb.mono h.b.size), box_keep h.x hb⟩
theorem LvI.alloc {w X : World} {P : Option Addr} {D : Nat} (h : LvI w P D X) (o : Obj) : LvI w P D (X.alloc o) := h.next ((Below.refl _ _).alloc (Nat.le_refl _) _)
set_option maxHeartbeats 4000000 in
set_option maxRecDepth 100000 in
theorem lives39_any (w : World) (ht1 : Lib.TabIs Tryd.prog w "verge/chart.letters" .u8 [105, 116, 98, 108]) (ht2 : Lib.TabIs Tryd.prog w "internal/strconv.uint64pow10" .u64 Lib.pow10Tab) :
    Calls Tryd.prog 8 #[] w fun e w' => e = .returned (.bool true) ∧ Below w.heap.size w w' := by
  have T1 := Lib.hid (Lib.tabBelow_of_tabIs ht1)
  have T2 := Lib.hid (Lib.tabBelow_of_tabIs ht2)
  clear ht1 ht2
  go_enter Tryd.func8, Tryd.ntmps8
  go_upto_region 2 with fail
  refine name_world fun V hV => ?_
  have HM : Hid (Rd V (some ⟨w.heap.size, 0, none⟩) (ms39.flatMap mkc)) := Lib.hid (by rw [hV]; exact own_rdK (own_litK (n := 2) (k := 4) (base := 0) (e := 51) (cs := #[.int .i64 2, .int .u8 11, .int .i64 1, .int .i64 1, .int .i64 5, .int .u8 11, .int .i64 0, .int .i64 0]) (Nat.zero_le _) rfl (by omega)))
  have HB : Hid (Below w.heap.size w V) := Lib.hid (by rw [hV]; exact (Below.refl _ _).alloc (Nat.le_refl _) _)
  clear hV
  have f1 := Lib.hid (runs_any ms39 0 9 (some ⟨w.heap.size, 0, none⟩) 2 V (show 2 ≤ 1048576 by omega) HM.out)
  unfold RetRuns at f1
  rw [show ms39.length = 2 from rfl, show runsO ms39 0 9 = rn39 by kernel_rfl, show rgB ms39 0 9 = true by kernel_rfl, show rn39.length = 3 from rfl] at f1
  simp only [if_true] at f1
  go_upto_region 3 with (go_at_call 6; with_reducible refine f1.out.mono ?_; rintro e w1 ⟨P, c1, rfl, hr1, hb1⟩; have HR1 := Lib.hid hr1; have HB1 := Lib.hid (HB.out.trans (hb1.mono HB.out.size)); have HM1 := Lib.hid (HM.out.below hb1); clear hr1 hb1)
  clear f1 HB HM
  have f2 := Lib.hid (text_any rn39 P c1 w1 (show 3 ≤ 1048577 by omega) HR1.out (by unfold rn39; simp) (T1.out w1 HB1.out) (T2.out w1 HB1.out))
  unfold RetTx at f2
  rw [tx39, show rn39.length = 3 from rfl] at f2
  simp only [Option.isSome_some, if_true, Option.getD_some] at f2
  go_upto_region 4 with (go_at_call 14; with_reducible refine f2.out.mono ?_; rintro e w2 ⟨rfl, hb2⟩; have HR2 := Lib.hid (HR1.out.below hb2); have HB2 := Lib.hid (HB1.out.trans (hb2.mono HB1.out.size)); have HM2 := Lib.hid (HM1.out.below hb2); clear hb2)
  clear f2 HR1 HB1 HM1
  have f3 := Lib.hid (at_any 4 rn39 P c1 w2 (show 3 ≤ 1099511627000 by omega) HR2.out)
  unfold RetAt at f3
  rw [show atF 4 rn39 = some ⟨1, 1, 2, 5⟩ by kernel_rfl, show rn39.length = 3 from rfl] at f3
  simp only [Option.isSome_some, Option.getD_some, rnv] at f3
  go_upto_region 5 with (go_at_call 12; with_reducible refine f3.out.mono ?_; rintro e w3 ⟨rfl, hb3⟩; have HR3 := Lib.hid (HR2.out.below hb3); have HB3 := Lib.hid (HB2.out.trans (hb3.mono HB2.out.size)); have HM3 := Lib.hid (HM2.out.below hb3); clear hb3)
  refine name_world fun U hU => ?_
  have hbU : Below w3.heap.size w3 U := by rw [hU]; exact (Below.refl _ _).alloc (Nat.le_refl _) _
  have HI : Hid (LvI w P w3.heap.size U) := Lib.hid ⟨HM3.out.below hbU, HR3.out.below hbU, HB3.out.trans (hbU.mono HB3.out.size), by rw [hU]; exact heap_alloc_new _ _⟩
  clear hU hbU f3 HR3 HB3 HM3 HR2 HB2 HM2
  generalize w3.heap.size = D at *
  have f4 := Lib.hid (fun X (h : LvI w P D X) => at_any 9 rn39 P c1 X (show 3 ≤ 1099511627000 by omega) h.r)
  unfold RetAt at f4
  rw [show atF 9 rn39 = none by kernel_rfl, show rn39.length = 3 from rfl] at f4
  simp only [Option.isSome_none, Option.getD_none, rnv, rn0] at f4
  have f5 := Lib.hid (fun X (h : LvI w P D X) => runs_any ms39 3 9 (some ⟨w.heap.size, 0, none⟩) 2 X (show 2 ≤ 1048576 by omega) h.m)
  unfold RetRuns at f5
  rw [show ms39.length = 2 from rfl, show runsO ms39 3 9 = [] by kernel_rfl, show rgB ms39 3 9 = false by kernel_rfl] at f5
  simp only [Bool.false_eq_true, if_false, List.length_nil] at f5
  have f7 := Lib.hid (fun X (h : LvI w P D X) => share_any 0 0 rn39 P c1 X (show 3 ≤ 1099511627000 by omega) h.r)
  rw [show shG 0 0 0 rn39 = 6 by kernel_rfl, show rn39.length = 3 from rfl] at f7
  have f8 := Lib.hid (fun X (h : LvI w P D X) => stops_any 1 ms39 (some ⟨w.heap.size, 0, none⟩) 2 X (show 2 ≤ 1048576 by omega) h.m)
  rw [show stG 1 0 false ms39 = 1 by kernel_rfl, show ms39.length = 2 from rfl] at f8
  go_upto_region 6 with (go_at_call 12; with_reducible refine (f4.out _ HI.out).mono ?_; rintro e w4 ⟨rfl, hb4⟩; have HI4 := Lib.hid (HI.out.next hb4); clear hb4)
  refine name_world fun U5 hU5 => ?_
  have HI5 : Hid (LvI w P D U5) := Lib.hid (by rw [hU5]; exact HI4.out.alloc _)
  clear hU5 HI4 HI f4
  go_upto_region 7 with (go_at_call 6; with_reducible refine (f5.out _ HI5.out).mono ?_; rintro e w6 ⟨P6, c6, rfl, -, hb6⟩; have HI6 := Lib.hid (HI5.out.next hb6); clear hb6)
  clear HI5 f5
  have f6 : Hid (∀ X g, Rd X (some ⟨g, 0, none⟩) ([(⟨4, 0, 0, 0⟩ : Rn)].flatMap rnc) → LvI w P D X → Calls Tryd.prog 14 #[.slice (some ⟨g, 0, none⟩) 1 1] X (RetTx [⟨4, 0, 0, 0⟩] X)) := Lib.hid (fun X g hg h => text_any [⟨4, 0, 0, 0⟩] (some ⟨g, 0, none⟩) 1 X (show 1 ≤ 1048577 by omega) hg (by simp) (T1.out X h.b) (T2.out X h.b))
  unfold RetTx at f6
  rw [tx4] at f6
  simp only [Option.isSome_none, Bool.false_eq_true, if_false, Option.getD_none] at f6
  have HRd : Hid (Rd (w6.alloc (.cells #[.int .u8 4, .int .i64 0, .int .i64 0, .int .i64 0] 33)) (some ⟨w6.heap.size, 0, none⟩) ([(⟨4, 0, 0, 0⟩ : Rn)].flatMap rnc)) := Lib.hid (own_rdK (own_litK (n := 1) (k := 4) (base := 0) (e := 33) (cs := #[.int .u8 4, .int .i64 0, .int .i64 0, .int .i64 0]) (Nat.zero_le _) rfl (by omega)))
  go_upto_region 8 with (go_at_call 14; with_reducible refine (f6.out _ _ HRd.out (HI6.out.alloc _)).mono ?_; rintro e w7 ⟨rfl, hb7⟩; have HI7 := Lib.hid ((HI6.out.alloc _).next hb7); clear hb7)
  clear HRd f6 HI6
  obtain ⟨ux, uy⟩ := box_rules HI7.out.x
  have ld := box_lt HI7.out.x
  go_wp2_with (first | (go_at_call 16; with_reducible refine (f7.out _ HI7.out).mono ?_; rintro e w8 ⟨rfl, hb8⟩; have HI8 := Lib.hid (HI7.out.next hb8); clear hb8) | (go_at_call 10; with_reducible refine (f8.out _ HI8.out).mono ?_; rintro e w9 ⟨rfl, hb9⟩; have HI9 := Lib.hid (HI8.out.next hb9); clear hb9))
  go_ret
  exact ⟨rfl, HI9.out.b⟩
end Go.Proofs.YtlmhgfgdkenpfaaDoor

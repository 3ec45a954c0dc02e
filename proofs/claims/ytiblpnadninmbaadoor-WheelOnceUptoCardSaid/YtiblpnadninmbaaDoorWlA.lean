/- Package vergelaw08: the walk of filled. Conditions: lists that read, of ids that are ints. -/
import Derived.Test.YtiblpnadninmbaaDoorWhR
import Derived.Test.YtiblpnadninmbaaDoorMvQ
namespace Go.Proofs.YtiblpnadninmbaaDoor
open Go.RowKit Go.Shelf
attribute [local go_sem] Oper.semAt_some
def filL (room : Nat) (l : List Du) : List Du := l.foldl (fun L x => insL room L x.id x.at') []
theorem fil_snoc (room : Nat) (l : List Du) (x : Du) : filL room (l ++ [x]) = insL room (filL room l) x.id x.at' := by unfold filL; rw [List.foldl_append]; rfl
/-- What filled hands back. -/
def RetFi (room : Nat) (now : Int) (l : List Du) (w : World) (e : Ending) (w' : World) : Prop :=
  ∃ f : WhF, e = .returned (.pointer (some ⟨f.pw, 0, none⟩)) ∧ (∀ b ∈ f.l, w.heap.size ≤ b) ∧ Whl w' f room now (filL room l) l.length ∧ Below w.heap.size w w'
set_option maxHeartbeats 4000000 in
set_option maxRecDepth 100000 in
theorem filled_ok (now : Int) (room : Nat) (l : List Du) (A : Option Addr) (c : Nat) (w : World) (hl : l.length ≤ 200) (hr : Rd w A (l.flatMap duc)) (hid : ∀ x ∈ l, I64N x.id) (h0 : 0 ≤ now) (h1 : now ≤ 4503599627370496) (h2 : 1 ≤ room) (h3 : room ≤ 4096) :
    Calls Tryd.prog 52 #[.int .i64 now, .int .i64 room, .slice A l.length c] w (RetFi room now l w) := by
  have HR := Lib.hid hr
  have HI := Lib.hid hid
  have f1 := Lib.hid (whl_new now room w h0 h1 h2 h3)
  have f2 := Lib.hid (fun f L tn X id a (h : Whl X f room now L tn) (hi : I64N id) (ht : tn ≤ 1152921504606846976) => whl_insert f room now L tn X id a h hi ht)
  have hl2 : decide ((200 : Int) < (l.length : Int)) = false := by simp; omega
  have hl3 : decide (200 < l.length) = false := by simp; omega
  unfold RetWhl at f1
  clear hr hid h0 h1 h2 h3
  go_enter Tryd.func52, Tryd.ntmps52
  go_upto_region 4 with (go_at_call 40; go_loud ((with_reducible refine f1.out.mono ?_); rintro e w1 ⟨f, rfl, hf1, hw1, hb1⟩; have HF := Lib.hid hf1; have HW1 := Lib.hid hw1; have HB1 := Lib.hid hb1; clear hf1 hw1 hb1))
  go_wp2
  go_loopw [30] (fun i wr => ∃ (k : Nat), k ≤ l.length ∧ i = .int .i64 k ∧ Hid (Whl wr f room now (filL room (l.take k)) k) ∧ Hid (Below w.heap.size w wr)) (fun i _ => l.length - (intOf i).toNat)
  case atStart => exact ⟨0, by omega, rfl, HW1, HB1⟩
  case round =>
    obtain ⟨k, hk, rfl, HW, HB⟩ := hrel
    by_cases hlt : k < l.length
    · obtain ⟨a, x, rfl, hx, g0, g1⟩ := (HR.out.below HB.out).duAt hlt
      have HS : Hid (filL room (l.take (k + 1)) = insL room (filL room (l.take k)) x.id x.at') := Lib.hid (by rw [take_atN (d := du0) hlt, hx, fil_snoc])
      have hxi : I64N x.id := HI.out x (by rw [← hx]; simp [List.getD, hlt])
      have Hxi := Lib.hid hxi
      clear hx hxi
      obtain ⟨d0, d1⟩ := x
      dsimp only at *
      go_upto_region 7 with fail
      refine name_world fun U hU => ?_
      have hbu : Below wr.heap.size wr U := by rw [hU]; exact (Below.refl _ _).alloc (Nat.le_refl _) _
      have HX : Hid (U.heap[wr.heap.size]? = some (.cells #[.int .i64 d0, .int .i64 d1] 98 (0, 0))) := Lib.hid (by rw [hU]; exact heap_alloc_new _ _)
      have HWu := Lib.hid (HW.out.below hbu)
      have HBu := Lib.hid (HB.out.trans (hbu.mono HB.out.size))
      have lc := box_lt HX.out
      have hsz := HB.out.size
      clear hU hbu g0 g1
      obtain ⟨xx, xy⟩ := box_rules HX.out
      go_wp2_with (go_at_call 44; go_loud ((with_reducible refine (f2.out _ _ _ _ _ _ HWu.out Hxi.out (by omega)).mono ?_); rintro e w5 ⟨rfl, hw5, ht5⟩; have HW5 := Lib.hid hw5; have HT5 := Lib.hid ht5; clear hw5 ht5))
      refine ⟨⟨k + 1, hlt, by go_num, Lib.hid (by rw [HS.out]; exact HW5.out), Lib.hid (HT5.out.base HBu.out HF.out HBu.out.size)⟩, ?_⟩
      simp [intOf]; omega
    · obtain rfl : k = l.length := by omega
      go_wp2
      go_ret
      exact ⟨f, rfl, HF.out, by have h9 := HW.out; rwa [List.take_length] at h9, HB.out⟩
theorem filled_bad (now room : Int) (A : Option Addr) (n c : Nat) (w : World) (h : ¬ (0 ≤ now ∧ now ≤ 4503599627370496 ∧ 1 ≤ room ∧ room ≤ 4096)) :
    Calls Tryd.prog 52 #[.int .i64 now, .int .i64 room, .slice A n c] w fun e w' => e = .returned (.pointer none) ∧ Below w.heap.size w w' := by
  have f1 := Lib.hid (whl_bad now room w h)
  clear h
  go_enter Tryd.func52, Tryd.ntmps52
  go_wp2_with (go_at_call 40; go_loud ((with_reducible refine f1.out.mono ?_); rintro e w1 ⟨rfl, rfl⟩))
  go_ret
  exact ⟨rfl, Below.refl _ _⟩
set_option maxHeartbeats 4000000 in
theorem filled_long (now : Int) (room : Nat) (A : Option Addr) (n c : Nat) (w : World) (hl : 200 < n) (h0 : 0 ≤ now) (h1 : now ≤ 4503599627370496) (h2 : 1 ≤ room) (h3 : room ≤ 4096) :
    Calls Tryd.prog 52 #[.int .i64 now, .int .i64 room, .slice A n c] w fun e w' => e = .returned (.pointer none) ∧ Below w.heap.size w w' := by
  have f1 := Lib.hid (whl_new now room w h0 h1 h2 h3)
  have hl2 : decide ((200 : Int) < (n : Int)) = true := by simp; omega
  have hl3 : decide (200 < n) = true := by simp; omega
  unfold RetWhl at f1
  clear h0 h1 h2 h3
  go_enter Tryd.func52, Tryd.ntmps52
  go_wp2_with (go_at_call 40; go_loud ((with_reducible refine f1.out.mono ?_); rintro e w1 ⟨f, rfl, hf1, hw1, hb1⟩; have HB1 := Lib.hid hb1; clear hf1 hw1 hb1))
  go_ret
  exact ⟨rfl, HB1.out⟩
end Go.Proofs.YtiblpnadninmbaaDoor

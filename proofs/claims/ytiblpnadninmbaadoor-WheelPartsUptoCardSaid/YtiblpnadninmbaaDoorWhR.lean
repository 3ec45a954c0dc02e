/- Package wheel: what Move answers. Conditions: a wheel's memory, the de Bruijn table. -/
import Derived.Test.YtiblpnadninmbaaDoorWhQ
namespace Go.Proofs.YtiblpnadninmbaaDoor
open Go.RowKit Go.Shelf
attribute [local go_sem] Oper.semAt_some

/-- What Move hands back. -/
def RetMv (f : WhF) (room : Nat) (now : Int) (L : List Du) (tn : Nat) (T : Int) (w : World) (e : Ending) (w' : World) : Prop :=
  if now ≤ T ∧ T ≤ 4503599627370496 then ∃ A c, e = .returned (.tuple #[.slice A (mvD T L).length c, .int .i64 0]) ∧ Rd w' A ((mvD T L).flatMap duc) ∧ (∀ a, A = some a → w.heap.size ≤ a.block) ∧ Whl w' f room T (rsD T L) tn ∧ Tn f.l w w'
  else e = .returned (.tuple #[.slice none 0 0, .int .i64 1]) ∧ Whl w' f room now L tn ∧ Tn f.l w w'
set_option maxHeartbeats 4000000 in
set_option maxRecDepth 100000 in
theorem whl_move (f : WhF) (room : Nat) (now : Int) (L : List Du) (tn : Nat) (w : World) (T : Int) (h : Whl w f room now L tn) (hT : Tab w) (hg : 0 ∉ f.l) :
    Calls Tryd.prog 48 #[.pointer (some ⟨f.pw, 0, none⟩), .int .i64 T] w (RetMv f room now L tn T w) := by
  have f1 := Lib.hid (whl_set f room now L tn w T h hT hg)
  unfold RetMv
  clear h hT hg
  by_cases hc : now ≤ T ∧ T ≤ 4503599627370496
  · rw [if_pos hc, if_pos hc] at f1
    simp only [if_pos hc]
    have f2 := Lib.hid (fun X (hX : Whl X f room T L tn) => told_any f room T L tn X hX)
    unfold RetTo at f2
    clear hc
    go_enter Tryd.func48, Tryd.ntmps48
    go_wp2_with (first
      | (go_at_call 56; (with_reducible refine f1.out.mono ?_); rintro e w1 ⟨rfl, hw1, ht1⟩; have HW1 := Lib.hid hw1; have HT1 := Lib.hid ht1; clear hw1 ht1)
      | (go_at_call 74; (with_reducible refine (f2.out _ HW1.out).mono ?_); rintro e w2 ⟨A, c, rfl, hr2, ha2, hw2, ht2⟩; have HR2 := Lib.hid hr2; have HA2 := Lib.hid ha2; have HW2 := Lib.hid hw2; have HT2 := Lib.hid (HT1.out.trans ht2); clear hr2 ha2 hw2 ht2))
    go_ret2
    exact ⟨A, c, rfl, HR2.out, fun a ha => Nat.le_trans HT1.out.size (HA2.out a ha), HW2.out, HT2.out⟩
  · rw [if_neg hc, if_neg hc] at f1
    simp only [if_neg hc]
    clear hc
    go_enter Tryd.func48, Tryd.ntmps48
    go_wp2_with (go_at_call 56; (with_reducible refine f1.out.mono ?_); rintro e w1 ⟨rfl, hw1, ht1⟩; have HW1 := Lib.hid hw1; have HT1 := Lib.hid ht1; clear hw1 ht1)
    go_ret2
    exact ⟨rfl, HW1.out, HT1.out⟩
end Go.Proofs.YtiblpnadninmbaaDoor

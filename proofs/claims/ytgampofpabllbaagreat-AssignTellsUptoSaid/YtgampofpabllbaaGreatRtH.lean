/- Package solve: the walk of what steps hands back. Conditions: lists that read. -/
import Derived.Test.YtgampofpabllbaaGreatRtG
namespace Go.Proofs.YtgampofpabllbaaGreat
open Go.RowKit Go.Shelf
attribute [local go_sem] Oper.semAt_some

/-- A step, and why there is none behind it. -/
structure Stp where
  t : Int
  y : Int
def stpv (x : Stp) : Array Value := #[.int .i64 x.t, .int .i64 x.y]
def stL (base : Int) (l : List Ld) : Nat → List Stp
  | 0 => []
  | k + 1 => stL base l k ++ [⟨stW base l k, 0⟩]
theorem stL_len (base : Int) (l : List Ld) : ∀ k, (stL base l k).length = k
  | 0 => rfl
  | k + 1 => by show (stL base l k ++ _).length = _; rw [List.length_append, stL_len]; rfl
/-- All steps. -/
def StAll (base : Int) (l : List Ld) (xs : List Stp) : Prop :=
  ∃ k, stpOk base l k ∧ ((xs = stL base l (k + 1) ∧ roundWhy base l (stW base l k) = 0 ∧ roundN base l (stW base l k) = stW base l k) ∨ (xs = stL base l (k + 1) ++ [⟨0, roundWhy base l (stW base l k)⟩] ∧ roundWhy base l (stW base l k) ≠ 0))
/-- The first ones. -/
def StPre (base : Int) (l : List Ld) (xs : List Stp) : Prop :=
  ∃ k, stpOk base l k ∧ (xs = stL base l (k + 1) ∨ (xs = stL base l (k + 1) ++ [⟨0, roundWhy base l (stW base l k)⟩] ∧ roundWhy base l (stW base l k) ≠ 0))
theorem stpOk_zero (base : Int) (l : List Ld) : stpOk base l 0 := fun _ hj => absurd hj (Nat.not_lt_zero _)
theorem stpOk_succ {base : Int} {l : List Ld} {k : Nat} (h : stpOk base l k) (h1 : roundWhy base l (stW base l k) = 0) (h2 : roundN base l (stW base l k) ≠ stW base l k) : stpOk base l (k + 1) := fun j hj => by
  by_cases e : j = k
  · subst e; exact ⟨h1, h2⟩
  · exact h j (by omega)

theorem steps_any (base : Int) (A : Option Addr) (n c : Nat) (w : World) :
    Calls Tryz.prog 136 #[.int .i64 base, .slice A n c] w fun e w' =>
      e = .returned (.func (.func 149) #[] #[.pointer (some ⟨w.heap.size, 0, none⟩), .pointer (some ⟨w.heap.size + 1, 0, none⟩)]) ∧
      (w.alloc (.cells #[.int .i64 base] 2)).alloc (.cells #[.slice A n c] 76) = w' := by
  go_enter Tryz.func136, Tryz.ntmps136
  go_wp2
  go_ret
  exact ⟨by simp, rfl⟩
def stepTop : Nat := 4503599627370499
set_option maxHeartbeats 4000000 in
set_option maxRecDepth 100000 in
/-- What steps hands back. -/
theorem stp_iter (base : Int) (l : List Ld) (hb : inB base 1 4503599627370496 = true) (A : Option Addr) (c b1 b2 n1 : Nat) (out : List Nat) (w0 w : World) (hl : l.length ≤ 1048576)
    (h0 : Below w0.heap.size w0 w) (k1 : b1 < n1) (k2 : b2 < n1) (q1 : b1 ∉ out) (q2 : b2 ∉ out)
    (hb1 : w.heap[b1]? = some (.cells #[.int .i64 base] 2 (0, 0)))
    (hb2 : w.heap[b2]? = some (.cells #[.slice A l.length c] 76 (0, 0))) (hr : Rd w0 A (l.flatMap ldc)) :
    SeqStopsK Fence.wide 8 Tryz.prog 149 #[.pointer (some ⟨b1, 0, none⟩), .pointer (some ⟨b2, 0, none⟩)] stpv (KeepsLow w0.heap.size n1 out) (StAll base l) (StPre base l) stepTop w := fun ll J Jx W hW hJ hJx hY hJ0 => by
  have H1 := Lib.hid (box_keep hb1 hW)
  have H2 := Lib.hid (box_keep hb2 hW)
  have HW0 := Lib.hid (h0.trans (hW.mono h0.size))
  have Hr := Lib.hid hr; have HJ := Lib.hid hJ; have HY := Lib.hid hY; have HJ0 := Lib.hid hJ0
  have s0 := h0.size
  have sW := hW.size
  have f2 := Lib.hid (fun t w hr => round_any base l t hl A c w hr)
  have Hfar := Lib.hid (fun k h => stW_far hb (l := l) (k := k) h)
  have HUp := Lib.hid (fun k h => stW_up hb (l := l) (k := k) h)
  have Hin := Lib.hid (fun k h => stW_in hb (l := l) (k := k) h)
  clear hb1 hb2 h0 hW hr hJ hJx hY hJ0
  obtain ⟨hmx, hmy⟩ := box_rules H1.out
  refine callsIn_of_wp Tryz.func149 rfl trivial ?_ rfl
  simp only [Tryz.ntmps149, List.size_toArray, List.length_cons, List.length_nil, Nat.reduceAdd, Nat.reduceSub, Array.replicate_succ, Array.replicate_zero, List.push_toArray, List.append_toArray, List.nil_append, List.cons_append]
  gi_wp2
  gi_loopw [4] (fun s wr => ∃ k : Nat, s = .int .i64 (stW base l k) ∧ Hid (stpOk base l k) ∧ J (stL base l k) wr ∧ KeepsLow w0.heap.size n1 out W wr ∧ W.heap.size ≤ wr.heap.size) (fun s _ => (4503599627370497 - intOf s).toNat)
  case atStart => exact ⟨0, rfl, stpOk_zero _ _, HJ0.out, KeepsLow.refl _, Nat.le_refl _⟩
  case round =>
    obtain ⟨k, rfl, hok, hj, hK, hs⟩ := hrel
    have Hj := Lib.hid hj; have HK := Lib.hid hK
    clear hj hK
    obtain ⟨r1, r2⟩ := Hin.out k (fun j h => (hok.out j h).1)
    have r3 := Hfar.out k hok.out
    have hL : (stL base l k).length < stepTop := by rw [stL_len]; unfold stepTop; omega
    have HY1 := Lib.hid (HY.out (stL base l k) ⟨stW base l k, 0⟩ wr Hj.out hL)
    have HD1 := Lib.hid (HK.out.box k1 q1 H1.out)
    have HD2 := Lib.hid (HK.out.box k2 q2 H2.out)
    have sa : w0.heap.size ≤ wr.heap.size := by omega
    clear hL
    obtain ⟨fn, tmps, assign, body, hy, hR⟩ := HY1.out
    unfold stpv at hy
    dsimp only at hy
    have HR := Lib.hid hR
    clear hR
    gi_wp2_with fail
    refine HR.out.mono ?_
    clear hy HR HY1
    rintro e W3 (⟨rfl, hJ4, hk4⟩ | ⟨rfl, hJx4⟩)
    · have HJ4 := Lib.hid hJ4
      have HK4 := Lib.hid (HK.out.trans hk4)
      have HE1 := Lib.hid (hk4.box k1 q1 HD1.out)
      have HE2 := Lib.hid (hk4.box k2 q2 HD2.out)
      have s3 := hk4.below.size
      clear hJ4 hk4
      obtain ⟨ex, ey⟩ := box_rules HE1.out
      obtain ⟨fx, fy⟩ := box_rules HE2.out
      have HrW := Lib.hid (Hr.out.below (HW0.out.trans HK4.out.below))
      have f3 := Lib.hid (f2.out (stW base l k) W3 HrW.out)
      have HSu : Hid (stW base l (k + 1) = roundN base l (stW base l k)) := Lib.hid rfl
      have HOk2 := Lib.hid (fun h1 h2 => stpOk_succ hok.out h1 h2)
      have HUp2 : Hid (roundWhy base l (stW base l k) = 0 → stW base l k ≤ stW base l (k + 1)) := Lib.hid (fun h => HUp.out k (fun j hj => by
        by_cases e : j = k
        · subst e; exact h
        · exact (hok.out j (by omega)).1))
      have HAll1 : Hid (roundWhy base l (stW base l k) = 0 → roundN base l (stW base l k) = stW base l k → StAll base l (stL base l (k + 1))) := Lib.hid (fun h1 h2 => ⟨k, hok.out, .inl ⟨rfl, h1, h2⟩⟩)
      have HAll2 : Hid (∀ Y, roundWhy base l (stW base l k) = Y → Y ≠ 0 → StAll base l (stL base l (k + 1) ++ [⟨0, Y⟩])) := Lib.hid (fun Y h1 h2 => ⟨k, hok.out, .inr ⟨by rw [h1], by rw [h1]; exact h2⟩⟩)
      have HPre2 : Hid (∀ Y, roundWhy base l (stW base l k) = Y → Y ≠ 0 → StPre base l (stL base l (k + 1) ++ [⟨0, Y⟩])) := Lib.hid (fun Y h1 h2 => ⟨k, hok.out, .inr ⟨by rw [h1], by rw [h1]; exact h2⟩⟩)
      unfold RetN at f3
      generalize hN : roundN base l (stW base l k) = N at *
      generalize hY : roundWhy base l (stW base l k) = Y at *
      have HYY := Lib.hid hY; have HNN := Lib.hid hN
      clear hY hN
      have hL2 : (stL base l (k + 1)).length < stepTop := by rw [stL_len]; unfold stepTop; omega
      have HHY := Lib.hid (fun (hne : Y ≠ 0) w4 (hb4 : Below W3.heap.size W3 w4) => HY.out (stL base l (k + 1)) ⟨0, Y⟩ w4 (HJ.out _ _ _ none HJ4.out (below_grown hb4) (fun _ h => by cases h)) hL2)
      have HJ5 := Lib.hid (fun w4 (hb4 : Below W3.heap.size W3 w4) => HJ.out _ _ _ none HJ4.out (below_grown hb4) (fun _ h => by cases h))
      clear hL2
      by_cases hy0 : Y = 0
      · subst hy0
        clear HAll2 HPre2 HHY
        by_cases hN : N = stW base l k
        · have HF := Lib.hid (HAll1.out (by first | rfl | trivial) hN)
          have hN2 : (N == stW base l k) = true := by simpa using hN
          clear hN HAll1
          gi_wp2_with (refine ⟨trivial, ?_⟩; gi_at_call 150; refine (callsIn_wide.2 f3.out).mono ?_; rintro e w4 ⟨rfl, hb4⟩; have HB4 := Lib.hid hb4; clear hb4)
          refine bodyPost_ret (results_none rfl _ _ _) rfl ?_
          exact ⟨⟨_, rfl⟩, .inl ⟨_, HF.out, HJ5.out _ HB4.out⟩⟩
        · have HOk3 := Lib.hid (HOk2.out (by first | rfl | trivial) hN)
          have hu := HUp2.out (by first | rfl | trivial)
          rw [HSu.out] at hu
          have hN2 : (N == stW base l k) = false := by simpa using hN
          have hlt : stW base l k < N := by omega
          clear hN HAll1 hu HUp2
          gi_wp2_with (refine ⟨trivial, ?_⟩; gi_at_call 150; refine (callsIn_wide.2 f3.out).mono ?_; rintro e w4 ⟨rfl, hb4⟩; have HB4 := Lib.hid hb4; clear hb4)
          refine ⟨⟨k + 1, by rw [HSu.out], HOk3.out, HJ5.out _ HB4.out, HK4.out.call HB4.out (by omega), by have := HB4.out.size; omega⟩, ?_⟩
          simp only [intOf]
          omega
      · have HF := Lib.hid (HAll2.out Y rfl hy0)
        have HP := Lib.hid (HPre2.out Y rfl hy0)
        have HH := Lib.hid (HHY.out hy0)
        have hy1 : (Y != 0) = true := by simpa using hy0
        clear HAll1 HAll2 HPre2 HHY hy0
        gi_wp2_with (refine ⟨trivial, ?_⟩; gi_at_call 150; refine (callsIn_wide.2 f3.out).mono ?_; rintro e w4 ⟨rfl, hb4⟩; obtain ⟨fn, tmps, assign, body, hy, hR⟩ := HH.out _ hb4; clear hb4; unfold stpv at hy; dsimp only at hy; have HR := Lib.hid hR; clear hR)
        refine HR.out.mono ?_
        clear hy HR
        rintro e W5 (⟨rfl, hJ6, hk6⟩ | ⟨rfl, hJx6⟩)
        · have HJ6 := Lib.hid hJ6
          clear hJ6 hk6
          gi_wp2
          refine bodyPost_ret (results_none rfl _ _ _) rfl ?_
          exact ⟨⟨_, rfl⟩, .inl ⟨_, HF.out, HJ6.out⟩⟩
        · have HJ6 := Lib.hid hJx6
          clear hJx6
          gi_wp2
          refine bodyPost_ret (results_none rfl _ _ _) rfl ?_
          exact ⟨⟨_, rfl⟩, .inr ⟨_, HP.out, HJ6.out⟩⟩
    · have HJ4 := Lib.hid hJx4
      clear hJx4
      gi_wp2
      go_end0
      exact ⟨⟨_, rfl⟩, .inr ⟨_, ⟨k, hok.out, .inl rfl⟩, HJ4.out⟩⟩
end Go.Proofs.YtgampofpabllbaaGreat

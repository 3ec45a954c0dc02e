/- Package irq: Run, whatever is asked; the walk of Masked. Conditions: lines' memory. -/
import Derived.Test.YtpncbkodhojicaaDoorQbAIc
namespace Go.Proofs.YtpncbkodhojicaaDoor
open Go.RowKit Go.Shelf
variable {Bs : Nat → Prop}
attribute [local go_sem] Oper.semAt_some
/-- What Run tells. -/
def runT19 (s : Qs) (k : Int) : Value := if runD s k = true then tpv s.act.line s.act.bottom else tpv 0 0
theorem irun_any (f : IqF) (s : Qs) (n : Nat) (k : Int) (w : World) (h : IqM Bs w f s) (hI : QI n s) :
    Calls Tryd.prog 23 #[.pointer (some ⟨f.p, 0, none⟩), .int .i64 k] w (RetIq Bs f s (runS s k) (.tuple #[runT19 s k, .bool (runD s k), .int .i64 (runC s k)]) w) := by
  by_cases hb : s.bs.length = 0
  · have hc : runC s k = 7 := if_pos hb
    have hd : runD s k = false := by unfold runD; rw [hc]; rfl
    have hs : runS s k = s := by unfold runS; rw [hc, if_pos (by decide)]
    have ht : runT19 s k = tpv 0 0 := by unfold runT19; rw [hd, if_neg (by decide)]
    rw [hc, hd, hs, ht]
    exact irun_none f s k w h hb
  · by_cases hk : k < 0 ∨ s.act.left < k
    · have hc : runC s k = 1 := by unfold runC; rw [if_neg hb, if_pos hk]
      have hd : runD s k = false := by unfold runD; rw [hc]; rfl
      have hs : runS s k = s := by unfold runS; rw [hc, if_pos (by decide)]
      have ht : runT19 s k = tpv 0 0 := by unfold runT19; rw [hd, if_neg (by decide)]
      rw [hc, hd, hs, ht]
      exact irun_bad f s n k w h hI (by omega) (by unfold leftS; rw [if_neg hb]; exact hk)
    · have hc : runC s k = 0 := by unfold runC; rw [if_neg hb, if_neg hk]
      by_cases hz : s.act.left - k = 0
      · have hd : runD s k = true := by unfold runD; rw [hc, decide_eq_true hz]; rfl
        have hs : runS s k = dropS s := by unfold runS; rw [hc, if_neg (by decide), if_pos hz]; rfl
        have ht : runT19 s k = tpv s.act.line s.act.bottom := by unfold runT19; rw [hd, if_pos rfl]
        rw [hc, hd, hs, ht]
        exact irun_done f s n k w h hI (by omega) (by omega) (by omega)
      · have hd : runD s k = false := by unfold runD; rw [hc, decide_eq_false hz]; rfl
        have hs : runS s k = { s with bs := s.bs.set (s.bs.length - 1) { s.act with left := s.act.left - k } } := by unfold runS; rw [hc, if_neg (by decide), if_neg hz]
        have ht : runT19 s k = tpv 0 0 := by unfold runT19; rw [hd, if_neg (by decide)]
        rw [hc, hd, hs, ht]
        exact irun_part f s n k w h hI (by omega) (by omega) (by omega) hz
theorem mB_bit {n : Nat} {s : Qs} (hI : QI n s) {i : Nat} (hi : i < s.ls.length) : (mB s).testBit i = (s.ln i).masked := by
  have := hI.len
  unfold mB
  rw [mk_bit, decide_eq_true (by omega), decide_eq_true hi]; rfl
set_option maxHeartbeats 4000000 in
theorem imasked_in (f : IqF) (s : Qs) (n i : Nat) (w : World) (h : IqM Bs w f s) (hI : QI n s) (hi : i < s.ls.length) :
    Calls Tryd.prog 16 #[.pointer (some ⟨f.p, 0, none⟩), .int .i64 i] w fun e w' => e = .returned (.bool (s.ln i).masked) ∧ w = w' := by
  have H := Lib.hid h
  obtain ⟨pA, pc, tA, tc, hR⟩ := h
  obtain ⟨g, hg, _⟩ := hR.line hi
  have fF := Lib.hid (ifind_in f s i g w H.out hi hg)
  have u1 := bit_and_one (mk_lt (fun j => decide (j < s.ls.length) && (s.ln j).masked)) (n := i)
  rw [show mk (fun j => decide (j < s.ls.length) && (s.ln j).masked) = mB s from rfl, mB_bit hI hi] at u1
  have b1 : (i : Int) < 64 := by have := hI.len; omega
  obtain ⟨x, y⟩ := box_rules hR.box
  have l := box_lt hR.box
  clear hR hg hi hI
  go_enter Tryd.func16, Tryd.ntmps16
  go_wp2_with (go_at_call 36; (with_reducible refine fF.out.mono ?_); rintro e w1 ⟨rfl, rfl⟩)
  go_ret
  exact ⟨by first | rfl | (rw [u1]), rfl⟩
set_option maxHeartbeats 4000000 in
theorem imasked_out (f : IqF) (s : Qs) (i : Int) (w : World) (h : IqM Bs w f s) (hi : ¬ (0 ≤ i ∧ i < s.ls.length)) :
    Calls Tryd.prog 16 #[.pointer (some ⟨f.p, 0, none⟩), .int .i64 i] w fun e w' => e = .returned (.bool false) ∧ w = w' := by
  have fF := Lib.hid (ifind_out f s i w h hi)
  clear h hi
  go_enter Tryd.func16, Tryd.ntmps16
  go_wp2_with (go_at_call 36; (with_reducible refine fF.out.mono ?_); rintro e w1 ⟨rfl, rfl⟩)
  go_ret
  exact ⟨rfl, rfl⟩
/-- Take that is asked of no time. -/
theorem itake_bad (f : IqF) (s : Qs) (n : Nat) (now : Int) (w : World) (h : IqM Bs w f s) (hI : QI n s) (hc : timeC s now = false) :
    Calls Tryd.prog 21 #[.pointer (some ⟨f.p, 0, none⟩), .int .i64 now] w (RetIq Bs f s s (.tuple #[.int .i64 0, .bool false, .int .i64 1]) w) := by
  have fT := Lib.hid (itell_bad f s n now w h hI hc)
  unfold RetIq at fT
  clear h hI hc
  go_enter Tryd.func21, Tryd.ntmps21
  go_wp2
  go_step3
  go_wp2_with (go_at_call 38; (with_reducible refine fT.out.mono ?_); rintro e w1 ⟨rfl, f1, hf1, hm1, hn1, ht1⟩; have HF := Lib.hid (show f1.p = f.p ∧ IqM Bs w1 f1 s ∧ (∀ k ∈ qL f1 s, k ∈ qL f s ∨ w.heap.size ≤ k) ∧ Tn (qL f s) w w1 from ⟨hf1, hm1, hn1, ht1⟩); clear hf1 hm1 hn1 ht1)
  try rw [Exit.noGoto_ret]
  refine bodyPost_ret (v := .tuple #[.int .i64 0, .bool false, .int .i64 1]) (by simp [results, Tryd.f21, go_sem]) rfl ?_
  exact ⟨rfl, f1, HF.out⟩
end Go.Proofs.YtpncbkodhojicaaDoor

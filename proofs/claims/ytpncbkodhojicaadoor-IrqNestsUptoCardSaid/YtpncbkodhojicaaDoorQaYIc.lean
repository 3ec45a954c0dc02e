/- Package irq: the walks of Active, Left, Lost, Served, Masked. Conditions: lines' memory. -/
import Derived.Test.YtpncbkodhojicaaDoorQaUIc
namespace Go.Proofs.YtpncbkodhojicaaDoor
open Go.RowKit Go.Shelf
variable {Bs : Nat → Prop}
attribute [local go_sem] Oper.semAt_some
theorem act_get {s : Qs} (_ : 0 < s.bs.length) : s.bs.getD (s.bs.length - 1) bq0 = s.act := rfl
set_option maxHeartbeats 4000000 in
set_option maxRecDepth 100000 in
theorem iactive_yes (f : IqF) (s : Qs) (n : Nat) (w : World) (h : IqM Bs w f s) (hI : QI n s) (hb : 0 < s.bs.length) :
    Calls Tryd.prog 9 #[.pointer (some ⟨f.p, 0, none⟩)] w fun e w' => e = .returned (.tuple #[.int .i64 s.act.line, .bool true]) ∧ w = w' := by
  obtain ⟨pA, pc, tA, tc, hR⟩ := h
  obtain ⟨gs, hgs, cur, hcur⟩ := own_headK hR.sl hb
  have hsl := hR.sl
  rw [hgs] at hsl
  obtain ⟨c0, _⟩ := own_get (j := 0) hsl (fun _ => rfl) bq0 (i := s.bs.length - 1) (by omega) (by decide) (v := .int .i64 s.act.line) (by rw [act_get hb]; rfl)
  obtain ⟨c1, _⟩ := own_get (j := 1) hsl (fun _ => rfl) bq0 (i := s.bs.length - 1) (by omega) (by decide) (v := .int .i64 s.act.left) (by rw [act_get hb]; rfl)
  obtain ⟨x, y⟩ := box_rules hR.box
  have l := box_lt hR.box
  rw [hgs] at x
  have lg := box_lt hcur
  obtain ⟨m, hm⟩ : ∃ m, s.bs.length - 1 = m := ⟨_, rfl⟩
  rw [hm] at c0 c1
  obtain ⟨ln, hln⟩ : ∃ ln : Int, ((s.bs.length : Nat) : Int) = ln := ⟨_, rfl⟩
  obtain ⟨lm, hlm⟩ : ∃ lm : Int, (m : Int) = lm := ⟨_, rfl⟩
  have b15 := hI.blen
  have e1 : wrap64 (ln - 1) = lm := by rw [show ln - 1 = lm by omega]; exact Go.IntWalk.wrap64_in _ (by omega)
  have b1 : 0 ≤ lm := by omega
  have b2 : lm < ln := by omega
  have b3 : lm.toNat = m := by omega
  have z0 : (ln == 0) = false := beq_eq_false_iff_ne.2 (by omega)
  rw [Nat.add_zero] at c0
  clear hR hgs hsl hcur hm hlm b15 hI hb
  go_enter Tryd.func9, Tryd.ntmps9
  go_wp2
  go_ret2
  exact ⟨rfl, rfl⟩
set_option maxHeartbeats 4000000 in
set_option maxRecDepth 100000 in
theorem ileft_yes (f : IqF) (s : Qs) (n : Nat) (w : World) (h : IqM Bs w f s) (hI : QI n s) (hb : 0 < s.bs.length) :
    Calls Tryd.prog 13 #[.pointer (some ⟨f.p, 0, none⟩)] w fun e w' => e = .returned (.int .i64 (leftS s)) ∧ w = w' := by
  have hL : leftS s = s.act.left := if_neg (by omega)
  rw [hL]
  clear hL
  obtain ⟨pA, pc, tA, tc, hR⟩ := h
  obtain ⟨gs, hgs, cur, hcur⟩ := own_headK hR.sl hb
  have hsl := hR.sl
  rw [hgs] at hsl
  obtain ⟨c0, _⟩ := own_get (j := 0) hsl (fun _ => rfl) bq0 (i := s.bs.length - 1) (by omega) (by decide) (v := .int .i64 s.act.line) (by rw [act_get hb]; rfl)
  obtain ⟨c1, _⟩ := own_get (j := 1) hsl (fun _ => rfl) bq0 (i := s.bs.length - 1) (by omega) (by decide) (v := .int .i64 s.act.left) (by rw [act_get hb]; rfl)
  obtain ⟨x, y⟩ := box_rules hR.box
  have l := box_lt hR.box
  rw [hgs] at x
  have lg := box_lt hcur
  obtain ⟨m, hm⟩ : ∃ m, s.bs.length - 1 = m := ⟨_, rfl⟩
  rw [hm] at c0 c1
  obtain ⟨ln, hln⟩ : ∃ ln : Int, ((s.bs.length : Nat) : Int) = ln := ⟨_, rfl⟩
  obtain ⟨lm, hlm⟩ : ∃ lm : Int, (m : Int) = lm := ⟨_, rfl⟩
  have b15 := hI.blen
  have e1 : wrap64 (ln - 1) = lm := by rw [show ln - 1 = lm by omega]; exact Go.IntWalk.wrap64_in _ (by omega)
  have b1 : 0 ≤ lm := by omega
  have b2 : lm < ln := by omega
  have b3 : lm.toNat = m := by omega
  have z0 : (ln == 0) = false := beq_eq_false_iff_ne.2 (by omega)
  rw [Nat.add_zero] at c0
  clear hR hgs hsl hcur hm hlm b15 hI hb
  go_enter Tryd.func13, Tryd.ntmps13
  go_wp2
  go_ret
  exact ⟨rfl, rfl⟩
set_option maxHeartbeats 4000000 in
theorem iactive_no (f : IqF) (s : Qs) (w : World) (h : IqM Bs w f s) (hb : s.bs.length = 0) :
    Calls Tryd.prog 9 #[.pointer (some ⟨f.p, 0, none⟩)] w fun e w' => e = .returned (.tuple #[.int .i64 0, .bool false]) ∧ w = w' := by
  obtain ⟨pA, pc, tA, tc, hR⟩ := h
  obtain ⟨x, y⟩ := box_rules hR.box
  have l := box_lt hR.box
  rw [hb] at x
  clear hR hb
  go_enter Tryd.func9, Tryd.ntmps9
  go_wp2
  go_ret2
  exact ⟨rfl, rfl⟩
set_option maxHeartbeats 4000000 in
theorem ileft_no (f : IqF) (s : Qs) (w : World) (h : IqM Bs w f s) (hb : s.bs.length = 0) :
    Calls Tryd.prog 13 #[.pointer (some ⟨f.p, 0, none⟩)] w fun e w' => e = .returned (.int .i64 (leftS s)) ∧ w = w' := by
  have hL : leftS s = 0 := if_pos hb
  rw [hL]
  obtain ⟨pA, pc, tA, tc, hR⟩ := h
  obtain ⟨x, y⟩ := box_rules hR.box
  have l := box_lt hR.box
  rw [hb] at x
  clear hR hb hL
  go_enter Tryd.func13, Tryd.ntmps13
  go_wp2
  go_ret
  exact ⟨rfl, rfl⟩
theorem ileft_any (f : IqF) (s : Qs) (n : Nat) (w : World) (h : IqM Bs w f s) (hI : QI n s) :
    Calls Tryd.prog 13 #[.pointer (some ⟨f.p, 0, none⟩)] w fun e w' => e = .returned (.int .i64 (leftS s)) ∧ w = w' := by
  by_cases hb : s.bs.length = 0
  · exact ileft_no f s w h hb
  · exact ileft_yes f s n w h hI (by omega)
set_option maxHeartbeats 4000000 in
theorem ilost_in (f : IqF) (s : Qs) (i : Nat) (w : World) (h : IqM Bs w f s) (hi : i < s.ls.length) :
    Calls Tryd.prog 17 #[.pointer (some ⟨f.p, 0, none⟩), .int .i64 i] w fun e w' => e = .returned (.int .i64 (s.ln i).lost) ∧ w = w' := by
  have H := Lib.hid h
  obtain ⟨pA, pc, tA, tc, hR⟩ := h
  obtain ⟨g, hg, _⟩ := hR.line hi
  have fF := Lib.hid (ifind_in f s i g w H.out hi hg)
  obtain ⟨_, c0, c1, c2, c3, c4, fz, lg⟩ := hR.lineg hi hg
  clear hR hg hi
  go_enter Tryd.func17, Tryd.ntmps17
  go_wp2_with (go_at_call 36; (with_reducible refine fF.out.mono ?_); rintro e w1 ⟨rfl, rfl⟩)
  go_ret
  exact ⟨rfl, rfl⟩
set_option maxHeartbeats 4000000 in
theorem ilost_out (f : IqF) (s : Qs) (i : Int) (w : World) (h : IqM Bs w f s) (hi : ¬ (0 ≤ i ∧ i < s.ls.length)) :
    Calls Tryd.prog 17 #[.pointer (some ⟨f.p, 0, none⟩), .int .i64 i] w fun e w' => e = .returned (.int .i64 0) ∧ w = w' := by
  have fF := Lib.hid (ifind_out f s i w h hi)
  clear h hi
  go_enter Tryd.func17, Tryd.ntmps17
  go_wp2_with (go_at_call 36; (with_reducible refine fF.out.mono ?_); rintro e w1 ⟨rfl, rfl⟩)
  go_ret
  exact ⟨rfl, rfl⟩
set_option maxHeartbeats 4000000 in
theorem iserved_in (f : IqF) (s : Qs) (i : Nat) (w : World) (h : IqM Bs w f s) (hi : i < s.ls.length) :
    Calls Tryd.prog 18 #[.pointer (some ⟨f.p, 0, none⟩), .int .i64 i] w fun e w' => e = .returned (.int .i64 (s.ln i).served) ∧ w = w' := by
  have H := Lib.hid h
  obtain ⟨pA, pc, tA, tc, hR⟩ := h
  obtain ⟨g, hg, _⟩ := hR.line hi
  have fF := Lib.hid (ifind_in f s i g w H.out hi hg)
  obtain ⟨_, c0, c1, c2, c3, c4, fz, lg⟩ := hR.lineg hi hg
  clear hR hg hi
  go_enter Tryd.func18, Tryd.ntmps18
  go_wp2_with (go_at_call 36; (with_reducible refine fF.out.mono ?_); rintro e w1 ⟨rfl, rfl⟩)
  go_ret
  exact ⟨rfl, rfl⟩
set_option maxHeartbeats 4000000 in
theorem iserved_out (f : IqF) (s : Qs) (i : Int) (w : World) (h : IqM Bs w f s) (hi : ¬ (0 ≤ i ∧ i < s.ls.length)) :
    Calls Tryd.prog 18 #[.pointer (some ⟨f.p, 0, none⟩), .int .i64 i] w fun e w' => e = .returned (.int .i64 0) ∧ w = w' := by
  have fF := Lib.hid (ifind_out f s i w h hi)
  clear h hi
  go_enter Tryd.func18, Tryd.ntmps18
  go_wp2_with (go_at_call 36; (with_reducible refine fF.out.mono ?_); rintro e w1 ⟨rfl, rfl⟩)
  go_ret
  exact ⟨rfl, rfl⟩
end Go.Proofs.YtpncbkodhojicaaDoor

/- Package intc: the walks of the desk's methods (edge, active, level, next). Conditions: a desk of a right controller. -/
import Derived.Test.YtbhjkfeonhddlaaDoorIntcC
import Derived.RangeFuncBox
namespace Go.Proofs.YtbhjkfeonhddlaaDoor
open Go.RowKit Go.Shelf
attribute [local go_sem] Oper.semAt_some

section
variable {w : World} {base D : Nat} {d : IC} {pA : Option Addr} {pc : Nat} {sA : Option Addr} {sc : Nat}

theorem bit_and_one {g n : Nat} (hg : g < 18446744073709551616) : (bits .and .u64 ((g : Int) / 2 ^ n) 1 == 1) = g.testBit n := by
  have e : ((g : Int) / 2 ^ n) = ((g / 2 ^ n : Nat) : Int) := by simp
  have h1 : (1 : Int) = ((1 : Nat) : Int) := rfl
  rw [e, h1, u64_and_nat _ _ (Nat.lt_of_le_of_lt (Nat.div_le_self _ _) hg) (by omega), Nat.and_one_is_mod, Bool.eq_iff_iff, ← div_bit]
  simp; omega

theorem edge_any (hD : Desk w base D d pA pc sA sc) (hf : d.Fits) (line : Nat) (hl : line < 64) :
    Calls Tryd.prog 40 #[.pointer (some ⟨D, 0, none⟩), .int .i64 line] w fun e w' => e = .returned (.bool (d.g.testBit line)) ∧ w = w' := by
  obtain ⟨x1, _⟩ := box_rules hD.blk
  have hb := Lib.hid (bit_and_one (n := line) hf.g)
  clear hD
  go_enter Tryd.func40, Tryd.ntmps40
  go_wp2
  go_ret
  exact ⟨ret_bool hb.out, rfl⟩

theorem st_range (hk : d.ok) : ∀ i, i < d.stack.length → 0 ≤ d.stack.getD i 0 ∧ d.stack.getD i 0 < 64 := fun i hi => by
  have h := hk.stack i hi
  have h2 := hk.len2
  exact ⟨h.1, by have := h.2.1; unfold IC.st at this; omega⟩

theorem active_raw {w : World} {D : Nat} (d : IC) {sA : Option Addr} {sc : Nat} (hc : w.cell? ⟨D, 6, none⟩ = some (.slice sA d.stack.length sc)) (hr : Rd w sA (d.stack.map (.int .i64))) (hl : d.stack.length ≤ 549755813888) (hv : ∀ i, i < d.stack.length → 0 ≤ d.stack.getD i 0 ∧ d.stack.getD i 0 < 64) :
    Calls Tryd.prog 41 #[.pointer (some ⟨D, 0, none⟩)] w fun e w' => e = .returned (.int .u64 ((ofList d.stack : Nat) : Int)) ∧ w = w' := by
  have f1 := Lib.hid (fun (_ : Unit) => of_ok sA d.stack sc w (by omega) hr hv)
  clear hr hv
  go_enter Tryd.func41, Tryd.ntmps41
  go_wp2_with fail
  refine (f1.out ()).mono ?_
  rintro e w' ⟨rfl, rfl⟩
  go_wp2_with fail
  go_ret
  exact ⟨rfl, rfl⟩
theorem active_any (hD : Desk w base D d pA pc sA sc) (hf : d.Fits) (hk : d.ok) :
    Calls Tryd.prog 41 #[.pointer (some ⟨D, 0, none⟩)] w fun e w' => e = .returned (.int .u64 ((ofList d.stack : Nat) : Int)) ∧ w = w' :=
  active_raw d (by rw [(box_rules hD.blk).1]; rfl) (own_rd hD.stack) hf.stack (st_range hk)

def IC.level (d : IC) : Int := if d.stack.length = 0 then d.t else max d.t (d.pr (d.st (d.stack.length - 1)))

theorem level_any (hD : Desk w base D d pA pc sA sc) (hf : d.Fits) (hk : d.ok) :
    Calls Tryd.prog 34 #[.pointer (some ⟨D, 0, none⟩)] w fun e w' => e = .returned (.int .i64 d.level) ∧ ∃ k, w.drewN k = w' := by
  have hr := own_rd hD.stack
  have hr2 := own_rd hD.prio
  have hl := hf.stack
  have hl2 := hf.prio
  obtain ⟨x1, _⟩ := box_rules hD.blk
  clear hD
  by_cases h0 : d.stack.length = 0
  · have Hr := Lib.hid (show d.level = d.t by unfold IC.level; rw [if_pos h0])
    clear hr hr2
    go_enter Tryd.func34, Tryd.ntmps34
    go_wp2
    go_ret
    exact ⟨ret_int Hr.out.symm, 0, rfl⟩
  · have h5 : d.stack.length - 1 < d.stack.length := by omega
    obtain ⟨g1, g2, _⟩ := hk.stack _ h5
    have Hr := Lib.hid (show d.level = max d.t (d.pr (d.st (d.stack.length - 1))) by unfold IC.level; rw [if_neg h0])
    obtain ⟨a, rfl, c1⟩ := hr.int h5
    have Hst : Hid (d.st (d.stack.length - 1) = d.stack.getD (d.stack.length - 1) 0) := rfl
    unfold IC.st at g1 g2
    generalize hn : d.stack.getD (d.stack.length - 1) 0 = n at *
    have Hn := Lib.hid hn; clear hn
    obtain ⟨m, rfl⟩ := Int.eq_ofNat_of_zero_le g1
    obtain ⟨b, rfl, c2⟩ := hr2.int (i := m) (by omega)
    have Hq : Hid (d.pr (m : Int) = d.prio.getD m 0) := rfl
    generalize hq : d.prio.getD m 0 = q at *
    have Hqq := Lib.hid hq; clear hq
    have hlp : 0 < d.stack.length := by omega
    clear hr hr2 h0 g1
    go_enter Tryd.func34, Tryd.ntmps34
    go_wp2
    go_quiet (fail)
    go_wp2
    all_goals
      go_ret
      refine ⟨ret_int ?_, _, rfl⟩
      rw [Hr.out, Hst.out, Hq.out]
      omega
end
end Go.Proofs.YtbhjkfeonhddlaaDoor

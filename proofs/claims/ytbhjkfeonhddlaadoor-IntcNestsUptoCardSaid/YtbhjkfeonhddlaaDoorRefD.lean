/- vergeref06: the walk of level. Conditions: lists that read, a right controller. -/
import Derived.Test.YtbhjkfeonhddlaaDoorRefA
import Derived.Test.YtbhjkfeonhddlaaDoorRefC
namespace Go.Proofs.YtbhjkfeonhddlaaDoor
open Go.RowKit Go.Shelf

set_option maxHeartbeats 2000000 in
theorem rlevel_any (d : IC) (hf : d.Fits) (hk : d.ok) (pA : Option Addr) (pc : Nat) (sA : Option Addr) (sc : Nat) (w : World) (hp : Rd w pA (d.prio.map (.int .i64))) (hs : Rd w sA (d.stack.map (.int .i64))) :
    Calls Tryd.prog 35 #[icv d pA pc sA sc] w fun e w' => e = .returned (.int .i64 d.level) ∧ Below w.heap.size w w' := by
  have Hp := Lib.hid hp; clear hp
  have Hs := Lib.hid hs; clear hs
  have hsl := hf.stack
  have bW : w.heap.size ≤ w.heap.size := Nat.le_refl _
  unfold icv
  have HE : ∀ W, W = w.alloc (.cells #[.int .u64 d.p, .int .u64 d.e, .int .u64 d.r, .int .u64 d.g, .slice pA d.prio.length pc, .int .i64 d.t, .slice sA d.stack.length sc] 25) → Hid (W.heap[w.heap.size]? = some (.cells #[.int .u64 d.p, .int .u64 d.e, .int .u64 d.r, .int .u64 d.g, .slice pA d.prio.length pc, .int .i64 d.t, .slice sA d.stack.length sc] 25 (0, 0))) ∧ Hid (Below w.heap.size w W) := by
    rintro W rfl
    exact ⟨heap_alloc_new _ _, (Below.refl w.heap.size w).alloc bW _⟩
  have HE := Lib.hid HE
  by_cases h0 : d.stack.length = 0
  · have Hr := Lib.hid (show d.level = d.t by unfold IC.level; rw [if_pos h0])
    rw [h0] at HE ⊢
    go_enter Tryd.func35, Tryd.ntmps35
    go_wp2
    refine name_world fun W hW => ?_
    obtain ⟨HX, HB⟩ := HE.out W hW
    clear hW
    obtain ⟨xd, yd⟩ := box_rules HX.out
    have ld := box_lt HX.out
    go_big_quiet (fail)
    go_wp2
    go_ret
    exact ⟨ret_int Hr.out.symm, bdrewN HB.out _⟩
  · obtain ⟨j, hj⟩ : ∃ j, d.stack.length = j + 1 := ⟨d.stack.length - 1, by omega⟩
    obtain ⟨g1, g2, _⟩ := hk.stack j (by omega)
    have Hr := Lib.hid (show d.level = max d.t (d.pr (d.st j)) by unfold IC.level; rw [if_neg h0, hj]; rfl)
    obtain ⟨m, hm⟩ := Int.eq_ofNat_of_zero_le g1
    rw [hm] at g2 Hr
    have Hq : Hid (d.pr (m : Int) = d.prio.getD m 0) := rfl
    have e3 : (0 : Int) < (d.stack.length : Int) := by omega
    have e4 : (d.stack.length : Int) - 1 = (j : Int) := by omega
    have E5 : Hid (j < d.stack.length) := by show _ < _; omega
    have E6 : Hid (m < d.prio.length) := by show _ < _; omega
    have e6 : m < d.prio.length := E6.out
    have e7 : j < d.stack.length := E5.out
    have Hm := Lib.hid hm
    clear hj h0 g1 g2 hm
    obtain ⟨ln, hln⟩ : ∃ n, d.stack.length = n := ⟨_, rfl⟩
    obtain ⟨pn, hpn⟩ : ∃ n, d.prio.length = n := ⟨_, rfl⟩
    rw [hln] at HE e3 e4 e7 hsl ⊢
    rw [hpn] at HE e6 ⊢
    have e3' : 0 < ln := by omega
    clear hln hpn
    go_enter Tryd.func35, Tryd.ntmps35
    go_wp2
    refine name_world fun W hW => ?_
    obtain ⟨HX, HB⟩ := HE.out W hW
    clear hW
    obtain ⟨xd, yd⟩ := box_rules HX.out
    have ld := box_lt HX.out
    obtain ⟨a, ha, c1⟩ := (Hs.out.below HB.out).int E5.out
    obtain ⟨b, hb, c2⟩ := (Hp.out.below HB.out).int E6.out
    subst ha hb
    change W.cell? _ = some (.int .i64 (d.st j)) at c1
    rw [Hm.out] at c1
    generalize d.prio.getD m 0 = q at *
    clear HE
    by_cases hq : d.t < q
    · go_big_quiet (fail)
      go_wp2
      go_big_quiet (fail)
      go_wp2
      go_ret
      exact ⟨ret_int (by rw [Hr.out, Hq.out]; omega), bdrewN (bdrewN HB.out _) _⟩
    · have hq2 : q ≤ d.t := by omega
      go_big_quiet (fail)
      go_wp2
      go_ret
      exact ⟨ret_int (by rw [Hr.out, Hq.out]; omega), bdrewN HB.out _⟩
end Go.Proofs.YtbhjkfeonhddlaaDoor

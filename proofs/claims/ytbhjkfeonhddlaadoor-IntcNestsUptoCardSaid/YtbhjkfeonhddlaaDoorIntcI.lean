/- Package intc: the walks of Level and Next. Conditions: the argument's lists read as they are said to; the de Bruijn table as its initialiser lays it (Next). (Printed by gen_intc.py.) -/
import Derived.Test.YtbhjkfeonhddlaaDoorIntcH
namespace Go.Proofs.YtbhjkfeonhddlaaDoor
open Go.RowKit Go.Shelf

open Classical in
/-- A number of a right controller. -/
noncomputable def IC.num (d : IC) (f : Int × Int) : Int × Int := if d.ok then f else (0, 2)
theorem IC.num_ok {d : IC} (hk : d.ok) (f : Int × Int) : d.num f = f := by unfold IC.num; rw [if_pos hk]
theorem IC.num_bad {d : IC} (hk : ¬ d.ok) (f : Int × Int) : d.num f = (0, 2) := by unfold IC.num; rw [if_neg hk]
def IC.nextF (d : IC) : Int × Int := if d.best = 64 then (0, 3) else (d.best, 0)

section
variable (d : IC) (hf : d.Fits) (pA : Option Addr) (pc : Nat) (sA : Option Addr) (sc : Nat) (w : World) (hp : Rd w pA (d.prio.map (.int .i64))) (hs : Rd w sA (d.stack.map (.int .i64)))
include hf hp hs


set_option maxHeartbeats 1000000 in
theorem levelC_any : Calls Tryd.prog 8 #[icv d pA pc sA sc] w (RetN (d.num (d.level, 0)) w) := by
  by_cases hk : d.ok
  · have f1 := Lib.hid (fun w hp hs => open_good d hf hk pA pc sA sc 0 w hp hs)
    have Hp := Lib.hid hp; clear hp
    have Hs := Lib.hid hs; clear hs
    have h1 := hk.len1
    have hle : lineErr d.prio.length 0 = 0 := by unfold lineErr; rw [if_pos ⟨by omega, by omega⟩]
    have Hle := Lib.hid hle; clear hle
    have HR := Lib.hid (IC.num_ok hk (d.level, 0))
    unfold icv at *
    go_enter Tryd.func8, Tryd.ntmps8
    go_wp2_with fail
    refine (f1.out _ (Hp.out.alloc _) (Hs.out.alloc _)).mono ?_
    rintro e w1 ⟨D, pA', pc', sA', sc', rfl, hD, hb⟩
    have HB := Lib.hid (((Below.refl w.heap.size w).alloc (Nat.le_refl _) _).trans (hb.mono (by simp)))
    have HD := Lib.hid hD; clear hD hb
    rw [Hle.out]
    have f2 := Lib.hid (level_any HD.out hf hk)
    go_wp2_with fail
    refine f2.out.mono ?_
    rintro e w' ⟨rfl, k, rfl⟩
    go_wp2_with fail
    go_ret2
    rw [HR.out]
    exact ⟨rfl, bdrewN HB.out k⟩
  · have f1 := Lib.hid (fun w hp hs => open_bad d hf hk pA pc sA sc 0 w hp hs)
    have HR := Lib.hid (IC.num_bad hk (d.level, 0))
    have Hp := Lib.hid hp; clear hp
    have Hs := Lib.hid hs; clear hs
    unfold icv at *
    go_enter Tryd.func8, Tryd.ntmps8
    go_wp2_with fail
    refine (f1.out _ (Hp.out.alloc _) (Hs.out.alloc _)).mono ?_
    rintro e w1 ⟨D, rfl, lD, hD, hb⟩
    have HB := Lib.hid (((Below.refl w.heap.size w).alloc (Nat.le_refl _) _).trans (hb.mono (by simp)))
    clear hD hb
    go_wp2_with fail
    go_ret2
    rw [HR.out]
    exact ⟨rfl, HB.out⟩

set_option maxHeartbeats 1000000 in
theorem nextC_any (hT : Tab w) : Calls Tryd.prog 10 #[icv d pA pc sA sc] w (RetN (d.num d.nextF) w) := by
  by_cases hk : d.ok
  · have f1 := Lib.hid (fun w hp hs => open_good d hf hk pA pc sA sc 0 w hp hs)
    have Hp := Lib.hid hp; clear hp
    have Hs := Lib.hid hs; clear hs
    have h1 := hk.len1
    have hle : lineErr d.prio.length 0 = 0 := by unfold lineErr; rw [if_pos ⟨by omega, by omega⟩]
    have Hle := Lib.hid hle; clear hle
    have HR := Lib.hid (IC.num_ok hk d.nextF)
    unfold icv at *
    go_enter Tryd.func10, Tryd.ntmps10
    go_wp2_with fail
    refine (f1.out _ (Hp.out.alloc _) (Hs.out.alloc _)).mono ?_
    rintro e w1 ⟨D, pA', pc', sA', sc', rfl, hD, hb⟩
    have HB := Lib.hid (((Below.refl w.heap.size w).alloc (Nat.le_refl _) _).trans (hb.mono (by simp)))
    have HD := Lib.hid hD; clear hD hb
    rw [Hle.out]
    have f2 := Lib.hid (next_any HD.out hf hk (hT.below HB.out hT.lt))
    have HL : Hid (d.nextF = if d.best = 64 then (0, 3) else (d.best, 0)) := rfl
    unfold NextPost at f2
    generalize d.best = b at *
    go_wp2_with fail
    refine f2.out.mono ?_
    rintro e w' ⟨rfl, hb2⟩
    have HB2 := Lib.hid hb2; clear hb2
    by_cases h64 : b = 64
    · subst h64
      have he : ((64 : Int) != 64) = false := rfl
      rw [he]
      go_wp2_with fail
      go_ret2
      rw [HR.out, HL.out]
      exact ⟨rfl, HB.out.trans (HB2.out.mono HB.out.size)⟩
    · have he : (b != 64) = true := by simpa using h64
      have H64 := Lib.hid h64; clear h64
      rw [he]
      go_wp2_with fail
      go_ret2
      rw [HR.out, HL.out, if_neg H64.out]
      exact ⟨rfl, HB.out.trans (HB2.out.mono HB.out.size)⟩
  · have f1 := Lib.hid (fun w hp hs => open_bad d hf hk pA pc sA sc 0 w hp hs)
    have HR := Lib.hid (IC.num_bad hk d.nextF)
    have Hp := Lib.hid hp; clear hp
    have Hs := Lib.hid hs; clear hs
    unfold icv at *
    go_enter Tryd.func10, Tryd.ntmps10
    go_wp2_with fail
    refine (f1.out _ (Hp.out.alloc _) (Hs.out.alloc _)).mono ?_
    rintro e w1 ⟨D, rfl, lD, hD, hb⟩
    have HB := Lib.hid (((Below.refl w.heap.size w).alloc (Nat.le_refl _) _).trans (hb.mono (by simp)))
    clear hD hb
    go_wp2_with fail
    go_ret2
    rw [HR.out]
    exact ⟨rfl, HB.out⟩

end
end Go.Proofs.YtbhjkfeonhddlaaDoor

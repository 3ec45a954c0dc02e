/- Packages conform and vergeref33: the walks of Acts. Conditions: lists that read. -/
import Derived.Test.YtpdanmdpaanafaaConC
import Derived.Test.YtpdanmdpaanafaaRefVF
namespace Go.Proofs.Ytpdanmdpaanafaa
open Go.RowKit Go.Shelf

/-- How many of a list are right, up to the first that is not. -/
def countOk {α : Type} (p : α → Bool) : List α → Nat
  | [] => 0
  | x :: l => if p x then countOk p l + 1 else 0
theorem countOk_at {α : Type} {p : α → Bool} {d : α} : ∀ {l : List α} {k : Nat}, k < l.length → (∀ j, j < k → p (l.getD j d) = true) → p (l.getD k d) = false → countOk p l = k
  | [], k, hk, _, _ => by simp at hk
  | x :: l, 0, _, _, hb => by
    have : p x = false := hb
    simp [countOk, this]
  | x :: l, k + 1, hk, h, hb => by
    have h0 : p x = true := h 0 (by omega)
    have ih := countOk_at (l := l) (k := k) (by simpa using hk) (fun j hj => h (j + 1) (by omega)) hb
    simp [countOk, h0, ih]
theorem countOk_all {α : Type} {p : α → Bool} {d : α} : ∀ {l : List α}, (∀ j, j < l.length → p (l.getD j d) = true) → countOk p l = l.length
  | [], _ => rfl
  | x :: l, h => by
    have h0 : p x = true := h 0 (by simp)
    have ih := countOk_all (l := l) (fun j hj => h (j + 1) (by simp; omega))
    simp [countOk, h0, ih]
/-- How many, and why not. -/
def RetC (y : Int) (n : Nat) (w : World) (e : Ending) (w' : World) : Prop := e = .returned (.tuple #[.int .i64 (if y = 0 then (n : Int) else 0), .int .i64 y]) ∧ Below w.heap.size w w'
theorem retC_no {y : Int} (h : y ≠ 0) (n : Nat) : (if y = 0 then (n : Int) else 0) = 0 := if_neg h
set_option maxHeartbeats 4000000 in
set_option maxRecDepth 100000 in
theorem acts_cfg (mn mx sw : Int) (ts : List Tk) (ls : List Ln) (hs : List Th) (A : Option Addr) (ca : Nat) (B : Option Addr) (cb : Nat) (D : Option Addr) (cd : Nat) (acts : List Ac) (T : Option Addr) (tc : Nat) (w : World)
    (hlt0 : ts.length ≤ 1048576) (hll : ls.length ≤ 1048576) (hlh : hs.length ≤ 1048576) (hla : acts.length ≤ 1048576)
    (ht : Rd w A (ts.flatMap tkc)) (hl : Rd w B (ls.flatMap lnc)) (hh : Rd w D (hs.flatMap thc)) (hmx : I64 mx) (ht64 : ∀ p ∈ ts.map (·.prio) ++ hs.map (·.prio), I64 p) (hr : Rd w T (acts.flatMap acc)) :
    Calls Try.prog 16 #[cfv mn mx sw A ts.length ca B ls.length cb D hs.length cd, .slice T acts.length tc] w
      (RetC (Cf.why ⟨mn, mx, sw, ts, ls, hs⟩) (countOk (actOk ts ls) acts) w) := by
  have Ht := Lib.hid ht; have Hl := Lib.hid hl; have Hh := Lib.hid hh; have Hr := Lib.hid hr
  have f1 := Lib.hid (fun w ht hl hh => check_cfg mn mx sw ts ls hs A ca B cb D cd w hlt0 hll hlh ht hl hh hmx ht64)
  have f2 := Lib.hid (fun b x w ht hl hc => act_any mn mx sw ts ls A ca B cb D hs.length cd b x w ht hl hc)
  clear ht hl hh hmx ht64 hr
  unfold cfv cfc at *
  generalize Cf.why ⟨mn, mx, sw, ts, ls, hs⟩ = y at *
  have HN : Hid (∀ k, k < acts.length → (∀ j, j < k → actOk ts ls (acts.getD j ac0) = true) → actOk ts ls (acts.getD k ac0) = false → countOk (actOk ts ls) acts = k) := Lib.hid (fun k hk h hb => countOk_at hk h hb)
  have HA : Hid ((∀ j, j < acts.length → actOk ts ls (acts.getD j ac0) = true) → countOk (actOk ts ls) acts = acts.length) := Lib.hid (fun h => countOk_all h)
  generalize countOk (actOk ts ls) acts = N at *
  go_enter Try.func16, Try.ntmps16
  go_wp2_with fail
  refine (f1.out _ (Ht.out.alloc _) (Hl.out.alloc _) (Hh.out.alloc _)).mono ?_
  rintro e w2 ⟨rfl, hb⟩
  have HX := Lib.hid (box_keep (heap_alloc_new w (.cells #[.int .i64 mn, .int .i64 mx, .int .i64 sw, .slice A ts.length ca, .slice B ls.length cb, .slice D hs.length cd] 28)) hb)
  have HB := Lib.hid (((Below.refl w.heap.size w).alloc (Nat.le_refl _) _).trans (hb.mono (by simp)))
  clear hb f1
  obtain ⟨hx, hy⟩ := box_rules HX.out
  by_cases hy0 : y = 0
  · subst hy0
    go_upto_region 5 with fail
    refine name_world fun W hW => ?_
    have HD : Hid (W.heap[w2.heap.size]? = some (.cells #[.int .i64 mn, .int .i64 mx, .int .i64 sw, .slice A ts.length ca, .slice B ls.length cb, .slice D hs.length cd] 124 (0, 0))) := Lib.hid (by rw [hW]; exact heap_alloc_new w2 _)
    have HBW : Hid (Below w.heap.size w W) := Lib.hid (by rw [hW]; exact HB.out.alloc HB.out.size _)
    clear hW
    go_wp2
    go_loopw [20] (fun i wr => ∃ k : Nat, k ≤ acts.length ∧ i = .int .i64 k ∧ Below W.heap.size W wr ∧ Hid (∀ j, j < k → actOk ts ls (acts.getD j ac0) = true)) (fun i _ => acts.length - (intOf i).toNat)
    case atStart => exact ⟨0, by omega, rfl, Below.refl _ _, fun j hj => absurd hj (Nat.not_lt_zero _)⟩
    case round =>
      obtain ⟨k, hk, rfl, hB, hm⟩ := hrel
      by_cases hlt : k < acts.length
      · have HB2 := Lib.hid (HBW.out.trans (hB.mono HBW.out.size))
        obtain ⟨a, x, rfl, hx2, g0, g1, g2, g3⟩ := (Hr.out.below HB2.out).acAt hlt
        have sB := hB.size
        have HWr := Lib.hid hB
        clear hB
        have HD2 := Lib.hid (box_keep HD.out HWr.out)
        have HtR := Lib.hid (Ht.out.below HB2.out); have HlR := Lib.hid (Hl.out.below HB2.out)
        have HX2 := Lib.hid hx2; clear hx2
        have f3 := Lib.hid (fun w ht hl hc => f2.out w2.heap.size x w ht hl hc)
        have HV : Hid (∀ b, actOk ts ls x = b → actOk ts ls (acts.getD k ac0) = b) := Lib.hid (fun b h => by rw [HX2.out]; exact h)
        obtain ⟨x0, x1, x2, x3⟩ := x
        unfold acv at f3
        dsimp only at f3 g0 g1 g2 g3
        generalize actOk ts ls ⟨x0, x1, x2, x3⟩ = v at *
        cases v with
        | true =>
          go_wp2_with fail
          refine (f3.out _ (HtR.out.alloc _) (HlR.out.alloc _) (box_alloc HD2.out _)).mono ?_
          rintro e w4 ⟨rfl, hb4⟩
          have HB4 := Lib.hid ((HWr.out.alloc sB _).trans (hb4.mono (by simp; omega)))
          clear hb4
          go_wp2
          go_roundw
          case rel =>
            refine ⟨k + 1, by omega, by go_num, HB4.out, fun j hj => ?_⟩
            by_cases he : j = k
            · subst he; exact HV.out _ rfl
            · exact hm.out j (by omega)
          case measure => simp [intOf]; omega
        | false =>
          go_wp2_with fail
          refine (f3.out _ (HtR.out.alloc _) (HlR.out.alloc _) (box_alloc HD2.out _)).mono ?_
          rintro e w4 ⟨rfl, hb4⟩
          have HB4 := Lib.hid ((HWr.out.alloc sB _).trans (hb4.mono (by simp; omega)))
          clear hb4
          go_wp2
          go_ret2
          exact ⟨by rw [HN.out k hlt hm.out (HV.out _ rfl), if_pos rfl]; rfl, HBW.out.trans (HB4.out.mono HBW.out.size)⟩
      · obtain rfl : k = acts.length := by omega
        have HWr := Lib.hid hB
        clear hB
        go_wp2
        go_ret2
        exact ⟨by rw [HA.out hm.out, if_pos rfl]; rfl, HBW.out.trans (HWr.out.mono HBW.out.size)⟩
  · have hy1 : (y != 0) = true := by simpa using hy0
    have HZ := Lib.hid (retC_no hy0 N)
    clear hy0
    go_wp2
    go_ret2
    exact ⟨by rw [HZ.out]; rfl, HB.out⟩

set_option maxHeartbeats 4000000 in
set_option maxRecDepth 100000 in
theorem acts33_cfg (mn mx sw : Int) (ts : List Tk) (ls : List Ln) (hs : List Th) (A : Option Addr) (ca : Nat) (B : Option Addr) (cb : Nat) (D : Option Addr) (cd : Nat) (acts : List Ac) (T : Option Addr) (tc : Nat) (w : World)
    (hlt0 : ts.length ≤ 1048576) (hll : ls.length ≤ 1048576) (hlh : hs.length ≤ 1048576) (hla : acts.length ≤ 1048576)
    (ht : Rd w A (ts.flatMap tkc)) (hl : Rd w B (ls.flatMap lnc)) (hh : Rd w D (hs.flatMap thc)) (hmx : I64 mx) (hr : Rd w T (acts.flatMap acc)) :
    Calls Try.prog 17 #[cfv mn mx sw A ts.length ca B ls.length cb D hs.length cd, .slice T acts.length tc] w
      (RetC (Cf.why ⟨mn, mx, sw, ts, ls, hs⟩) (countOk (actOk ts ls) acts) w) := by
  have Ht := Lib.hid ht; have Hl := Lib.hid hl; have Hh := Lib.hid hh; have Hr := Lib.hid hr
  have f1 := Lib.hid (fun w ht hl hh => check27_cfg mn mx sw ts ls hs A ca B cb D cd w hlt0 hll hlh ht hl hh hmx)
  have f2 := Lib.hid (fun x w ht hl => act33_any mn mx sw ts ls A ca B cb D hs.length cd x w ht hl)
  clear ht hl hh hmx hr
  unfold cfv at *
  generalize Cf.why ⟨mn, mx, sw, ts, ls, hs⟩ = y at *
  have HN : Hid (∀ k, k < acts.length → (∀ j, j < k → actOk ts ls (acts.getD j ac0) = true) → actOk ts ls (acts.getD k ac0) = false → countOk (actOk ts ls) acts = k) := Lib.hid (fun k hk h hb => countOk_at hk h hb)
  have HA : Hid ((∀ j, j < acts.length → actOk ts ls (acts.getD j ac0) = true) → countOk (actOk ts ls) acts = acts.length) := Lib.hid (fun h => countOk_all h)
  generalize countOk (actOk ts ls) acts = N at *
  go_enter Try.func17, Try.ntmps17
  go_wp2_with fail
  refine (f1.out _ (Ht.out.alloc _) (Hl.out.alloc _) (Hh.out.alloc _)).mono ?_
  rintro e W ⟨rfl, hb⟩
  have HX := Lib.hid (box_keep (heap_alloc_new w (.cells #[.int .i64 mn, .int .i64 mx, .int .i64 sw, .slice A ts.length ca, .slice B ls.length cb, .slice D hs.length cd] 28)) hb)
  have HBW := Lib.hid (((Below.refl w.heap.size w).alloc (Nat.le_refl _) _).trans (hb.mono (by simp)))
  clear hb f1
  obtain ⟨hx, hy⟩ := box_rules HX.out
  by_cases hy0 : y = 0
  · subst hy0
    go_wp2
    go_loopw [16] (fun i wr => ∃ k : Nat, k ≤ acts.length ∧ i = .int .i64 k ∧ Below W.heap.size W wr ∧ Hid (∀ j, j < k → actOk ts ls (acts.getD j ac0) = true)) (fun i _ => acts.length - (intOf i).toNat)
    case atStart => exact ⟨0, by omega, rfl, Below.refl _ _, fun j hj => absurd hj (Nat.not_lt_zero _)⟩
    case round =>
      obtain ⟨k, hk, rfl, hB, hm⟩ := hrel
      by_cases hlt : k < acts.length
      · have HB2 := Lib.hid (HBW.out.trans (hB.mono HBW.out.size))
        obtain ⟨a, x, rfl, hx2, g0, g1, g2, g3⟩ := (Hr.out.below HB2.out).acAt hlt
        have sB := hB.size
        have HWr := Lib.hid hB
        clear hB
        have HD2 := Lib.hid (box_keep HX.out HWr.out)
        obtain ⟨kx, ky⟩ := box_rules HD2.out
        have lx := box_lt HD2.out
        have HtR := Lib.hid (Ht.out.below HB2.out); have HlR := Lib.hid (Hl.out.below HB2.out)
        have HX2 := Lib.hid hx2; clear hx2
        have f3 := Lib.hid (fun w ht hl => f2.out x w ht hl)
        have HV : Hid (∀ b, actOk ts ls x = b → actOk ts ls (acts.getD k ac0) = b) := Lib.hid (fun b h => by rw [HX2.out]; exact h)
        obtain ⟨x0, x1, x2, x3⟩ := x
        unfold acv at f3
        dsimp only at f3 g0 g1 g2 g3
        generalize actOk ts ls ⟨x0, x1, x2, x3⟩ = v at *
        cases v with
        | true =>
          go_wp2_with fail
          refine (f3.out _ (HtR.out.alloc _) (HlR.out.alloc _)).mono ?_
          rintro e w4 ⟨rfl, hb4⟩
          have HB4 := Lib.hid ((HWr.out.alloc sB _).trans (hb4.mono (by simp; omega)))
          clear hb4
          go_wp2
          go_roundw
          case rel =>
            refine ⟨k + 1, by omega, by go_num, HB4.out, fun j hj => ?_⟩
            by_cases he : j = k
            · subst he; exact HV.out _ rfl
            · exact hm.out j (by omega)
          case measure => simp [intOf]; omega
        | false =>
          go_wp2_with fail
          refine (f3.out _ (HtR.out.alloc _) (HlR.out.alloc _)).mono ?_
          rintro e w4 ⟨rfl, hb4⟩
          have HB4 := Lib.hid ((HWr.out.alloc sB _).trans (hb4.mono (by simp; omega)))
          clear hb4
          go_wp2
          go_ret2
          exact ⟨by rw [HN.out k hlt hm.out (HV.out _ rfl), if_pos rfl]; rfl, HBW.out.trans (HB4.out.mono HBW.out.size)⟩
      · obtain rfl : k = acts.length := by omega
        have HWr := Lib.hid hB
        clear hB
        go_wp2
        go_ret2
        exact ⟨by rw [HA.out hm.out, if_pos rfl]; rfl, HBW.out.trans (HWr.out.mono HBW.out.size)⟩
  · have hy1 : (y != 0) = true := by simpa using hy0
    have HZ := Lib.hid (retC_no hy0 N)
    clear hy0
    go_wp2
    go_ret2
    exact ⟨by rw [HZ.out]; rfl, HBW.out⟩
end Go.Proofs.Ytpdanmdpaanafaa

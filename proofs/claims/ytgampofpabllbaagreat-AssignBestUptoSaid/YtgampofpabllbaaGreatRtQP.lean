/- Packages rta and vergeref28: the walks of open and bad. Conditions: lists that read. -/
import Derived.Test.YtgampofpabllbaaGreatRtPP
namespace Go.Proofs.YtgampofpabllbaaGreat
open Go.RowKit

/-- Why a task may not be asked for. -/
def askY (why : Int) (ts : List Tk) (n : Int) : Int := if why ≠ 0 then why else if n < 0 ∨ (ts.length : Int) ≤ n then 1 else 0
/-- A sheet, or why not. -/
def RetS (y : Int) (cs : Array Value) (w : World) (e : Ending) (w' : World) : Prop :=
  ∃ v, e = .returned (.tuple #[v, .int .i64 y]) ∧ (y ≠ 0 → v = .pointer none) ∧ (y = 0 → ∃ b, v = .pointer (some ⟨b, 0, none⟩) ∧ w'.heap[b]? = some (.cells cs 140 (0, 0))) ∧ Below w.heap.size w w'
theorem cell_of_below {w w' : World} (h : Below w.heap.size w w') {a : Addr} {v : Value} (hc : w.cell? a = some v) : w'.cell? a = some v := by
  refine (h.cell ?_).trans hc
  rcases Nat.lt_or_ge a.block w.heap.size with h | h
  · exact h
  · unfold World.cell? at hc
    rw [Array.getElem?_eq_none h] at hc
    cases hc
set_option maxHeartbeats 4000000 in
theorem open_any (mn mx sw : Int) (ts : List Tk) (ls : List Ln) (hs : List Th) (A : Option Addr) (ca : Nat) (B : Option Addr) (cb : Nat) (D : Option Addr) (cd : Nat) (n : Int) (w : World)
    (hlt0 : ts.length ≤ 1048576) (hll : ls.length ≤ 1048576) (hlh : hs.length ≤ 1048576)
    (ht : Rd w A (ts.flatMap tkc)) (hl : Rd w B (ls.flatMap lnc)) (hh : Rd w D (hs.flatMap thc)) (hmx : I64 mx) (ht64 : ∀ p ∈ ts.map (·.prio) ++ hs.map (·.prio), I64 p) :
    Calls Tryz.prog 89 #[cfv mn mx sw A ts.length ca B ls.length cb D hs.length cd, .int .i64 n] w
      (RetS (askY (Cf.why ⟨mn, mx, sw, ts, ls, hs⟩) ts n) (shc mn mx sw A ts.length ca B ls.length cb D hs.length cd (ts.getD n.toNat tk0)) w) := by
  have Ht := Lib.hid ht; have Hl := Lib.hid hl; have Hh := Lib.hid hh
  have f1 := Lib.hid (fun w ht hl hh => check_cfg mn mx sw ts ls hs A ca B cb D cd w hlt0 hll hlh ht hl hh hmx ht64)
  clear ht hl hh hmx ht64
  unfold cfv at *
  generalize Cf.why ⟨mn, mx, sw, ts, ls, hs⟩ = y at *
  have HO : Hid (askY y ts n = if y ≠ 0 then y else if n < 0 ∨ (ts.length : Int) ≤ n then 1 else 0) := Lib.hid rfl
  generalize askY y ts n = Y at *
  have HXt : Hid (ts.getD n.toNat tk0 = ts.getD n.toNat tk0) := Lib.hid rfl
  generalize hx0 : ts.getD n.toNat tk0 = x at *
  clear HXt
  have HXt := Lib.hid hx0
  clear hx0
  have HCS : Hid (shc mn mx sw A ts.length ca B ls.length cb D hs.length cd x = shc mn mx sw A ts.length ca B ls.length cb D hs.length cd x) := Lib.hid rfl
  generalize hcs : shc mn mx sw A ts.length ca B ls.length cb D hs.length cd x = CS at *
  clear HCS
  have HCS := Lib.hid hcs
  clear hcs
  go_enter Tryz.func89, Tryz.ntmps89
  go_wp2_with fail
  refine (f1.out _ (Ht.out.alloc _) (Hl.out.alloc _) (Hh.out.alloc _)).mono ?_
  rintro e w2 ⟨rfl, hb⟩
  have HX := Lib.hid (box_keep (heap_alloc_new w (.cells #[.int .i64 mn, .int .i64 mx, .int .i64 sw, .slice A ts.length ca, .slice B ls.length cb, .slice D hs.length cd] 28)) hb)
  have HB := Lib.hid (((Below.refl w.heap.size w).alloc (Nat.le_refl _) _).trans (hb.mono (by simp)))
  have hsz : w.heap.size + 1 ≤ w2.heap.size := by have := hb.size; simp at this; omega
  clear hb f1
  obtain ⟨hx, hy⟩ := box_rules HX.out
  by_cases hy0 : y = 0
  · subst hy0
    by_cases hn0 : n < 0
    · have HY := Lib.hid (show Y = 1 by rw [HO.out, if_neg (by simp), if_pos (.inl hn0)])
      clear HO
      go_wp2
      refine bodyPost_ret (v := .tuple #[.pointer none, .int .i64 1]) (by simp [results, Tryz.f89, go_sem]) rfl ?_
      exact ⟨_, by rw [HY.out], fun _ => rfl, fun h => (by rw [HY.out] at h; cases h), HB.out⟩
    · by_cases hn1 : (ts.length : Int) ≤ n
      · have HY := Lib.hid (show Y = 1 by rw [HO.out, if_neg (by simp), if_pos (.inr hn1)])
        clear HO
        go_wp2
        refine bodyPost_ret (v := .tuple #[.pointer none, .int .i64 1]) (by simp [results, Tryz.f89, go_sem]) rfl ?_
        exact ⟨_, by rw [HY.out], fun _ => rfl, fun h => (by rw [HY.out] at h; cases h), HB.out⟩
      · obtain ⟨m, rfl⟩ := Int.eq_ofNat_of_zero_le (show 0 ≤ n by omega)
        have hm : m < ts.length := by omega
        have HY := Lib.hid (show Y = 0 by rw [HO.out, if_neg (by simp), if_neg (by omega)])
        clear HO
        obtain ⟨a, x2, rfl, hx2, ⟨g0, g1, g2, g3⟩, g4, g5, g6, g7, g8, g9⟩ := (Ht.out.below HB.out).tkAt hm
        have he := HXt.out
        rw [Int.toNat_natCast, hx2] at he
        subst he
        clear hx2 HXt
        go_wp2_with fail
        have hR := fun w' (h : Hid (Below w2.heap.size w2 w')) => (box_rules (box_keep HX.out h.out)).1
        have r0 := fun w' (h : Hid (Below w2.heap.size w2 w')) => cell_of_below h.out g0
        have r1 := fun w' (h : Hid (Below w2.heap.size w2 w')) => cell_of_below h.out g1
        have r2 := fun w' (h : Hid (Below w2.heap.size w2 w')) => cell_of_below h.out g2
        have r3 := fun w' (h : Hid (Below w2.heap.size w2 w')) => cell_of_below h.out g3
        have r4 := fun w' (h : Hid (Below w2.heap.size w2 w')) => cell_of_below h.out g4
        have r5 := fun w' (h : Hid (Below w2.heap.size w2 w')) => cell_of_below h.out g5
        have r6 := fun w' (h : Hid (Below w2.heap.size w2 w')) => cell_of_below h.out g6
        have r7 := fun w' (h : Hid (Below w2.heap.size w2 w')) => cell_of_below h.out g7
        have r8 := fun w' (h : Hid (Below w2.heap.size w2 w')) => cell_of_below h.out g8
        have r9 := fun w' (h : Hid (Below w2.heap.size w2 w')) => cell_of_below h.out g9
        have hS0 := S_refl' w2
        go_region_held3 (fun w' => Hid (Below w2.heap.size w2 w')) ((first | assumption | exact S_alloc' (by assumption) _ | exact S_drew' (by assumption) | exact S_drew' (S_alloc' (by assumption) _))) (fail)
        clear r0 r1 r2 r3 r4 r5 r6 r7 r8 r9 hR hS0 g0 g1 g2 g3 g4 g5 g6 g7 g8 g9
        go_wp2
        refine bodyPost_ret (v := .tuple #[.pointer (some ⟨w2.heap.size, 0, none⟩), .int .i64 0]) (by simp [results, Tryz.f89, go_sem]) rfl ?_
        exact ⟨_, by rw [HY.out], fun h => absurd HY.out h, fun _ => ⟨_, rfl, by rw [← HCS.out]; exact heap_alloc_new w2 _⟩, (HB.out.alloc HB.out.size _).drew⟩
  · have HY := Lib.hid (show Y = y by rw [HO.out, if_pos hy0])
    clear HO
    go_wp2
    refine bodyPost_ret (v := .tuple #[.pointer none, .int .i64 y]) (by simp [results, Tryz.f89, go_sem]) rfl ?_
    exact ⟨_, by rw [HY.out], fun _ => rfl, fun h => absurd (HY.out.symm.trans h) hy0, HB.out⟩
end Go.Proofs.YtgampofpabllbaaGreat

/- Packages vergeref33 and vergeref31: the walks of Dense and Same. Conditions: lists that read. -/
import Derived.Test.YtpdanmdpaanafaaConU
import Derived.Test.YtpdanmdpaanafaaRefVF
namespace Go.Proofs.Ytpdanmdpaanafaa
open Go.RowKit Go.Shelf

set_option maxHeartbeats 4000000 in
set_option maxRecDepth 100000 in
theorem dense33_cfg (mn mx sw : Int) (ts : List Tk) (ls : List Ln) (hs : List Th) (A : Option Addr) (ca : Nat) (B : Option Addr) (cb : Nat) (D : Option Addr) (cd : Nat) (task n : Int) (w : World)
    (hlt0 : ts.length ≤ 1048576) (hll : ls.length ≤ 1048576) (hlh : hs.length ≤ 1048576)
    (ht : Rd w A (ts.flatMap tkc)) (hl : Rd w B (ls.flatMap lnc)) (hh : Rd w D (hs.flatMap thc)) (hmx : I64 mx) :
    Calls Try.prog 23 #[cfv mn mx sw A ts.length ca B ls.length cb D hs.length cd, .int .i64 task, .int .i64 n] w
      (RetA (denseY (Cf.why ⟨mn, mx, sw, ts, ls, hs⟩) ts task n) (densAll (Cf.why ⟨mn, mx, sw, ts, ls, hs⟩) ts task n) w) := by
  have Ht := Lib.hid ht; have Hl := Lib.hid hl; have Hh := Lib.hid hh
  have Hyt := Lib.hid (fun (h : Cf.why ⟨mn, mx, sw, ts, ls, hs⟩ = 0) => (cfIn_of h).ts)
  have f1 := Lib.hid (fun w ht hl hh => check27_cfg mn mx sw ts ls hs A ca B cb D cd w hlt0 hll hlh ht hl hh hmx)
  clear ht hl hh hmx
  unfold cfv at *
  generalize Cf.why ⟨mn, mx, sw, ts, ls, hs⟩ = y at *
  have HYb : Hid (y ≠ 0 → denseY y ts task n = y ∧ densAll y ts task n = []) := Lib.hid (fun h => denseY_bad h ts task n)
  have HYr : Hid (y = 0 → (inR task ts.length = false ∨ n < 0 ∨ 2048 < n) → denseY y ts task n = 1 ∧ densAll y ts task n = []) := Lib.hid (fun h h2 => by subst h; exact denseY_range h2)
  have HYs : Hid (y = 0 → ¬ (inR task ts.length = false ∨ n < 0 ∨ 2048 < n) → (ts.getD task.toNat tk0).kind ≠ 2 → denseY y ts task n = 7 ∧ densAll y ts task n = []) := Lib.hid (fun h h2 h3 => by subst h; exact denseY_state h2 h3)
  have HYo : Hid (y = 0 → ¬ (inR task ts.length = false ∨ n < 0 ∨ 2048 < n) → ¬ (ts.getD task.toNat tk0).kind ≠ 2 → denseY y ts task n = 0 ∧ densAll y ts task n = densL task (ts.getD task.toNat tk0).cost (ts.getD task.toNat tk0).period n.toNat) := Lib.hid (fun h h2 h3 => by subst h; exact denseY_ok h2 h3)
  generalize denseY y ts task n = Y at *
  generalize densAll y ts task n = L at *
  go_enter Try.func23, Try.ntmps23
  go_wp2_with fail
  refine (f1.out _ (Ht.out.alloc _) (Hl.out.alloc _) (Hh.out.alloc _)).mono ?_
  rintro e W ⟨rfl, hb⟩
  have HX := Lib.hid (box_keep (heap_alloc_new w (.cells #[.int .i64 mn, .int .i64 mx, .int .i64 sw, .slice A ts.length ca, .slice B ls.length cb, .slice D hs.length cd] 28)) hb)
  have HBW := Lib.hid (((Below.refl w.heap.size w).alloc (Nat.le_refl _) _).trans (hb.mono (by simp)))
  clear hb f1
  obtain ⟨hx, hy⟩ := box_rules HX.out
  by_cases hy0 : y = 0
  · subst hy0
    clear Hyt HYb
    by_cases hin : inR task ts.length = true
    · obtain ⟨j, rfl, hj⟩ := inR_get hin
      have d1 : decide ((j : Int) < (ts.length : Int)) = true := by simp; omega
      have d2 : decide (j < ts.length) = true := by simp; omega
      have d3 : decide ((ts.length : Int) ≤ (j : Int)) = false := by simp; omega
      have d4 : decide (ts.length ≤ j) = false := by simp; omega
      have d5 : decide ((j : Int) < 0) = false := by simp
      obtain ⟨a, x, rfl, hx2, ⟨g0, g1, g2, g3⟩, g4, g5, g6, g7, g8, g9⟩ := (Ht.out.below HBW.out).tkAt hj
      have hq : ts.getD (j : Int).toNat tk0 = x := hx2
      rw [hq] at HYs HYo
      have hnr : (inR (j : Int) ts.length = false ∨ n < 0 ∨ 2048 < n) → n < 0 ∨ 2048 < n := fun h => by rcases h with h | h; (rw [h] at hin; cases hin); exact h
      have Hnr := Lib.hid hnr
      clear hin hx2 hq hnr
      obtain ⟨x0, x1, x2, x3, x4, x5, x6, x7, x8, x9⟩ := x
      dsimp only at g0 g1 g2 g3 g4 g5 g6 g7 g8 g9 HYs HYo
      by_cases hn : n < 0 ∨ 2048 < n
      · obtain ⟨rfl, rfl⟩ := HYr.out (by first | rfl | trivial) (.inr hn)
        clear HYr HYs HYo
        rcases hn with h | h
        · go_wp2
          go_ret2
          exact retA_nil rfl HBW.out
        · have h' : ¬ n < 0 := by omega
          go_wp2
          go_ret2
          exact retA_nil rfl HBW.out
      · have hno := fun h => hn (Hnr.out h)
        obtain ⟨m, rfl⟩ : ∃ m : Nat, n = m := ⟨n.toNat, by omega⟩
        have hm : m ≤ 2048 := by omega
        have e1 : decide ((2048 : Int) < (m : Int)) = false := by simp; omega
        have e2 : decide ((m : Int) < 0) = false := by simp
        by_cases hk : x0 = 2
        · subst hk
          obtain ⟨rfl, hL⟩ := HYo.out (by first | rfl | trivial) hno (by simp)
          have HLL := Lib.hid hL
          clear HYr HYs HYo hL hn hno Hnr
          go_upto_region 9 with fail
          refine name_world fun W3 hW3 => ?_
          have HM3 : Hid (W3.heap[W.heap.size]? = some (.cells #[.int .u8 2, .int .i64 x1, .int .i64 x2, .int .i64 x3, .int .i64 x4, .int .i64 x5, .int .i64 x6, .int .i64 x7, .int .i64 x8, .int .i64 x9] 44 (0, 0))) := Lib.hid (by rw [hW3]; exact heap_alloc_new W _)
          have HB3 : Hid (Below W.heap.size W W3) := Lib.hid (by rw [hW3]; exact (Below.refl _ _).alloc (Nat.le_refl _) _)
          clear hW3
          have s3 := HB3.out.size
          clear g0 g1 g2 g3 g4 g5 g6 g7 g8 g9
          go_wp2
          go_loopw [10, 11] (fun s i wr => ∃ (k : Nat) (A1 : Option Addr) (c1 : Nat), k ≤ m ∧ i = .int .i64 k ∧ s = .slice A1 (k + k) c1 ∧ wr.ownsRow W3.heap.size 118 4 (.slice A1 (k + k) c1) (k + k) (densC j x5 x2 k) ∧ Below W3.heap.size W3 wr) (fun _ i _ => m - (intOf i).toNat)
          case atStart => exact ⟨0, none, 0, by omega, rfl, rfl, own_nilK _ _ _ _, Below.refl _ _⟩
          case round =>
            obtain ⟨k, A1, c1, hk, rfl, rfl, ho, hB⟩ := hrel
            have HO := Lib.hid ho; have sB := hB.size; have HWr := Lib.hid hB
            clear ho hB
            have HM4 := Lib.hid (box_keep HM3.out HWr.out)
            obtain ⟨mx4, my4⟩ := box_rules HM4.out
            by_cases hlt : k < m
            · go_wp2_with (at_builtin; go_loud (refine wp_appNK rfl _ _ sl_act (by decide) rfl (own_allocK HO.out _) rfl (by simp; omega) _ 2 _ (pairC j x5 x2) rfl rfl (show Rd _ _ (pairC (j : Int) x5 x2) from rd_box (heap_alloc_new wr _)) (by simp [pairC, Value.oneCell']) (by omega) ?_); (intro A4 c4 w4 ho4 hb4; have HO4 := Lib.hid ho4; have HB4 := Lib.hid ((HWr.out.alloc sB _).trans hb4); clear ho4 hb4))
              go_roundw
              case rel => exact ⟨k + 1, A4, c4, by omega, by go_num, by rw [show k + 1 + (k + 1) = k + k + 2 by omega], by rw [show k + 1 + (k + 1) = k + k + 2 by omega]; exact HO4.out, HB4.out⟩
              case measure => simp [intOf]; omega
            · obtain rfl : k = m := by omega
              go_wp2
              go_ret2
              refine ⟨A1, c1, ?_, ?_, HBW.out.trans ((HB3.out.trans (HWr.out.mono s3)).mono HBW.out.size)⟩
              · rw [HLL.out, show ((k : Int)).toNat = k from rfl, dens_len]; rfl
              · rw [HLL.out, show ((k : Int)).toNat = k from rfl, dens_cells]; exact own_rdK HO.out
        · obtain ⟨rfl, rfl⟩ := HYs.out (by first | rfl | trivial) hno (by simpa using hk)
          have hk2 : (x0 != 2) = true := by simpa using hk
          clear HYr HYs HYo hn hno Hnr
          go_wp2
          go_ret2
          exact retA_nil rfl (HBW.out.alloc HBW.out.size _)
    · have hno := inR_no hin
      obtain ⟨rfl, rfl⟩ := HYr.out (by first | rfl | trivial) (.inl hno)
      clear hin HYr HYs HYo
      rcases inR_cases hno with h | ⟨h, h'⟩
      · clear hno
        go_wp2
        go_ret2
        exact retA_nil rfl HBW.out
      · clear hno
        have e1 : decide (task < (ts.length : Int)) = false := by simp; omega
        have e3 : decide ((ts.length : Int) ≤ task) = true := by simp; omega
        go_wp2
        go_ret2
        exact retA_nil rfl HBW.out
  · obtain ⟨hY, rfl⟩ := HYb.out hy0
    subst hY
    clear HYb HYo HYs HYr
    have hy1 : (Y != 0) = true := by simpa using hy0
    clear hy0
    go_wp2
    go_ret2
    exact retA_nil rfl HBW.out

/-- Whether two lists of acts are one: at one list. -/
theorem same31_one (l : List Ac) (hl : l.length ≤ 1048576) (A : Option Addr) (c : Nat) (B : Option Addr) (d : Nat) (w : World) (ha : Rd w A (l.flatMap acc)) (hb : Rd w B (l.flatMap acc)) :
    Calls Try.prog 24 #[.slice A l.length c, .slice B l.length d] w fun e w' => e = .returned (.bool true) ∧ Below w.heap.size w w' := by
  have Ha := Lib.hid ha; have Hb := Lib.hid hb
  clear ha hb
  go_enter Try.func24, Try.ntmps24
  go_wp2
  go_loopw [13] (fun i wr => ∃ k : Nat, k ≤ l.length ∧ i = .int .i64 k ∧ ∃ n, wr = w.drewN n) (fun i _ => l.length - (intOf i).toNat)
  case atStart => exact ⟨0, by omega, rfl, 0, rfl⟩
  case round =>
    obtain ⟨k, hk, rfl, n, rfl⟩ := hrel
    by_cases hlt : k < l.length
    · obtain ⟨a, x, rfl, hx, g0, g1, g2, g3⟩ := Ha.out.acAt hlt
      obtain ⟨b, y, rfl, hy, q0, q1, q2, q3⟩ := Hb.out.acAt hlt
      obtain rfl := hx.symm.trans hy
      clear hx hy
      obtain ⟨x0, x1, x2, x3⟩ := x
      dsimp only at g0 g1 g2 g3 q0 q1 q2 q3
      go_wp2
      go_quiet (fail)
      go_wp2
      go_roundw
      case rel => exact ⟨k + 1, by omega, by go_num, _, rfl⟩
      case measure => simp [intOf]; omega
    · obtain rfl : k = l.length := by omega
      go_wp2
      go_ret
      exact ⟨rfl, bdrewN (Below.refl _ _) _⟩
end Go.Proofs.Ytpdanmdpaanafaa

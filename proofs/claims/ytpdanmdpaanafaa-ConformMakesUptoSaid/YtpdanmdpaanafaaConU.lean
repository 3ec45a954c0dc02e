/- Packages conform and vergeref33: the walks of Dense. Conditions: lists that read. -/
import Derived.Test.YtpdanmdpaanafaaConT
namespace Go.Proofs.Ytpdanmdpaanafaa
open Go.RowKit Go.Shelf

def denseY (y : Int) (ts : List Tk) (task n : Int) : Int :=
  if y ≠ 0 then y else if inR task ts.length = false ∨ n < 0 ∨ 2048 < n then 1 else if (ts.getD task.toNat tk0).kind ≠ 2 then 7 else 0
def pairA (task cost per : Int) : List Ac := [⟨3, task, cost, 0⟩, ⟨1, 0, per, 0⟩]
def pairC (task cost per : Int) : List Value := [.int .u8 3, .int .i64 task, .int .i64 cost, .int .i64 0, .int .u8 1, .int .i64 0, .int .i64 per, .int .i64 0]
def densL (task cost per : Int) : Nat → List Ac
  | 0 => []
  | k + 1 => densL task cost per k ++ pairA task cost per
def densC (task cost per : Int) : Nat → List Value
  | 0 => []
  | k + 1 => densC task cost per k ++ pairC task cost per
theorem dens_cells (task cost per : Int) : ∀ k, (densL task cost per k).flatMap acc = densC task cost per k
  | 0 => rfl
  | k + 1 => by
    show (densL task cost per k ++ pairA task cost per).flatMap acc = densC task cost per k ++ pairC task cost per
    rw [List.flatMap_append, dens_cells]
    rfl
theorem dens_len (task cost per : Int) : ∀ k, (densL task cost per k).length = k + k
  | 0 => rfl
  | k + 1 => by
    show (densL task cost per k ++ pairA task cost per).length = _
    rw [List.length_append, dens_len]
    show k + k + 2 = _
    omega
def densAll (y : Int) (ts : List Tk) (task n : Int) : List Ac := if denseY y ts task n = 0 then densL task (ts.getD task.toNat tk0).cost (ts.getD task.toNat tk0).period n.toNat else []
/-- A list of acts, and why not. -/
def RetA (y : Int) (l : List Ac) (w : World) (e : Ending) (w' : World) : Prop :=
  ∃ A c, e = .returned (.tuple #[.slice A l.length c, .int .i64 y]) ∧ Rd w' A (l.flatMap acc) ∧ Below w.heap.size w w'
theorem sl_act : SlK Try.prog 48 118 4 32 := SlK.mk' (z := .agg #[.int .u8 0, .int .i64 0, .int .i64 0, .int .i64 0]) Try.underlying48 (by kernel_rfl) rfl (by decide)
theorem denseY_bad {y : Int} (h : y ≠ 0) (ts : List Tk) (task n : Int) : denseY y ts task n = y ∧ densAll y ts task n = [] := by
  have : denseY y ts task n = y := by unfold denseY; rw [if_pos h]
  exact ⟨this, by unfold densAll; rw [this, if_neg h]⟩
theorem denseY_range {ts : List Tk} {task n : Int} (h : inR task ts.length = false ∨ n < 0 ∨ 2048 < n) : denseY 0 ts task n = 1 ∧ densAll 0 ts task n = [] := by
  have : denseY 0 ts task n = 1 := by unfold denseY; rw [if_neg (by simp), if_pos h]
  exact ⟨this, by unfold densAll; rw [this, if_neg (by simp)]⟩
theorem denseY_state {ts : List Tk} {task n : Int} (h : ¬ (inR task ts.length = false ∨ n < 0 ∨ 2048 < n)) (hk : (ts.getD task.toNat tk0).kind ≠ 2) : denseY 0 ts task n = 7 ∧ densAll 0 ts task n = [] := by
  have : denseY 0 ts task n = 7 := by unfold denseY; rw [if_neg (by simp), if_neg h, if_pos hk]
  exact ⟨this, by unfold densAll; rw [this, if_neg (by simp)]⟩
theorem denseY_ok {ts : List Tk} {task n : Int} (h : ¬ (inR task ts.length = false ∨ n < 0 ∨ 2048 < n)) (hk : ¬ (ts.getD task.toNat tk0).kind ≠ 2) : denseY 0 ts task n = 0 ∧ densAll 0 ts task n = densL task (ts.getD task.toNat tk0).cost (ts.getD task.toNat tk0).period n.toNat := by
  have : denseY 0 ts task n = 0 := by unfold denseY; rw [if_neg (by simp), if_neg h, if_neg hk]
  exact ⟨this, by unfold densAll; rw [this, if_pos rfl]⟩
theorem retA_nil {y : Int} {w w' : World} {v : Value} (hv : v = .tuple #[.slice none 0 0, .int .i64 y]) (hb : Below w.heap.size w w') : RetA y [] w (.returned v) w' := ⟨none, 0, by rw [hv]; rfl, Rd.nil _ _, hb⟩

set_option maxHeartbeats 4000000 in
set_option maxRecDepth 100000 in
theorem dense_cfg (mn mx sw : Int) (ts : List Tk) (ls : List Ln) (hs : List Th) (A : Option Addr) (ca : Nat) (B : Option Addr) (cb : Nat) (D : Option Addr) (cd : Nat) (task n : Int) (w : World)
    (hlt0 : ts.length ≤ 1048576) (hll : ls.length ≤ 1048576) (hlh : hs.length ≤ 1048576)
    (ht : Rd w A (ts.flatMap tkc)) (hl : Rd w B (ls.flatMap lnc)) (hh : Rd w D (hs.flatMap thc)) (hmx : I64 mx) (ht64 : ∀ p ∈ ts.map (·.prio) ++ hs.map (·.prio), I64 p) :
    Calls Try.prog 22 #[cfv mn mx sw A ts.length ca B ls.length cb D hs.length cd, .int .i64 task, .int .i64 n] w
      (RetA (denseY (Cf.why ⟨mn, mx, sw, ts, ls, hs⟩) ts task n) (densAll (Cf.why ⟨mn, mx, sw, ts, ls, hs⟩) ts task n) w) := by
  have Ht := Lib.hid ht; have Hl := Lib.hid hl; have Hh := Lib.hid hh
  have Hyt := Lib.hid (fun (h : Cf.why ⟨mn, mx, sw, ts, ls, hs⟩ = 0) => (cfIn_of h).ts)
  have f1 := Lib.hid (fun w ht hl hh => check_cfg mn mx sw ts ls hs A ca B cb D cd w hlt0 hll hlh ht hl hh hmx ht64); clear ht64
  clear ht hl hh hmx
  unfold cfv at *
  generalize Cf.why ⟨mn, mx, sw, ts, ls, hs⟩ = y at *
  have HYb : Hid (y ≠ 0 → denseY y ts task n = y ∧ densAll y ts task n = []) := Lib.hid (fun h => denseY_bad h ts task n)
  have HYr : Hid (y = 0 → (inR task ts.length = false ∨ n < 0 ∨ 2048 < n) → denseY y ts task n = 1 ∧ densAll y ts task n = []) := Lib.hid (fun h h2 => by subst h; exact denseY_range h2)
  have HYs : Hid (y = 0 → ¬ (inR task ts.length = false ∨ n < 0 ∨ 2048 < n) → (ts.getD task.toNat tk0).kind ≠ 2 → denseY y ts task n = 7 ∧ densAll y ts task n = []) := Lib.hid (fun h h2 h3 => by subst h; exact denseY_state h2 h3)
  have HYo : Hid (y = 0 → ¬ (inR task ts.length = false ∨ n < 0 ∨ 2048 < n) → ¬ (ts.getD task.toNat tk0).kind ≠ 2 → denseY y ts task n = 0 ∧ densAll y ts task n = densL task (ts.getD task.toNat tk0).cost (ts.getD task.toNat tk0).period n.toNat) := Lib.hid (fun h h2 h3 => by subst h; exact denseY_ok h2 h3)
  generalize denseY y ts task n = Y at *
  generalize densAll y ts task n = L at *
  go_enter Try.func22, Try.ntmps22
  go_wp2_with fail
  refine (f1.out _ (Ht.out.alloc _) (Hl.out.alloc _) (Hh.out.alloc _)).mono ?_
  rintro e w2 ⟨rfl, hb⟩
  have HX := Lib.hid (box_keep (heap_alloc_new w (.cells #[.int .i64 mn, .int .i64 mx, .int .i64 sw, .slice A ts.length ca, .slice B ls.length cb, .slice D hs.length cd] 28)) hb)
  have HB := Lib.hid (((Below.refl w.heap.size w).alloc (Nat.le_refl _) _).trans (hb.mono (by simp)))
  clear hb f1
  obtain ⟨hx, hy⟩ := box_rules HX.out
  by_cases hy0 : y = 0
  · subst hy0
    have HTs := Lib.hid (Hyt.out (by first | rfl | trivial))
    clear Hyt HYb
    go_upto_region 5 with fail
    refine name_world fun W hW => ?_
    have HD : Hid (W.heap[w2.heap.size]? = some (.cells #[.int .i64 mn, .int .i64 mx, .int .i64 sw, .slice A ts.length ca, .slice B ls.length cb, .slice D hs.length cd] 124 (0, 0))) := Lib.hid (by rw [hW]; exact heap_alloc_new w2 _)
    have HBW : Hid (Below w.heap.size w W) := Lib.hid (by rw [hW]; exact HB.out.alloc HB.out.size _)
    clear hW
    by_cases hin : inR task ts.length = true
    · obtain ⟨j, rfl, hj⟩ := inR_get hin
      obtain ⟨a, x, rfl, hx2, ⟨g0, g1, g2, g3⟩, g4, g5, g6, g7, g8, g9⟩ := (Ht.out.below HBW.out).tkAt hj
      have fT := Lib.hid (deal_task mn mx sw a ts.length ca B ls.length cb D hs.length cd w2.heap.size j hj W HD.out)
      have HTI : Hid (TkIn x sw) := Lib.hid (by rw [← hx2]; exact HTs.out _ (getD_mem hj))
      have hq : ts.getD (j : Int).toNat tk0 = x := hx2
      rw [hq] at HYs HYo
      have hnr : (inR (j : Int) ts.length = false ∨ n < 0 ∨ 2048 < n) → n < 0 ∨ 2048 < n := fun h => by rcases h with h | h; (rw [h] at hin; cases hin); exact h
      have Hin := Lib.hid hin; have Hnr := Lib.hid hnr
      clear hin hx2 hq HTs hnr
      obtain ⟨x0, x1, x2, x3, x4, x5, x6, x7, x8, x9⟩ := x
      dsimp only at g0 g1 g2 g3 g4 g5 g6 g7 g8 g9 HYs HYo
      by_cases hn : n < 0 ∨ 2048 < n
      · obtain ⟨rfl, rfl⟩ := HYr.out (by first | rfl | trivial) (.inr hn)
        clear HYr HYs HYo
        rcases hn with h | h
        · go_wp2_with (refine (fT.out).mono ?_; rintro e w' ⟨rfl, rfl⟩)
          go_ret2
          exact retA_nil rfl HBW.out
        · have h' : ¬ n < 0 := by omega
          go_wp2_with (refine (fT.out).mono ?_; rintro e w' ⟨rfl, rfl⟩)
          go_ret2
          exact retA_nil rfl HBW.out
      · have hno := fun h => hn (Hnr.out h)
        obtain ⟨m, rfl⟩ : ∃ m : Nat, n = m := ⟨n.toNat, by omega⟩
        have hm : m ≤ 2048 := by omega
        have e1 : decide ((2048 : Int) < (m : Int)) = false := by simp; omega
        have e2 : decide ((m : Int) < 0) = false := by simp
        by_cases hk : x0 = 2
        · subst hk
          obtain ⟨rfl, hL⟩ := HYo.out (by first | rfl | trivial) hno (by simp)
          have HLL := Lib.hid hL
          have fG := Lib.hid (fun w => gap_two x2 HTI.out.period w)
          unfold crv at fG
          clear HYr HYs HYo hL hn hno Hnr
          go_wp2_with (refine (fT.out).mono ?_; rintro e w' ⟨rfl, rfl⟩)
          have hR := fun w' (h : Hid (Below W.heap.size W w')) => (h.out.cell (p := ⟨(a.add (j * 10)).block, (a.add (j * 10)).off + 2, none⟩) (World.block_lt_of_cell? W _ g2)).trans g2
          have hS0 := S_refl' W
          go_region_held3 (fun w' => Hid (Below W.heap.size W w')) ((first | assumption | exact S_alloc' (by assumption) _ | exact S_drew' (by assumption) | exact S_drew' (S_alloc' (by assumption) _))) ((go_at_call 52; refine (fG.out _).mono ?_; rintro e w' ⟨rfl, hb⟩; have hk := S_call' (W := W) (by assumption) hb; clear hb))
          clear hR hS0
          go_wp2_with fail
          refine name_world fun W3 hW3 => ?_
          have HB3 : Hid (Below W.heap.size W W3) := by subst hW3; assumption
          clear hW3 fG
          have s3 := HB3.out.size
          have lA := World.block_lt_of_cell? W _ g5
          have hA3 := (HB3.out.cell (p := ⟨(a.add (j * 10)).block, (a.add (j * 10)).off + 5, none⟩) lA).trans g5
          have lA3 := World.block_lt_of_cell? W3 _ hA3
          clear g0 g1 g2 g3 g4 g5 g6 g7 g8 g9 lA
          go_loopw [13, 59] (fun s i wr => ∃ (k : Nat) (A1 : Option Addr) (c1 : Nat), k ≤ m ∧ i = .int .i64 k ∧ s = .slice A1 (k + k) c1 ∧ wr.ownsRow W3.heap.size 118 4 (.slice A1 (k + k) c1) (k + k) (densC j x5 x2 k) ∧ Below W3.heap.size W3 wr) (fun _ i _ => m - (intOf i).toNat)
          case atStart => exact ⟨0, none, 0, by omega, rfl, rfl, own_nilK _ _ _ _, Below.refl _ _⟩
          case round =>
            obtain ⟨k, A1, c1, hk, rfl, rfl, ho, hB⟩ := hrel
            have HO := Lib.hid ho; have sB := hB.size; have HWr := Lib.hid hB
            clear ho hB
            by_cases hlt : k < m
            · have hA4 := (HWr.out.cell (p := ⟨(a.add (j * 10)).block, (a.add (j * 10)).off + 5, none⟩) lA3).trans hA3
              go_wp2_with (at_builtin; go_loud (refine wp_appNK rfl _ _ sl_act (by decide) rfl (own_allocK HO.out _) rfl (by simp; omega) _ 2 _ (pairC j x5 x2) rfl rfl (show Rd _ _ (pairC (j : Int) x5 x2) from rd_box (heap_alloc_new wr _)) (by simp [pairC, Value.oneCell']) (by omega) ?_); (intro A4 c4 w4 ho4 hb4; have HO4 := Lib.hid ho4; have HB4 := Lib.hid ((HWr.out.alloc sB _).trans hb4); clear ho4 hb4))
              go_roundw
              case rel => exact ⟨k + 1, A4, c4, by omega, by go_num, by rw [show k + 1 + (k + 1) = k + k + 2 by omega], by rw [show k + 1 + (k + 1) = k + k + 2 by omega]; exact HO4.out, HB4.out⟩
              case measure => simp [intOf]; omega
            · obtain rfl : k = m := by omega
              go_wp2
              go_ret2
              refine ⟨A1, c1, ?_, ?_, HBW.out.trans ((HB3.out.trans (HWr.out.mono s3)).mono HBW.out.size)⟩
              · rw [HLL.out, show ((k : Int)).toNat = k from rfl, dens_len]; rfl
              · rw [HLL.out, show ((k : Int)).toNat = k from rfl, dens_cells]; exact own_rdK HO.out
        · obtain ⟨rfl, rfl⟩ := HYs.out (by first | rfl | trivial) hno (by simpa using hk)
          have hk2 : (x0 != 2) = true := by simpa using hk
          clear HYr HYs HYo hn hno Hnr
          go_wp2_with (refine (fT.out).mono ?_; rintro e w' ⟨rfl, rfl⟩)
          go_ret2
          exact retA_nil rfl HBW.out
    · have hno := inR_no hin
      obtain ⟨rfl, rfl⟩ := HYr.out (by first | rfl | trivial) (.inl hno)
      have fT := Lib.hid (deal_task_no mn mx sw A ts.length ca B ls.length cb D hs.length cd w2.heap.size task hno W HD.out)
      clear hin hno HYr HYs HYo
      go_wp2_with (refine (fT.out).mono ?_; rintro e w' ⟨rfl, rfl⟩)
      go_ret2
      exact retA_nil rfl HBW.out
  · obtain ⟨hY, rfl⟩ := HYb.out hy0
    subst hY
    clear HYb HYo HYs HYr
    have hy1 : (Y != 0) = true := by simpa using hy0
    clear hy0
    go_wp2
    go_ret2
    exact retA_nil rfl HB.out
end Go.Proofs.Ytpdanmdpaanafaa

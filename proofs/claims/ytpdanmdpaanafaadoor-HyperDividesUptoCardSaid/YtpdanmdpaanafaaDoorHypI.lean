/- vergelaw35: the walk of lives: the answers that the document gives are given. Conditions: the de Bruijn table as its initialiser lays it. -/
import Derived.Test.YtpdanmdpaanafaaDoorHypH
namespace Go.Proofs.YtpdanmdpaanafaaDoor
open Go.RowKit Go.Shelf

def tkA : Tk := ⟨1, 5, 40, 3, 40, 9, 1, -1, 0, 0⟩
def tkB : Tk := ⟨1, 3, 60, 0, 60, 20, 1, -1, 0, 0⟩
def cL : Cf := ⟨4, 100, 0, [tkA, tkB], [], []⟩
theorem gcd_eq {a b : Int} {x : Int × Int} (h : gcdOf a b = x) (w : World) (hT : Tab w) : Calls Tryd.prog 8 #[.int .i64 a, .int .i64 b] w (RetT x w) := by rw [← h]; exact gcd_any a b w hT
theorem lcm_eq {l : List Int} {x : Int × Int} (h : lcmOf l = x) (hl : l.length ≤ 1048576) (A : Option Addr) (c : Nat) (w : World) (hr : Rd w A (l.map (.int .i64))) (hT : Tab w) : Calls Tryd.prog 10 #[.slice A l.length c] w (RetT x w) := by rw [← h]; exact lcm_any l hl A c w hr hT
theorem v_gcd1 : gcdOf 12 18 = (6, 0) := by kernel_rfl
theorem v_gcd2 : gcdOf 0 0 = (0, 1) := by kernel_rfl
theorem v_lcm1 : lcmOf [4, 6, 10] = (60, 0) := by kernel_rfl
theorem v_lcm2 : lcmOf [2251799813685248, 3] = (0, 10) := by kernel_rfl
theorem v_per1 : periodOf cL = (120, 0) := by kernel_rfl
theorem v_per2 : periodOf ⟨0, 0, 0, [], [], []⟩ = (0, 2) := by kernel_rfl
theorem v_nth : nthOf cL 0 2 = (83, 0) := by kernel_rfl
theorem v_jobs : jobsOf cL 0 3 84 = (3, 0) := by kernel_rfl
theorem v_64 : ∀ p ∈ cL.ts.map (·.prio) ++ cL.hs.map (·.prio), I64 p := by
  intro p hp
  simp [cL, tkA, tkB] at hp
  unfold I64
  omega
/-- The configuration's value; its tasks lie at b. -/
def cLv (b : Nat) : Value := .agg #[.int .i64 4, .int .i64 100, .int .i64 0, .slice (some ⟨b, 0, none⟩) 2 2, .slice none 0 0, .slice none 0 0]
def cLc : Array Value := (cL.ts.flatMap tkc).toArray
theorem per_L {b : Nat} {w : World} (h : w.heap[b]? = some (.cells cLc 44 (0, 0))) (hT : Tab w) : Calls Tryd.prog 12 #[cLv b] w (RetB (120, 0) w) := by
  have k := period_cfg 4 100 0 cL.ts [] [] (some ⟨b, 0, none⟩) 2 none 0 none 0 w (by decide) (by decide) (by decide) (rd_box h) (Rd.nil _ _) (Rd.nil _ _) (by unfold I64; omega) v_64 hT
  rw [show (⟨4, 100, 0, cL.ts, [], []⟩ : Cf) = cL from rfl, v_per1] at k
  exact k
theorem nth_L {b : Nat} {w : World} (h : w.heap[b]? = some (.cells cLc 44 (0, 0))) : Calls Tryd.prog 14 #[cLv b, .int .i64 0, .int .i64 2] w (RetB (83, 0) w) := by
  have k := nth_cfg 4 100 0 cL.ts [] [] (some ⟨b, 0, none⟩) 2 none 0 none 0 0 2 w (by decide) (by decide) (by decide) (rd_box h) (Rd.nil _ _) (Rd.nil _ _) (by unfold I64; omega) v_64
  rw [show (⟨4, 100, 0, cL.ts, [], []⟩ : Cf) = cL from rfl, v_nth] at k
  exact k
theorem jobs_L {b : Nat} {w : World} (h : w.heap[b]? = some (.cells cLc 44 (0, 0))) : Calls Tryd.prog 16 #[cLv b, .int .i64 0, .int .i64 3, .int .i64 84] w (RetB (3, 0) w) := by
  have k := jobs_cfg 4 100 0 cL.ts [] [] (some ⟨b, 0, none⟩) 2 none 0 none 0 0 3 84 w (by decide) (by decide) (by decide) (rd_box h) (Rd.nil _ _) (Rd.nil _ _) (by unfold I64; omega) v_64
  rw [show (⟨4, 100, 0, cL.ts, [], []⟩ : Cf) = cL from rfl, v_jobs] at k
  exact k
theorem per_0 {w : World} (hT : Tab w) : Calls Tryd.prog 12 #[.agg #[.int .i64 0, .int .i64 0, .int .i64 0, .slice none 0 0, .slice none 0 0, .slice none 0 0]] w (RetB (0, 2) w) := by
  have k := period_cfg 0 0 0 [] [] [] none 0 none 0 none 0 w (by decide) (by decide) (by decide) (Rd.nil _ _) (Rd.nil _ _) (Rd.nil _ _) (by unfold I64; omega) (by intro p hp; cases hp) hT
  rw [v_per2] at k
  exact k
set_option maxHeartbeats 4000000 in
set_option maxRecDepth 100000 in
theorem lives_any (w : World) (hT : Tab w) : Calls Tryd.prog 7 #[] w fun e w' => e = .returned (.bool true) ∧ Below w.heap.size w w' := by
  have g1 := Lib.hid (fun w hT => gcd_eq v_gcd1 w hT)
  have g2 := Lib.hid (fun w hT => gcd_eq v_gcd2 w hT)
  have l1 : Hid (∀ A c w, Rd w A [.int .i64 4, .int .i64 6, .int .i64 10] → Tab w → Calls Tryd.prog 10 #[.slice A 3 c] w (RetT (60, 0) w)) := Lib.hid (fun A c w hr hT => lcm_eq v_lcm1 (by decide) A c w hr hT)
  have l2 : Hid (∀ A c w, Rd w A [.int .i64 2251799813685248, .int .i64 3] → Tab w → Calls Tryd.prog 10 #[.slice A 2 c] w (RetT (0, 10) w)) := Lib.hid (fun A c w hr hT => lcm_eq v_lcm2 (by decide) A c w hr hT)
  have p1 := Lib.hid (fun b w h hT => per_L (b := b) (w := w) h hT)
  have n1 := Lib.hid (fun b w h => nth_L (b := b) (w := w) h)
  have j1 := Lib.hid (fun b w h => jobs_L (b := b) (w := w) h)
  have p0 := Lib.hid (fun w hT => per_0 (w := w) hT)
  have HT := Lib.hid hT
  clear hT
  unfold cLv at *
  unfold RetT RetB at *
  go_enter Tryd.func7, Tryd.ntmps7
  go_upto_region 2 with fail
  refine name_world fun W hW => ?_
  have hs : Hid (W.heap.size = w.heap.size + 2) := Lib.hid (by rw [hW]; simp)
  have HS : Hid (W.heap[w.heap.size]? = some (.cells cLc 44 (0, 0))) := Lib.hid (by rw [hW]; exact box_alloc (heap_alloc_new w _) _)
  have HC : Hid (W.heap[w.heap.size + 1]? = some (.cells #[.int .i64 4, .int .i64 100, .int .i64 0, .slice (some ⟨w.heap.size, 0, none⟩) 2 2, .slice none 0 0, .slice none 0 0] 35 (0, 0))) := Lib.hid (by rw [hW]; exact heap_new_at _ (by simp))
  have HB : Hid (Below w.heap.size w W) := Lib.hid (by rw [hW]; exact ((Below.refl _ _).alloc (Nat.le_refl _) _).alloc (by simp) _)
  have HTW := Lib.hid (HT.out.below HB.out HT.out.lt)
  have hR := fun w' (h : Hid (Below W.heap.size W w')) => (box_rules (box_keep HC.out h.out)).1
  have mS := Lib.hid (fun w' (h : Hid (Below W.heap.size W w')) => box_keep HS.out h.out)
  have mT := Lib.hid (fun w' (h : Hid (Below W.heap.size W w')) => HTW.out.below h.out HTW.out.lt)
  have hS0 := S_refl' W
  clear hW
  go_wp2_with fail
  refine (g1.out _ (mT.out _ hS0)).mono ?_
  rintro e w1 ⟨rfl, rfl⟩
  go_wp2_with fail
  have hS1 := S_alloc' hS0 (.cells #[.int .i64 4, .int .i64 6, .int .i64 10] 2)
  refine (l1.out _ _ _ ?_ (mT.out _ hS1)).mono ?_
  · intro j u hu
    exact ⟨_, rfl, by rw [add_zero_lit, Nat.zero_add]; exact new_cell hu⟩
  rintro e w2 ⟨rfl, rfl⟩
  have q1 := hR _ hS1
  go_wp2_with fail
  refine (p1.out _ _ (mS.out _ hS1) (mT.out _ hS1)).mono ?_
  rintro e w3 ⟨rfl, hb⟩
  have hS3 := S_call' hS1 hb
  have q3 := hR _ hS3
  clear hb hS1 q1
  go_wp2_with fail
  refine (n1.out _ _ (mS.out _ hS3)).mono ?_
  rintro e w4 ⟨rfl, hb⟩
  have hS4 := S_call' hS3 hb
  have q4 := hR _ hS4
  clear hb hS3 q3
  go_wp2_with fail
  refine (j1.out _ _ (mS.out _ hS4)).mono ?_
  rintro e w5 ⟨rfl, hb⟩
  have hS5 := S_call' hS4 hb
  clear hb hS4 q4
  go_wp2_with fail
  refine (g2.out _ (mT.out _ hS5)).mono ?_
  rintro e w6 ⟨rfl, rfl⟩
  go_wp2_with fail
  have hS6 := S_alloc' hS5 (.cells #[.int .i64 2251799813685248, .int .i64 3] 2)
  refine (l2.out _ _ _ ?_ (mT.out _ hS6)).mono ?_
  · intro j u hu
    exact ⟨_, rfl, by rw [add_zero_lit, Nat.zero_add]; exact new_cell hu⟩
  rintro e w7 ⟨rfl, rfl⟩
  go_wp2_with fail
  refine (p0.out _ (mT.out _ hS6)).mono ?_
  rintro e w8 ⟨rfl, hb⟩
  have hS8 := S_call' hS6 hb
  clear hb hS6
  go_wp2
  go_ret
  exact ⟨rfl, HB.out.trans (hS8.out.mono (by have := hs.out; omega))⟩
end Go.Proofs.YtpdanmdpaanafaaDoor

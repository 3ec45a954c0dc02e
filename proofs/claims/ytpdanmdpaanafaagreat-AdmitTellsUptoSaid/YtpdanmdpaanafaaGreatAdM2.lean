/- The family: as data; the walks of admit.task, admit.Family, vergeref29.Family. No premise of its own. -/
import Derived.Test.YtpdanmdpaanafaaGreatAdM1
namespace Go.Proofs.YtpdanmdpaanafaaGreat
open Go.RowKit Go.Shelf

def famTk (k : Nat) : Tk := ⟨if k % 2 = 1 then 2 else 1, 40 - k, 1000 * (k + 1), 0, 1000 * (k + 1), 40, 2, if k = 0 ∨ k = 3 then 0 else -1, if k = 0 ∨ k = 3 then 5 else 0, if k = 0 ∨ k = 3 then 15 else 0⟩
def famTs (n : Nat) : List Tk := (List.range n).map famTk
def famLs : List Ln := [⟨2, 5, 2, 500⟩, ⟨4, 3, 1, 300⟩]
def famHs : List Th := [⟨50, 20, 500, 4⟩, ⟨20, 10, 400, 2⟩]
theorem famTs_succ (n : Nat) : famTs (n + 1) = famTs n ++ [famTk n] := by unfold famTs; rw [List.range_succ, List.map_append]; rfl
theorem famTs_len (n : Nat) : (famTs n).length = n := by unfold famTs; simp
def famIn (n : Int) : Prop := 1 ≤ n ∧ n ≤ 8
instance (n : Int) : Decidable (famIn n) := by unfold famIn; infer_instance
/-- The family's member, or none. -/
def famC (n : Int) : Cf := if famIn n then ⟨4, 1000, 2, famTs n.toNat, famLs, famHs⟩ else ⟨0, 0, 0, [], [], []⟩
def famY (n : Int) : Int := if famIn n then 0 else 1
def RetF (c : Cf) (y : Int) (w : World) (e : Ending) (w' : World) : Prop :=
  ∃ (A : Option Addr) (ca : Nat) (B : Option Addr) (cb : Nat) (D : Option Addr) (cd : Nat), e = .returned (.tuple #[cfv c.mn c.mx c.sw A c.ts.length ca B c.ls.length cb D c.hs.length cd, .int .i64 y]) ∧
    Rd w' A (c.ts.flatMap tkc) ∧ Rd w' B (c.ls.flatMap lnc) ∧ Rd w' D (c.hs.flatMap thc) ∧ Below w.heap.size w w'
theorem skf_tk : SlK Tryz.prog 24 58 10 80 := SlK.mk' (z := .agg #[.int .u8 0, .int .i64 0, .int .i64 0, .int .i64 0, .int .i64 0, .int .i64 0, .int .i64 0, .int .i64 0, .int .i64 0, .int .i64 0]) Tryz.underlying24 (by kernel_rfl) rfl (by decide)
set_option maxHeartbeats 2000000 in
theorem ftask_any (k : Nat) (hk : k < 8) (w : World) : Calls Tryz.prog 41 #[.int .i64 (k : Int)] w fun e w' => e = .returned (tkv (famTk k)) ∧ Below w.heap.size w w' := by
  rcases (by omega : k = 0 ∨ k = 1 ∨ k = 2 ∨ k = 3 ∨ k = 4 ∨ k = 5 ∨ k = 6 ∨ k = 7) with rfl | rfl | rfl | rfl | rfl | rfl | rfl | rfl
  · go_enter Tryz.func41, Tryz.ntmps41
    go_wp2
    refine bodyPost_ret (v := tkv (famTk 0)) (by simp [results, Tryz.f41, go_sem, famTk, tkv]) rfl ?_
    exact ⟨rfl, ((Below.refl _ _).alloc (Nat.le_refl _) _).alloc (by simp) _⟩
  · go_enter Tryz.func41, Tryz.ntmps41
    go_wp2
    refine bodyPost_ret (v := tkv (famTk 1)) (by simp [results, Tryz.f41, go_sem, famTk, tkv]) rfl ?_
    exact ⟨rfl, ((Below.refl _ _).alloc (Nat.le_refl _) _).alloc (by simp) _⟩
  · go_enter Tryz.func41, Tryz.ntmps41
    go_wp2
    refine bodyPost_ret (v := tkv (famTk 2)) (by simp [results, Tryz.f41, go_sem, famTk, tkv]) rfl ?_
    exact ⟨rfl, ((Below.refl _ _).alloc (Nat.le_refl _) _).alloc (by simp) _⟩
  · go_enter Tryz.func41, Tryz.ntmps41
    go_wp2
    refine bodyPost_ret (v := tkv (famTk 3)) (by simp [results, Tryz.f41, go_sem, famTk, tkv]) rfl ?_
    exact ⟨rfl, ((Below.refl _ _).alloc (Nat.le_refl _) _).alloc (by simp) _⟩
  · go_enter Tryz.func41, Tryz.ntmps41
    go_wp2
    refine bodyPost_ret (v := tkv (famTk 4)) (by simp [results, Tryz.f41, go_sem, famTk, tkv]) rfl ?_
    exact ⟨rfl, ((Below.refl _ _).alloc (Nat.le_refl _) _).alloc (by simp) _⟩
  · go_enter Tryz.func41, Tryz.ntmps41
    go_wp2
    refine bodyPost_ret (v := tkv (famTk 5)) (by simp [results, Tryz.f41, go_sem, famTk, tkv]) rfl ?_
    exact ⟨rfl, ((Below.refl _ _).alloc (Nat.le_refl _) _).alloc (by simp) _⟩
  · go_enter Tryz.func41, Tryz.ntmps41
    go_wp2
    refine bodyPost_ret (v := tkv (famTk 6)) (by simp [results, Tryz.f41, go_sem, famTk, tkv]) rfl ?_
    exact ⟨rfl, ((Below.refl _ _).alloc (Nat.le_refl _) _).alloc (by simp) _⟩
  · go_enter Tryz.func41, Tryz.ntmps41
    go_wp2
    refine bodyPost_ret (v := tkv (famTk 7)) (by simp [results, Tryz.f41, go_sem, famTk, tkv]) rfl ?_
    exact ⟨rfl, ((Below.refl _ _).alloc (Nat.le_refl _) _).alloc (by simp) _⟩
end Go.Proofs.YtpdanmdpaanafaaGreat
/- The family: the walks of admit.Family and vergeref29.Family. No premise of its own. -/
namespace Go.Proofs.YtpdanmdpaanafaaGreat
open Go.RowKit Go.Shelf

theorem famC_no {n : Int} (h : ¬ famIn n) : famC n = ⟨0, 0, 0, [], [], []⟩ ∧ famY n = 1 := ⟨if_neg h, if_neg h⟩
theorem famC_yes {n : Int} (h : famIn n) : famC n = ⟨4, 1000, 2, famTs n.toNat, famLs, famHs⟩ ∧ famY n = 0 := ⟨if_pos h, if_pos h⟩
theorem new_cell_at {w : World} {cs : Array Value} {t : TypeId} {j g : Nat} {u : Value} (hg : w.heap.size = g) (h : cs.toList[j]? = some u) : (w.alloc (.cells cs t)).cell? ⟨g, j, none⟩ = some u := by subst hg; exact new_cell h
set_option maxHeartbeats 4000000 in
set_option maxRecDepth 100000 in
theorem fam_any (n : Int) (w : World) : Calls Tryz.prog 20 #[.int .i64 n] w (RetF (famC n) (famY n) w) := by
  by_cases hin : famIn n
  · obtain ⟨e1, e2⟩ := famC_yes hin
    rw [e1, e2]
    clear e1 e2
    obtain ⟨h1, h8⟩ := hin
    obtain ⟨m, rfl⟩ := Int.eq_ofNat_of_zero_le (show 0 ≤ n by omega)
    have hm8 : m ≤ 8 := by omega
    rw [Int.toNat_natCast]
    have T := Lib.hid (fun k hk w => ftask_any k hk w)
    have hlen := famTs_len m
    go_enter Tryz.func20, Tryz.ntmps20
    go_wp2
    refine name_world fun V hV => ?_
    have HR : Hid (V.heap[w.heap.size]? = some (.cells #[.int .i64 0, .int .i64 0, .int .i64 0, .slice none 0 0, .slice none 0 0, .slice none 0 0] 28 (0, 0))) := Lib.hid (by rw [hV]; exact box_alloc (box_alloc (box_alloc (heap_alloc_new w _) _) _) _)
    have HL : Hid (V.heap[w.heap.size + 1]? = some (.cells #[.int .i64 2, .int .i64 5, .int .i64 2, .int .i64 500, .int .i64 4, .int .i64 3, .int .i64 1, .int .i64 300] 72 (0, 0))) := Lib.hid (by rw [hV]; exact box_alloc (box_alloc (heap_new_at _ (by simp)) _) _)
    have HH : Hid (V.heap[w.heap.size + 1 + 1]? = some (.cells #[.int .i64 50, .int .i64 20, .int .i64 500, .int .i64 4, .int .i64 20, .int .i64 10, .int .i64 400, .int .i64 2] 74 (0, 0))) := Lib.hid (by rw [hV]; exact box_alloc (heap_new_at _ (by simp)) _)
    have HD : Hid (V.heap[w.heap.size + 1 + 1 + 1]? = some (.cells #[.int .i64 4, .int .i64 1000, .int .i64 2, .slice none 0 0, .slice (some ⟨w.heap.size + 1, 0, none⟩) 2 2, .slice (some ⟨w.heap.size + 1 + 1, 0, none⟩) 2 2] 28 (0, 0))) := Lib.hid (by rw [hV]; exact heap_new_at _ (by simp))
    have HB : Hid (Below w.heap.size w V) := Lib.hid (by rw [hV]; exact (((((Below.refl _ _).alloc (Nat.le_refl _) _).alloc (by simp) _).alloc (by simp; omega) _).alloc (by simp; omega) _))
    have sV : V.heap.size = w.heap.size + 4 := by rw [hV]; simp
    clear hV
    generalize decide ((m : Int) < 1) = b1 at *
    generalize decide ((8 : Int) < m) = b2 at *
    go_loopw [22] (fun j wr => ∃ (k : Nat) (A1 : Option Addr) (c1 : Nat), k ≤ m ∧ j = .int .i64 k ∧
      wr.heap[w.heap.size + 1 + 1 + 1]? = some (.cells #[.int .i64 4, .int .i64 1000, .int .i64 2, .slice A1 k c1, .slice (some ⟨w.heap.size + 1, 0, none⟩) 2 2, .slice (some ⟨w.heap.size + 1 + 1, 0, none⟩) 2 2] 28 (0, 0)) ∧
      wr.ownsRow (w.heap.size + 4) 58 10 (.slice A1 k c1) k ((famTs k).flatMap tkc) ∧ KeepsLow w.heap.size (w.heap.size + 4) [w.heap.size + 1 + 1 + 1] V wr) (fun j _ => m - (intOf j).toNat)
    case atStart => exact ⟨0, none, 0, by omega, rfl, HD.out, own_nilK _ _ _ _, KeepsLow.refl _⟩
    case round =>
      obtain ⟨k, A1, c1, hk, rfl, hD, hO, hK⟩ := hrel
      have HDk := Lib.hid hD; have HO := Lib.hid hO; have HK := Lib.hid hK
      clear hD hO hK
      have sK : w.heap.size + 4 ≤ wr.heap.size := by have := HK.out.below.size; have := box_lt HDk.out; omega
      by_cases hlt : k < m
      · have f2 := Lib.hid (fun w => T.out k (by omega) w)
        have HS := Lib.hid (famTs_succ k)
        generalize famTk k = x at *
        obtain ⟨x0, x1, x2, x3, x4, x5, x6, x7, x8, x9⟩ := x
        unfold tkv at f2
        dsimp only at f2
        obtain ⟨dx, dy⟩ := box_rules HDk.out
        go_wp2_with fail
        go_region_law ((first | (refine step_appK rfl _ _ skf_tk (by decide) rfl (own_allocK HO3.out _) rfl (by omega) (by simp; omega) w3.heap.size [.int .u8 x0, .int .i64 x1, .int .i64 x2, .int .i64 x3, .int .i64 x4, .int .i64 x5, .int .i64 x6, .int .i64 x7, .int .i64 x8, .int .i64 x9] rfl rfl (fun j u hu => new_cell hu) rfl ?_; intro A4 c4 w4 ho4 hg4 _; have G4 := Lib.hid (grown_step HO3.out hg4); have HG4 := Lib.hid hg4; have HO4 := Lib.hid ho4; have HD4 := Lib.hid (G4.out.low HD3.out (by omega)); clear ho4 hg4; obtain ⟨dx4, dy4⟩ := box_rules HD4.out) | (go_simp; go_at_call 41; refine (f2.out _).mono ?_; rintro e w3 ⟨rfl, hb3⟩; have hb4 : Below wr.heap.size wr w3 := (by first | exact hb3 | exact undrew hb3); have HD3 := Lib.hid (box_keep HDk.out hb4); have HO3 := Lib.hid (own_belowK HO.out hb4); have HK3 := Lib.hid (HK.out.call hb4 (by omega)); have s3 := hb4.size; have lx3 := box_lt HD3.out; clear hb3 hb4; obtain ⟨dx3, dy3⟩ := box_rules HD3.out)))
        all_goals
          go_wp2
          refine ⟨⟨k + 1, A4, c4, by omega, by go_num, ?_, ?_, ?_⟩, ?_⟩
          · exact box_set (i := 3) HD4.out _
          · rw [HS.out, List.flatMap_append]
            exact own_setK HO4.out (own_low HO4.out (by show w.heap.size + 1 + 1 + 1 < _; omega)) _
          · exact (HK3.out.trans (KeepsLow.step HO3.out HG4.out (by omega) (by omega) (Nat.le_refl _))).set (p := ⟨w.heap.size + 1 + 1 + 1, 3, none⟩) (by show _ ≤ w.heap.size + 1 + 1 + 1; omega) (.inl (by simp)) _
          · simp [intOf]; omega
      · obtain rfl : k = m := by omega
        obtain ⟨dx, dy⟩ := box_rules HDk.out
        have HR2 := Lib.hid (HK.out.box (b := w.heap.size) (by omega) (by simp; omega) HR.out)
        have HL2 := Lib.hid (HK.out.box (b := w.heap.size + 1) (by omega) (by simp) HL.out)
        have HH2 := Lib.hid (HK.out.box (b := w.heap.size + 1 + 1) (by omega) (by simp) HH.out)
        obtain ⟨rx, ry⟩ := box_rules HR2.out
        go_wp2
        have h4 := box_set (i := 5) (box_set (i := 4) (box_set (i := 3) (box_set (i := 2) (box_set (i := 1) (box_set (i := 0) HR2.out (.int .i64 4)) (.int .i64 1000)) (.int .i64 2)) (.slice A1 k c1)) (.slice (some ⟨w.heap.size + 1, 0, none⟩) 2 2)) (.slice (some ⟨w.heap.size + 1 + 1, 0, none⟩) 2 2)
        have hz := (box_rules h4).1
        refine bodyPost_ret (v := .tuple #[.agg #[.int .i64 4, .int .i64 1000, .int .i64 2, .slice A1 k c1, .slice (some ⟨w.heap.size + 1, 0, none⟩) 2 2, .slice (some ⟨w.heap.size + 1 + 1, 0, none⟩) 2 2], .int .i64 0]) (by simp [results, Tryz.f20, go_sem, hz]) rfl ?_
        have bR : w.heap.size ≤ w.heap.size := Nat.le_refl _
        have n1 : w.heap.size + 1 ≠ w.heap.size := by omega
        have n2 : w.heap.size + 1 + 1 ≠ w.heap.size := by omega
        have nb := own_low HO.out (show w.heap.size < w.heap.size + 4 by omega)
        have lb := HB.out.trans HK.out.below
        refine ⟨A1, c1, some ⟨w.heap.size + 1, 0, none⟩, 2, some ⟨w.heap.size + 1 + 1, 0, none⟩, 2, by rw [hlen]; rfl, ?_, ?_, ?_, ?_⟩
        · refine own_rdK (base := w.heap.size + 4) (e := 58) (k := 10) (n := k) (c := c1) ?_
          repeat (with_reducible first | exact HO.out | refine own_setK ?_ nb _)
        · refine rd_box (z := (0, 0)) (t := 72) (cs := #[.int .i64 2, .int .i64 5, .int .i64 2, .int .i64 500, .int .i64 4, .int .i64 3, .int .i64 1, .int .i64 300]) ?_
          repeat (with_reducible first | exact HL2.out | refine box_far ?_ n1 _)
        · refine rd_box (z := (0, 0)) (t := 74) (cs := #[.int .i64 50, .int .i64 20, .int .i64 500, .int .i64 4, .int .i64 20, .int .i64 10, .int .i64 400, .int .i64 2]) ?_
          repeat (with_reducible first | exact HH2.out | refine box_far ?_ n2 _)
        · repeat (with_reducible first | exact lb | refine Below.setCell ?_ bR _)
  · obtain ⟨e1, e2⟩ := famC_no hin
    rw [e1, e2]
    clear e1 e2
    go_enter Tryz.func20, Tryz.ntmps20
    by_cases h1 : n < 1
    · go_wp2
      refine bodyPost_ret (v := .tuple #[.agg #[.int .i64 0, .int .i64 0, .int .i64 0, .slice none 0 0, .slice none 0 0, .slice none 0 0], .int .i64 1]) (by simp [results, Tryz.f20, go_sem]) rfl ?_
      refine ⟨none, 0, none, 0, none, 0, rfl, Rd.nil _ _, Rd.nil _ _, Rd.nil _ _, ?_⟩
      repeat (with_reducible first | exact (Below.refl _ _).alloc (Nat.le_refl _) _ | refine Below.setCell ?_ (Nat.le_refl _) _)
    · have h8 : 8 < n := by unfold famIn at hin; omega
      go_wp2
      refine bodyPost_ret (v := .tuple #[.agg #[.int .i64 0, .int .i64 0, .int .i64 0, .slice none 0 0, .slice none 0 0, .slice none 0 0], .int .i64 1]) (by simp [results, Tryz.f20, go_sem]) rfl ?_
      refine ⟨none, 0, none, 0, none, 0, rfl, Rd.nil _ _, Rd.nil _ _, Rd.nil _ _, ?_⟩
      repeat (with_reducible first | exact (Below.refl _ _).alloc (Nat.le_refl _) _ | refine Below.setCell ?_ (Nat.le_refl _) _)
set_option maxHeartbeats 4000000 in
set_option maxRecDepth 100000 in
theorem fam29_any (n : Int) (w : World) : Calls Tryz.prog 21 #[.int .i64 n] w (RetF (famC n) (famY n) w) := by
  by_cases hin : famIn n
  · obtain ⟨e1, e2⟩ := famC_yes hin
    rw [e1, e2]
    clear e1 e2
    obtain ⟨h1, h8⟩ := hin
    obtain ⟨m, rfl⟩ := Int.eq_ofNat_of_zero_le (show 0 ≤ n by omega)
    have hm8 : m ≤ 8 := by omega
    rw [Int.toNat_natCast]
    have hlen := famTs_len m
    go_enter Tryz.func21, Tryz.ntmps21
    go_wp2
    refine name_world fun V hV => ?_
    have HR : Hid (V.heap[w.heap.size]? = some (.cells #[.int .i64 0, .int .i64 0, .int .i64 0, .slice none 0 0, .slice none 0 0, .slice none 0 0] 28 (0, 0))) := Lib.hid (by rw [hV]; exact box_alloc (heap_alloc_new w _) _)
    have HD : Hid (V.heap[w.heap.size + 1]? = some (.cells #[.int .i64 4, .int .i64 1000, .int .i64 2, .slice none 0 0, .slice none 0 0, .slice none 0 0] 28 (0, 0))) := Lib.hid (by rw [hV]; exact heap_new_at _ (by simp))
    have HB : Hid (Below w.heap.size w V) := Lib.hid (by rw [hV]; exact ((Below.refl _ _).alloc (Nat.le_refl _) _).alloc (by simp) _)
    have sV : V.heap.size = w.heap.size + 2 := by rw [hV]; simp
    clear hV
    generalize decide ((m : Int) < 1) = b1 at *
    generalize decide ((8 : Int) < m) = b2 at *
    go_loopw [5] (fun j wr => ∃ (k : Nat) (A1 : Option Addr) (c1 : Nat), k ≤ m ∧ j = .int .i64 k ∧
      wr.heap[w.heap.size + 1]? = some (.cells #[.int .i64 4, .int .i64 1000, .int .i64 2, .slice A1 k c1, .slice none 0 0, .slice none 0 0] 28 (0, 0)) ∧
      wr.ownsRow (w.heap.size + 2) 58 10 (.slice A1 k c1) k ((famTs k).flatMap tkc) ∧ KeepsLow w.heap.size (w.heap.size + 2) [w.heap.size + 1] V wr) (fun j _ => m - (intOf j).toNat)
    case atStart => exact ⟨0, none, 0, by omega, rfl, HD.out, own_nilK _ _ _ _, KeepsLow.refl _⟩
    case round =>
      obtain ⟨k, A1, c1, hk, rfl, hD, hO, hK⟩ := hrel
      have HDk := Lib.hid hD; have HO := Lib.hid hO; have HK := Lib.hid hK
      clear hD hO hK
      have sK : w.heap.size + 2 ≤ wr.heap.size := by have := HK.out.below.size; have := box_lt HDk.out; omega
      have lx := box_lt HDk.out
      obtain ⟨dx, dy⟩ := box_rules HDk.out
      by_cases hlt : k < m
      · have HS := Lib.hid (famTs_succ k)
        have hk8 : k < 8 := by omega
        have sbound : w.heap.size + 2 ≤ (wr.alloc (.cells #[] 0)).heap.size := by simp; omega
        rcases (by omega : k = 0 ∨ k = 1 ∨ k = 2 ∨ k = 3 ∨ k = 4 ∨ k = 5 ∨ k = 6 ∨ k = 7) with rfl | rfl | rfl | rfl | rfl | rfl | rfl | rfl
        · have hL : tkc (famTk 0) = [.int .u8 1, .int .i64 40, .int .i64 1000, .int .i64 0, .int .i64 1000, .int .i64 40, .int .i64 2, .int .i64 0, .int .i64 5, .int .i64 15] := by simp [tkc, famTk]
          go_wp2_with (at_builtin; go_loud (refine wp_appK rfl _ _ skf_tk (by decide) rfl (own_allocK (own_allocK HO.out _) _) rfl (by omega) (by simp; omega) (wr.heap.size + 1) [.int .u8 1, .int .i64 40, .int .i64 1000, .int .i64 0, .int .i64 1000, .int .i64 40, .int .i64 2, .int .i64 0, .int .i64 5, .int .i64 15] rfl rfl ?_ rfl ?_); (intro j u hu; exact new_cell_at (by simp) hu); intro A4 c4 w4 ho4 hg4 _; have G4 := Lib.hid (grown_step (own_allocK HO.out _) hg4); have HO4 := Lib.hid ho4; have HG4 := Lib.hid hg4; have HD4 := Lib.hid (G4.out.low (box_alloc HDk.out _) (by omega)); clear ho4 hg4; obtain ⟨dx4, dy4⟩ := box_rules HD4.out)
          refine ⟨⟨0 + 1, A4, c4, by omega, by go_num, ?_, ?_, ?_⟩, ?_⟩
          · exact box_set (i := 3) HD4.out _
          · rw [HS.out, List.flatMap_append, List.flatMap_singleton, hL]
            exact own_setK HO4.out (own_low HO4.out (by show w.heap.size + 1 < _; omega)) _
          · exact ((HK.out.alloc (by omega) _).trans (KeepsLow.step (own_allocK HO.out _) HG4.out (by simp; omega) (by omega) (Nat.le_refl _))).set (p := ⟨w.heap.size + 1, 3, none⟩) (by show _ ≤ w.heap.size + 1; omega) (.inl (by simp)) _
          · simp [intOf]; omega
        · have hL : tkc (famTk 1) = [.int .u8 2, .int .i64 39, .int .i64 2000, .int .i64 0, .int .i64 2000, .int .i64 40, .int .i64 2, .int .i64 (-1), .int .i64 0, .int .i64 0] := by simp [tkc, famTk]
          go_wp2_with (at_builtin; go_loud (refine wp_appK rfl _ _ skf_tk (by decide) rfl (own_allocK (own_allocK HO.out _) _) rfl (by omega) (by simp; omega) (wr.heap.size + 1) [.int .u8 2, .int .i64 39, .int .i64 2000, .int .i64 0, .int .i64 2000, .int .i64 40, .int .i64 2, .int .i64 (-1), .int .i64 0, .int .i64 0] rfl rfl ?_ rfl ?_); (intro j u hu; exact new_cell_at (by simp) hu); intro A4 c4 w4 ho4 hg4 _; have G4 := Lib.hid (grown_step (own_allocK HO.out _) hg4); have HO4 := Lib.hid ho4; have HG4 := Lib.hid hg4; have HD4 := Lib.hid (G4.out.low (box_alloc HDk.out _) (by omega)); clear ho4 hg4; obtain ⟨dx4, dy4⟩ := box_rules HD4.out)
          refine ⟨⟨1 + 1, A4, c4, by omega, by go_num, ?_, ?_, ?_⟩, ?_⟩
          · exact box_set (i := 3) HD4.out _
          · rw [HS.out, List.flatMap_append, List.flatMap_singleton, hL]
            exact own_setK HO4.out (own_low HO4.out (by show w.heap.size + 1 < _; omega)) _
          · exact ((HK.out.alloc (by omega) _).trans (KeepsLow.step (own_allocK HO.out _) HG4.out (by simp; omega) (by omega) (Nat.le_refl _))).set (p := ⟨w.heap.size + 1, 3, none⟩) (by show _ ≤ w.heap.size + 1; omega) (.inl (by simp)) _
          · simp [intOf]; omega
        · have hL : tkc (famTk 2) = [.int .u8 1, .int .i64 38, .int .i64 3000, .int .i64 0, .int .i64 3000, .int .i64 40, .int .i64 2, .int .i64 (-1), .int .i64 0, .int .i64 0] := by simp [tkc, famTk]
          go_wp2_with (at_builtin; go_loud (refine wp_appK rfl _ _ skf_tk (by decide) rfl (own_allocK (own_allocK HO.out _) _) rfl (by omega) (by simp; omega) (wr.heap.size + 1) [.int .u8 1, .int .i64 38, .int .i64 3000, .int .i64 0, .int .i64 3000, .int .i64 40, .int .i64 2, .int .i64 (-1), .int .i64 0, .int .i64 0] rfl rfl ?_ rfl ?_); (intro j u hu; exact new_cell_at (by simp) hu); intro A4 c4 w4 ho4 hg4 _; have G4 := Lib.hid (grown_step (own_allocK HO.out _) hg4); have HO4 := Lib.hid ho4; have HG4 := Lib.hid hg4; have HD4 := Lib.hid (G4.out.low (box_alloc HDk.out _) (by omega)); clear ho4 hg4; obtain ⟨dx4, dy4⟩ := box_rules HD4.out)
          refine ⟨⟨2 + 1, A4, c4, by omega, by go_num, ?_, ?_, ?_⟩, ?_⟩
          · exact box_set (i := 3) HD4.out _
          · rw [HS.out, List.flatMap_append, List.flatMap_singleton, hL]
            exact own_setK HO4.out (own_low HO4.out (by show w.heap.size + 1 < _; omega)) _
          · exact ((HK.out.alloc (by omega) _).trans (KeepsLow.step (own_allocK HO.out _) HG4.out (by simp; omega) (by omega) (Nat.le_refl _))).set (p := ⟨w.heap.size + 1, 3, none⟩) (by show _ ≤ w.heap.size + 1; omega) (.inl (by simp)) _
          · simp [intOf]; omega
        · have hL : tkc (famTk 3) = [.int .u8 2, .int .i64 37, .int .i64 4000, .int .i64 0, .int .i64 4000, .int .i64 40, .int .i64 2, .int .i64 0, .int .i64 5, .int .i64 15] := by simp [tkc, famTk]
          go_wp2_with (at_builtin; go_loud (refine wp_appK rfl _ _ skf_tk (by decide) rfl (own_allocK (own_allocK HO.out _) _) rfl (by omega) (by simp; omega) (wr.heap.size + 1) [.int .u8 2, .int .i64 37, .int .i64 4000, .int .i64 0, .int .i64 4000, .int .i64 40, .int .i64 2, .int .i64 0, .int .i64 5, .int .i64 15] rfl rfl ?_ rfl ?_); (intro j u hu; exact new_cell_at (by simp) hu); intro A4 c4 w4 ho4 hg4 _; have G4 := Lib.hid (grown_step (own_allocK HO.out _) hg4); have HO4 := Lib.hid ho4; have HG4 := Lib.hid hg4; have HD4 := Lib.hid (G4.out.low (box_alloc HDk.out _) (by omega)); clear ho4 hg4; obtain ⟨dx4, dy4⟩ := box_rules HD4.out)
          refine ⟨⟨3 + 1, A4, c4, by omega, by go_num, ?_, ?_, ?_⟩, ?_⟩
          · exact box_set (i := 3) HD4.out _
          · rw [HS.out, List.flatMap_append, List.flatMap_singleton, hL]
            exact own_setK HO4.out (own_low HO4.out (by show w.heap.size + 1 < _; omega)) _
          · exact ((HK.out.alloc (by omega) _).trans (KeepsLow.step (own_allocK HO.out _) HG4.out (by simp; omega) (by omega) (Nat.le_refl _))).set (p := ⟨w.heap.size + 1, 3, none⟩) (by show _ ≤ w.heap.size + 1; omega) (.inl (by simp)) _
          · simp [intOf]; omega
        · have hL : tkc (famTk 4) = [.int .u8 1, .int .i64 36, .int .i64 5000, .int .i64 0, .int .i64 5000, .int .i64 40, .int .i64 2, .int .i64 (-1), .int .i64 0, .int .i64 0] := by simp [tkc, famTk]
          go_wp2_with (at_builtin; go_loud (refine wp_appK rfl _ _ skf_tk (by decide) rfl (own_allocK (own_allocK HO.out _) _) rfl (by omega) (by simp; omega) (wr.heap.size + 1) [.int .u8 1, .int .i64 36, .int .i64 5000, .int .i64 0, .int .i64 5000, .int .i64 40, .int .i64 2, .int .i64 (-1), .int .i64 0, .int .i64 0] rfl rfl ?_ rfl ?_); (intro j u hu; exact new_cell_at (by simp) hu); intro A4 c4 w4 ho4 hg4 _; have G4 := Lib.hid (grown_step (own_allocK HO.out _) hg4); have HO4 := Lib.hid ho4; have HG4 := Lib.hid hg4; have HD4 := Lib.hid (G4.out.low (box_alloc HDk.out _) (by omega)); clear ho4 hg4; obtain ⟨dx4, dy4⟩ := box_rules HD4.out)
          refine ⟨⟨4 + 1, A4, c4, by omega, by go_num, ?_, ?_, ?_⟩, ?_⟩
          · exact box_set (i := 3) HD4.out _
          · rw [HS.out, List.flatMap_append, List.flatMap_singleton, hL]
            exact own_setK HO4.out (own_low HO4.out (by show w.heap.size + 1 < _; omega)) _
          · exact ((HK.out.alloc (by omega) _).trans (KeepsLow.step (own_allocK HO.out _) HG4.out (by simp; omega) (by omega) (Nat.le_refl _))).set (p := ⟨w.heap.size + 1, 3, none⟩) (by show _ ≤ w.heap.size + 1; omega) (.inl (by simp)) _
          · simp [intOf]; omega
        · have hL : tkc (famTk 5) = [.int .u8 2, .int .i64 35, .int .i64 6000, .int .i64 0, .int .i64 6000, .int .i64 40, .int .i64 2, .int .i64 (-1), .int .i64 0, .int .i64 0] := by simp [tkc, famTk]
          go_wp2_with (at_builtin; go_loud (refine wp_appK rfl _ _ skf_tk (by decide) rfl (own_allocK (own_allocK HO.out _) _) rfl (by omega) (by simp; omega) (wr.heap.size + 1) [.int .u8 2, .int .i64 35, .int .i64 6000, .int .i64 0, .int .i64 6000, .int .i64 40, .int .i64 2, .int .i64 (-1), .int .i64 0, .int .i64 0] rfl rfl ?_ rfl ?_); (intro j u hu; exact new_cell_at (by simp) hu); intro A4 c4 w4 ho4 hg4 _; have G4 := Lib.hid (grown_step (own_allocK HO.out _) hg4); have HO4 := Lib.hid ho4; have HG4 := Lib.hid hg4; have HD4 := Lib.hid (G4.out.low (box_alloc HDk.out _) (by omega)); clear ho4 hg4; obtain ⟨dx4, dy4⟩ := box_rules HD4.out)
          refine ⟨⟨5 + 1, A4, c4, by omega, by go_num, ?_, ?_, ?_⟩, ?_⟩
          · exact box_set (i := 3) HD4.out _
          · rw [HS.out, List.flatMap_append, List.flatMap_singleton, hL]
            exact own_setK HO4.out (own_low HO4.out (by show w.heap.size + 1 < _; omega)) _
          · exact ((HK.out.alloc (by omega) _).trans (KeepsLow.step (own_allocK HO.out _) HG4.out (by simp; omega) (by omega) (Nat.le_refl _))).set (p := ⟨w.heap.size + 1, 3, none⟩) (by show _ ≤ w.heap.size + 1; omega) (.inl (by simp)) _
          · simp [intOf]; omega
        · have hL : tkc (famTk 6) = [.int .u8 1, .int .i64 34, .int .i64 7000, .int .i64 0, .int .i64 7000, .int .i64 40, .int .i64 2, .int .i64 (-1), .int .i64 0, .int .i64 0] := by simp [tkc, famTk]
          go_wp2_with (at_builtin; go_loud (refine wp_appK rfl _ _ skf_tk (by decide) rfl (own_allocK (own_allocK HO.out _) _) rfl (by omega) (by simp; omega) (wr.heap.size + 1) [.int .u8 1, .int .i64 34, .int .i64 7000, .int .i64 0, .int .i64 7000, .int .i64 40, .int .i64 2, .int .i64 (-1), .int .i64 0, .int .i64 0] rfl rfl ?_ rfl ?_); (intro j u hu; exact new_cell_at (by simp) hu); intro A4 c4 w4 ho4 hg4 _; have G4 := Lib.hid (grown_step (own_allocK HO.out _) hg4); have HO4 := Lib.hid ho4; have HG4 := Lib.hid hg4; have HD4 := Lib.hid (G4.out.low (box_alloc HDk.out _) (by omega)); clear ho4 hg4; obtain ⟨dx4, dy4⟩ := box_rules HD4.out)
          refine ⟨⟨6 + 1, A4, c4, by omega, by go_num, ?_, ?_, ?_⟩, ?_⟩
          · exact box_set (i := 3) HD4.out _
          · rw [HS.out, List.flatMap_append, List.flatMap_singleton, hL]
            exact own_setK HO4.out (own_low HO4.out (by show w.heap.size + 1 < _; omega)) _
          · exact ((HK.out.alloc (by omega) _).trans (KeepsLow.step (own_allocK HO.out _) HG4.out (by simp; omega) (by omega) (Nat.le_refl _))).set (p := ⟨w.heap.size + 1, 3, none⟩) (by show _ ≤ w.heap.size + 1; omega) (.inl (by simp)) _
          · simp [intOf]; omega
        · have hL : tkc (famTk 7) = [.int .u8 2, .int .i64 33, .int .i64 8000, .int .i64 0, .int .i64 8000, .int .i64 40, .int .i64 2, .int .i64 (-1), .int .i64 0, .int .i64 0] := by simp [tkc, famTk]
          go_wp2_with (at_builtin; go_loud (refine wp_appK rfl _ _ skf_tk (by decide) rfl (own_allocK (own_allocK HO.out _) _) rfl (by omega) (by simp; omega) (wr.heap.size + 1) [.int .u8 2, .int .i64 33, .int .i64 8000, .int .i64 0, .int .i64 8000, .int .i64 40, .int .i64 2, .int .i64 (-1), .int .i64 0, .int .i64 0] rfl rfl ?_ rfl ?_); (intro j u hu; exact new_cell_at (by simp) hu); intro A4 c4 w4 ho4 hg4 _; have G4 := Lib.hid (grown_step (own_allocK HO.out _) hg4); have HO4 := Lib.hid ho4; have HG4 := Lib.hid hg4; have HD4 := Lib.hid (G4.out.low (box_alloc HDk.out _) (by omega)); clear ho4 hg4; obtain ⟨dx4, dy4⟩ := box_rules HD4.out)
          refine ⟨⟨7 + 1, A4, c4, by omega, by go_num, ?_, ?_, ?_⟩, ?_⟩
          · exact box_set (i := 3) HD4.out _
          · rw [HS.out, List.flatMap_append, List.flatMap_singleton, hL]
            exact own_setK HO4.out (own_low HO4.out (by show w.heap.size + 1 < _; omega)) _
          · exact ((HK.out.alloc (by omega) _).trans (KeepsLow.step (own_allocK HO.out _) HG4.out (by simp; omega) (by omega) (Nat.le_refl _))).set (p := ⟨w.heap.size + 1, 3, none⟩) (by show _ ≤ w.heap.size + 1; omega) (.inl (by simp)) _
          · simp [intOf]; omega
      · obtain rfl : k = m := by omega
        have HR2 := Lib.hid (HK.out.box (b := w.heap.size) (by omega) (by simp) HR.out)
        have hB2 := Lib.hid (HB.out.trans HK.out.below)
        have nb := own_low HO.out (show w.heap.size + 1 < w.heap.size + 2 by omega)
        go_upto_region 15 with fail
        refine name_world fun V1 hV1 => ?_
        have HD1 : Hid (V1.heap[w.heap.size + 1]? = some (.cells #[.int .i64 4, .int .i64 1000, .int .i64 2, .slice A1 k c1, .slice (some ⟨wr.heap.size, 0, none⟩) 2 2, .slice none 0 0] 28 (0, 0))) := Lib.hid (by rw [hV1]; exact box_alloc (box_set (i := 4) HDk.out _) _)
        have HR1 : Hid (V1.heap[w.heap.size]? = some (.cells #[.int .i64 0, .int .i64 0, .int .i64 0, .slice none 0 0, .slice none 0 0, .slice none 0 0] 28 (0, 0))) := Lib.hid (by rw [hV1]; exact box_alloc (box_far HR2.out (p := ⟨w.heap.size + 1, 4, none⟩) (by show _ ≠ w.heap.size + 1; omega) _) _)
        have HL1 : Hid (V1.heap[wr.heap.size]? = some (.cells #[.int .i64 2, .int .i64 5, .int .i64 2, .int .i64 500, .int .i64 4, .int .i64 3, .int .i64 1, .int .i64 300] 72 (0, 0))) := Lib.hid (by rw [hV1]; exact heap_new_at _ (by simp [World.setCell]))
        have HO1 : Hid (V1.ownsRow (w.heap.size + 2) 58 10 (.slice A1 k c1) k ((famTs k).flatMap tkc)) := Lib.hid (by rw [hV1]; exact own_allocK (own_setK HO.out (p := ⟨w.heap.size + 1, 4, none⟩) nb _) _)
        have HB1 : Hid (Below w.heap.size w V1) := Lib.hid (by rw [hV1]; exact (hB2.out.setCell (p := ⟨w.heap.size + 1, 4, none⟩) (by show _ ≤ w.heap.size + 1; omega) _).alloc (by simp [World.setCell]; omega) _)
        have s1 : V1.heap.size = wr.heap.size + 1 := by rw [hV1]; simp [World.setCell]
        clear hV1 dx dy HDk HO HR2 HK hB2
        generalize wr.heap.size = nL at *
        obtain ⟨dx, dy⟩ := box_rules HD1.out
        have lx1 := box_lt HD1.out
        have S1 := Lib.hid s1
        clear s1
        go_upto_region 16 with fail
        refine name_world fun V2 hV2 => ?_
        have s1 := S1.out
        rw [s1] at hV2 ⊢
        have HD2 : Hid (V2.heap[w.heap.size + 1]? = some (.cells #[.int .i64 4, .int .i64 1000, .int .i64 2, .slice A1 k c1, .slice (some ⟨nL, 0, none⟩) 2 2, .slice (some ⟨nL + 1, 0, none⟩) 2 2] 28 (0, 0))) := Lib.hid (by rw [hV2]; exact box_alloc (box_set (i := 5) HD1.out _) _)
        have HR2 : Hid (V2.heap[w.heap.size]? = some (.cells #[.int .i64 0, .int .i64 0, .int .i64 0, .slice none 0 0, .slice none 0 0, .slice none 0 0] 28 (0, 0))) := Lib.hid (by rw [hV2]; exact box_alloc (box_far HR1.out (p := ⟨w.heap.size + 1, 5, none⟩) (by show _ ≠ w.heap.size + 1; omega) _) _)
        have HL2 : Hid (V2.heap[nL]? = some (.cells #[.int .i64 2, .int .i64 5, .int .i64 2, .int .i64 500, .int .i64 4, .int .i64 3, .int .i64 1, .int .i64 300] 72 (0, 0))) := Lib.hid (by rw [hV2]; exact box_alloc (box_far HL1.out (p := ⟨w.heap.size + 1, 5, none⟩) (by show _ ≠ w.heap.size + 1; omega) _) _)
        have HH2 : Hid (V2.heap[nL + 1]? = some (.cells #[.int .i64 50, .int .i64 20, .int .i64 500, .int .i64 4, .int .i64 20, .int .i64 10, .int .i64 400, .int .i64 2] 74 (0, 0))) := Lib.hid (by rw [hV2]; exact heap_new_at _ (by simp [World.setCell, s1]))
        have HO2 : Hid (V2.ownsRow (w.heap.size + 2) 58 10 (.slice A1 k c1) k ((famTs k).flatMap tkc)) := Lib.hid (by rw [hV2]; exact own_allocK (own_setK HO1.out (p := ⟨w.heap.size + 1, 5, none⟩) nb _) _)
        have HB2 : Hid (Below w.heap.size w V2) := Lib.hid (by rw [hV2]; exact (HB1.out.setCell (p := ⟨w.heap.size + 1, 5, none⟩) (by show _ ≤ w.heap.size + 1; omega) _).alloc (by simp [World.setCell]; omega) _)
        clear hV2 dx dy HD1 HR1 HL1 HO1 HB1
        obtain ⟨dx, dy⟩ := box_rules HD2.out
        obtain ⟨rx, ry⟩ := box_rules HR2.out
        go_wp2
        have h4 := box_set (i := 5) (box_set (i := 4) (box_set (i := 3) (box_set (i := 2) (box_set (i := 1) (box_set (i := 0) HR2.out (.int .i64 4)) (.int .i64 1000)) (.int .i64 2)) (.slice A1 k c1)) (.slice (some ⟨nL, 0, none⟩) 2 2)) (.slice (some ⟨nL + 1, 0, none⟩) 2 2)
        have hz := (box_rules h4).1
        refine bodyPost_ret (v := .tuple #[.agg #[.int .i64 4, .int .i64 1000, .int .i64 2, .slice A1 k c1, .slice (some ⟨nL, 0, none⟩) 2 2, .slice (some ⟨nL + 1, 0, none⟩) 2 2], .int .i64 0]) (by simp [results, Tryz.f21, go_sem, hz]) rfl ?_
        have bR : w.heap.size ≤ w.heap.size := Nat.le_refl _
        have n1 : nL ≠ w.heap.size := by omega
        have n2 : nL + 1 ≠ w.heap.size := by omega
        have nb2 := own_low HO2.out (show w.heap.size < w.heap.size + 2 by omega)
        refine ⟨A1, c1, some ⟨nL, 0, none⟩, 2, some ⟨nL + 1, 0, none⟩, 2, by rw [hlen]; rfl, ?_, ?_, ?_, ?_⟩
        · refine own_rdK (base := w.heap.size + 2) (e := 58) (k := 10) (n := k) (c := c1) ?_
          repeat (with_reducible first | exact HO2.out | refine own_setK ?_ nb2 _)
        · refine rd_box (z := (0, 0)) (t := 72) (cs := #[.int .i64 2, .int .i64 5, .int .i64 2, .int .i64 500, .int .i64 4, .int .i64 3, .int .i64 1, .int .i64 300]) ?_
          repeat (with_reducible first | exact HL2.out | refine box_far ?_ n1 _)
        · refine rd_box (z := (0, 0)) (t := 74) (cs := #[.int .i64 50, .int .i64 20, .int .i64 500, .int .i64 4, .int .i64 20, .int .i64 10, .int .i64 400, .int .i64 2]) ?_
          repeat (with_reducible first | exact HH2.out | refine box_far ?_ n2 _)
        · repeat (with_reducible first | exact HB2.out | refine Below.setCell ?_ bR _)
  · obtain ⟨e1, e2⟩ := famC_no hin
    rw [e1, e2]
    clear e1 e2
    go_enter Tryz.func21, Tryz.ntmps21
    by_cases h1 : n < 1
    · go_wp2
      refine bodyPost_ret (v := .tuple #[.agg #[.int .i64 0, .int .i64 0, .int .i64 0, .slice none 0 0, .slice none 0 0, .slice none 0 0], .int .i64 1]) (by simp [results, Tryz.f21, go_sem]) rfl ?_
      refine ⟨none, 0, none, 0, none, 0, rfl, Rd.nil _ _, Rd.nil _ _, Rd.nil _ _, ?_⟩
      repeat (with_reducible first | exact (Below.refl _ _).alloc (Nat.le_refl _) _ | refine Below.setCell ?_ (Nat.le_refl _) _)
    · have h8 : 8 < n := by unfold famIn at hin; omega
      go_wp2
      refine bodyPost_ret (v := .tuple #[.agg #[.int .i64 0, .int .i64 0, .int .i64 0, .slice none 0 0, .slice none 0 0, .slice none 0 0], .int .i64 1]) (by simp [results, Tryz.f21, go_sem]) rfl ?_
      refine ⟨none, 0, none, 0, none, 0, rfl, Rd.nil _ _, Rd.nil _ _, Rd.nil _ _, ?_⟩
      repeat (with_reducible first | exact (Below.refl _ _).alloc (Nat.le_refl _) _ | refine Below.setCell ?_ (Nat.le_refl _) _)
end Go.Proofs.YtpdanmdpaanafaaGreat
/- Package admit: Accept, Slack; the answers that vergelaw29.lives asks for. Conditions: lists that read. -/
namespace Go.Proofs.YtpdanmdpaanafaaGreat
open Go.RowKit Go.Shelf

theorem accept_any (mn mx sw : Int) (ts : List Tk) (ls : List Ln) (hs : List Th) (A : Option Addr) (ca : Nat) (B : Option Addr) (cb : Nat) (D : Option Addr) (cd : Nat) (w : World)
    (hlt0 : ts.length ≤ 1048576) (hll : ls.length ≤ 1048576) (hlh : hs.length ≤ 1048576)
    (ht : Rd w A (ts.flatMap tkc)) (hl : Rd w B (ls.flatMap lnc)) (hh : Rd w D (hs.flatMap thc)) (hmx : I64 mx) (ht64 : ∀ p ∈ ts.map (·.prio) ++ hs.map (·.prio), I64 p) :
    Calls Tryz.prog 24 #[cfv mn mx sw A ts.length ca B ls.length cb D hs.length cd] w fun e w' =>
      e = .returned (.bool ((bndR (Cf.why ⟨mn, mx, sw, ts, ls, hs⟩) (bdF mn sw ts ls hs) ts.length).2.2 == 0)) ∧ Below w.heap.size w w' := by
  have f1 := Lib.hid (fun w ht hl hh => abounds_any mn mx sw ts ls hs A ca B cb D cd w hlt0 hll hlh ht hl hh hmx ht64)
  have Ht := Lib.hid ht; have Hl := Lib.hid hl; have Hh := Lib.hid hh
  clear ht hl hh hmx ht64
  unfold cfv RetB at *
  generalize bndR (Cf.why ⟨mn, mx, sw, ts, ls, hs⟩) (bdF mn sw ts ls hs) ts.length = R at *
  obtain ⟨L, at1, y⟩ := R
  dsimp only at *
  go_enter Tryz.func24, Tryz.ntmps24
  go_wp2_with fail
  refine (f1.out _ (Ht.out.alloc _) (Hl.out.alloc _) (Hh.out.alloc _)).mono ?_
  rintro e w2 ⟨A1, c1, rfl, _, hb⟩
  have HB := Lib.hid (((Below.refl w.heap.size w).alloc (Nat.le_refl _) _).trans (hb.mono (by simp)))
  clear hb f1
  go_wp2
  go_ret
  exact ⟨rfl, HB.out⟩
theorem slack_one (mn mx sw : Int) (ts : List Tk) (ls : List Ln) (hs : List Th) (A : Option Addr) (ca : Nat) (B : Option Addr) (cb : Nat) (D : Option Addr) (cd : Nat) (w : World)
    (hlt0 : ts.length ≤ 1048576) (hll : ls.length ≤ 1048576) (hlh : hs.length ≤ 1048576) (hwhy : Cf.why ⟨mn, mx, sw, ts, ls, hs⟩ = 0) (k : Nat) (hk : k < ts.length)
    (ht : Rd w A (ts.flatMap tkc)) (hl : Rd w B (ls.flatMap lnc)) (hh : Rd w D (hs.flatMap thc)) (hmx : I64 mx) (ht64 : ∀ p ∈ ts.map (·.prio) ++ hs.map (·.prio), I64 p) :
    Calls Tryz.prog 37 #[cfv mn mx sw A ts.length ca B ls.length cb D hs.length cd, .int .i64 (k : Int)] w
      (RetN (if (bdF mn sw ts ls hs k).2 = 0 then wrap64 ((ts.getD k tk0).deadline - (bdF mn sw ts ls hs k).1) else 0) (bdF mn sw ts ls hs k).2 w) := by
  have f1 := Lib.hid (fun w ht hl hh => bd_one mn mx sw ts ls hs A ca B cb D cd w hlt0 hll hlh hwhy k hk ht hl hh hmx ht64)
  have Ht := Lib.hid ht; have Hl := Lib.hid hl; have Hh := Lib.hid hh
  clear ht hl hh hmx ht64 hwhy
  unfold cfv RetN at *
  generalize bdF mn sw ts ls hs k = R at *
  obtain ⟨b, y⟩ := R
  dsimp only at *
  generalize hN : (if y = 0 then wrap64 ((ts.getD k tk0).deadline - b) else 0) = N at *
  have HN := Lib.hid hN
  clear hN
  go_enter Tryz.func37, Tryz.ntmps37
  go_wp2_with fail
  refine (f1.out _ (Ht.out.alloc _) (Hl.out.alloc _) (Hh.out.alloc _)).mono ?_
  rintro e w2 ⟨rfl, hb⟩
  have HX := Lib.hid (box_keep (heap_alloc_new w (.cells #[.int .i64 mn, .int .i64 mx, .int .i64 sw, .slice A ts.length ca, .slice B ls.length cb, .slice D hs.length cd] 28)) hb)
  have HB := Lib.hid (((Below.refl w.heap.size w).alloc (Nat.le_refl _) _).trans (hb.mono (by simp)))
  clear hb f1
  obtain ⟨hx, hy⟩ := box_rules HX.out
  by_cases hy0 : y = 0
  · rw [if_pos hy0] at HN
    subst hy0
    have hy1 : ((0 : Int) != 0) = false := by decide
    obtain ⟨a, x, rfl, hx2, ⟨-, -, -, -⟩, p4, -⟩ := (Ht.out.below HB.out).tkAt hk
    have HX2 := Lib.hid hx2
    clear hx2
    go_wp2
    refine bodyPost_ret (v := .tuple #[.int .i64 (wrap64 (x.deadline - b)), .int .i64 0]) (by simp [results, Tryz.f37, go_sem]) rfl ?_
    exact ⟨by rw [← HN.out, HX2.out], HB.out⟩
  · rw [if_neg hy0] at HN
    have hy1 : (y != 0) = true := by simpa using hy0
    go_wp2
    refine bodyPost_ret (v := .tuple #[.int .i64 0, .int .i64 y]) (by simp [results, Tryz.f37, go_sem]) rfl ?_
    exact ⟨by rw [← HN.out], HB.out⟩
theorem fam_i64 (m : Nat) (hm : m ≤ 8) : ∀ p ∈ (famTs m).map (·.prio) ++ famHs.map (·.prio), I64 p := fun p hp => by
  rcases List.mem_append.1 hp with h | h
  · obtain ⟨t, ht, rfl⟩ := List.mem_map.1 h
    obtain ⟨k, hk, rfl⟩ := List.mem_map.1 (show t ∈ (List.range m).map famTk from ht)
    have := List.mem_range.1 hk
    unfold famTk I64
    dsimp only
    omega
  · simp [famHs] at h
    unfold I64
    omega
theorem addr_z (a : Addr) : a.add 0 = a := by
  unfold Addr.add
  split <;> simp_all
/-! what lives asks for -/
theorem fam2_S (w : World) : Calls Tryz.prog 20 #[.int .i64 2] w fun e w' => ∃ (A : Option Addr) (ca : Nat) (B : Option Addr) (cb : Nat) (D : Option Addr) (cd : Nat), e = .returned (.tuple #[cfv 4 1000 2 A 2 ca B 2 cb D 2 cd, .int .i64 0]) ∧
    Rd w' A ((famTs 2).flatMap tkc) ∧ Rd w' B (famLs.flatMap lnc) ∧ Rd w' D (famHs.flatMap thc) ∧ Below w.heap.size w w' := by
  have h := fam_any 2 w
  obtain ⟨e1, e2⟩ := famC_yes (n := 2) (by unfold famIn; omega)
  rw [e1, e2] at h
  exact h
theorem fam9_S (w : World) : Calls Tryz.prog 20 #[.int .i64 9] w fun e w' => ∃ (A : Option Addr) (ca : Nat) (B : Option Addr) (cb : Nat) (D : Option Addr) (cd : Nat), e = .returned (.tuple #[cfv 0 0 0 A 0 ca B 0 cb D 0 cd, .int .i64 1]) ∧ Below w.heap.size w w' := by
  have h := fam_any 9 w
  obtain ⟨e1, e2⟩ := famC_no (n := 9) (by unfold famIn; omega)
  rw [e1, e2] at h
  exact h.mono fun e w' ⟨A, ca, B, cb, D, cd, h1, _, _, _, h2⟩ => ⟨A, ca, B, cb, D, cd, h1, h2⟩
theorem why2_S : Cf.why ⟨4, 1000, 2, famTs 2, famLs, famHs⟩ = 0 := by kernel_rfl
theorem bnd2_S : bndR (Cf.why ⟨4, 1000, 2, famTs 2, famLs, famHs⟩) (bdF 4 2 (famTs 2) famLs famHs) (famTs 2).length = ([79, 117], 0, 0) := by kernel_rfl
theorem bd21_S : bdF 4 2 (famTs 2) famLs famHs 1 = (117, 0) := by kernel_rfl
theorem bnd0_S : bndR (Cf.why ⟨0, 0, 0, [], [], []⟩) (bdF 0 0 [] [] []) 0 = ([], 0, 2) := by kernel_rfl
section
variable {A : Option Addr} {ca : Nat} {B : Option Addr} {cb : Nat} {D : Option Addr} {cd : Nat} {w : World}
theorem i64_1000 : I64 1000 := by unfold I64; omega
theorem i64_0 : I64 0 := by unfold I64; omega
theorem abounds_S (ht : Rd w A ((famTs 2).flatMap tkc)) (hl : Rd w B (famLs.flatMap lnc)) (hh : Rd w D (famHs.flatMap thc)) : Calls Tryz.prog 18 #[cfv 4 1000 2 A 2 ca B 2 cb D 2 cd] w (RetB ([79, 117], 0, 0) w) := by
  have h := abounds_any 4 1000 2 (famTs 2) famLs famHs A ca B cb D cd w (by decide) (by decide) (by decide) ht hl hh i64_1000 (fam_i64 2 (by decide))
  rw [bnd2_S] at h
  exact h
theorem accept_S (ht : Rd w A ((famTs 2).flatMap tkc)) (hl : Rd w B (famLs.flatMap lnc)) (hh : Rd w D (famHs.flatMap thc)) : Calls Tryz.prog 24 #[cfv 4 1000 2 A 2 ca B 2 cb D 2 cd] w fun e w' => e = .returned (.bool true) ∧ Below w.heap.size w w' := by
  have h := accept_any 4 1000 2 (famTs 2) famLs famHs A ca B cb D cd w (by decide) (by decide) (by decide) ht hl hh i64_1000 (fam_i64 2 (by decide))
  rw [bnd2_S] at h
  exact h
theorem slack_S (ht : Rd w A ((famTs 2).flatMap tkc)) (hl : Rd w B (famLs.flatMap lnc)) (hh : Rd w D (famHs.flatMap thc)) : Calls Tryz.prog 37 #[cfv 4 1000 2 A 2 ca B 2 cb D 2 cd, .int .i64 1] w (RetN 1883 0 w) := by
  have h := slack_one 4 1000 2 (famTs 2) famLs famHs A ca B cb D cd w (by decide) (by decide) (by decide) why2_S 1 (by decide) ht hl hh i64_1000 (fam_i64 2 (by decide))
  have e : (if (bdF 4 2 (famTs 2) famLs famHs 1).2 = 0 then wrap64 (((famTs 2).getD 1 tk0).deadline - (bdF 4 2 (famTs 2) famLs famHs 1).1) else 0) = 1883 := by rw [bd21_S]; kernel_rfl
  rw [e, bd21_S] at h
  exact h
theorem abounds_0 : Calls Tryz.prog 18 #[cfv 0 0 0 none 0 0 none 0 0 none 0 0] w (RetB ([], 0, 2) w) := by
  have h := abounds_any 0 0 0 [] [] [] none 0 none 0 none 0 w (by decide) (by decide) (by decide) (Rd.nil _ _) (Rd.nil _ _) (Rd.nil _ _) i64_0 (by simp)
  have e : bndR (Cf.why ⟨0, 0, 0, [], [], []⟩) (bdF 0 0 [] [] []) ([] : List Tk).length = ([], 0, 2) := bnd0_S
  rw [e] at h
  exact h
theorem accept_0 : Calls Tryz.prog 24 #[cfv 0 0 0 none 0 0 none 0 0 none 0 0] w fun e w' => e = .returned (.bool false) ∧ Below w.heap.size w w' := by
  have h := accept_any 0 0 0 [] [] [] none 0 none 0 none 0 w (by decide) (by decide) (by decide) (Rd.nil _ _) (Rd.nil _ _) (Rd.nil _ _) i64_0 (by simp)
  have e : bndR (Cf.why ⟨0, 0, 0, [], [], []⟩) (bdF 0 0 [] [] []) ([] : List Tk).length = ([], 0, 2) := bnd0_S
  rw [e] at h
  exact h
end
set_option maxHeartbeats 4000000 in
set_option maxRecDepth 100000 in
theorem lives29 (w : World) : Calls Tryz.prog 17 #[] w fun e w' => e = .returned (.bool true) ∧ Below w.heap.size w w' := by
  have f1 := Lib.hid (fun w => fam2_S w)
  have f2 := Lib.hid (fun A ca B cb D cd w ht hl hh => abounds_S (A := A) (ca := ca) (B := B) (cb := cb) (D := D) (cd := cd) (w := w) ht hl hh)
  have f3 := Lib.hid (fun w => fam9_S w)
  have f4 := Lib.hid (fun w => abounds_0 (w := w))
  have f5 := Lib.hid (fun A ca B cb D cd w ht hl hh => slack_S (A := A) (ca := ca) (B := B) (cb := cb) (D := D) (cd := cd) (w := w) ht hl hh)
  have f6 := Lib.hid (fun A ca B cb D cd w ht hl hh => accept_S (A := A) (ca := ca) (B := B) (cb := cb) (D := D) (cd := cd) (w := w) ht hl hh)
  have f7 := Lib.hid (fun w => accept_0 (w := w))
  generalize (famTs 2).flatMap tkc = F1 at *
  generalize famLs.flatMap lnc = F2 at *
  generalize famHs.flatMap thc = F3 at *
  unfold cfv RetN RetB at *
  dsimp only [List.length_cons, List.length_nil] at f2 f4
  go_enter Tryz.func17, Tryz.ntmps17
  go_wp2_with fail
  refine (f1.out _).mono ?_
  rintro e w1 ⟨A, ca, B, cb, D, cd, rfl, h1, h2, h3, hb⟩
  have H1 := Lib.hid h1; have H2 := Lib.hid h2; have H3 := Lib.hid h3; have B0 := Lib.hid hb
  clear h1 h2 h3 hb f1
  go_upto_region 2 with fail
  refine name_world fun W hW => ?_
  have HC : Hid (W.heap[w1.heap.size]? = some (.cells #[.int .i64 4, .int .i64 1000, .int .i64 2, .slice A 2 ca, .slice B 2 cb, .slice D 2 cd] 28 (0, 0))) := Lib.hid (by rw [hW]; exact heap_alloc_new _ _)
  have HB : Hid (Below w.heap.size w W) := Lib.hid (by rw [hW]; exact B0.out.alloc B0.out.size _)
  have m1 := Lib.hid (fun w' (h : Hid (Below W.heap.size W w')) => (show Rd W A F1 by rw [hW]; exact H1.out.alloc _).below h.out)
  have m2 := Lib.hid (fun w' (h : Hid (Below W.heap.size W w')) => (show Rd W B F2 by rw [hW]; exact H2.out.alloc _).below h.out)
  have m3 := Lib.hid (fun w' (h : Hid (Below W.heap.size W w')) => (show Rd W D F3 by rw [hW]; exact H3.out.alloc _).below h.out)
  have hR := fun w' (h : Hid (Below W.heap.size W w')) => (box_rules (box_keep HC.out h.out)).1
  have hS0 := S_refl' W
  have q0 := hR _ hS0
  have lW := box_lt HC.out
  clear hW H1 H2 H3 B0
  generalize w1.heap.size = bc at *
  go_wp2_with fail
  refine (f2.out _ _ _ _ _ _ _ (m1.out _ hS0) (m2.out _ hS0) (m3.out _ hS0)).mono ?_
  rintro e w2 ⟨AL, cL, rfl, hL, hb⟩
  have hS2 := S_call' hS0 hb
  have HL := Lib.hid hL
  have q2 := hR _ hS2
  clear hb hL q0 f2
  go_wp2_with fail
  refine (f3.out _).mono ?_
  rintro e w3 ⟨A9, a9, B9, b9, D9, d9, rfl, hb⟩
  have hS3 := S_call' hS2 hb
  have HL3 := Lib.hid (HL.out.below hb)
  clear hb q2 f3 HL
  go_upto_region 4 with fail
  refine name_world fun W4 hW4 => ?_
  have hS4 : Hid (Below W.heap.size W W4) := Lib.hid (by rw [hW4]; exact hS3.out.alloc hS3.out.size _)
  have HL4 : Hid (Rd W4 AL ([79, 117].map (.int .i64))) := Lib.hid (by rw [hW4]; exact HL3.out.alloc _)
  have q4 := hR _ hS4
  clear hW4 HL3 hS3
  go_wp2_with fail
  refine (f4.out _).mono ?_
  rintro e w5 ⟨A0, c0, rfl, _, hb⟩
  have hS5 := S_call' hS4 hb
  have HL5 := Lib.hid (HL4.out.below hb)
  have q5 := hR _ hS5
  clear hb q4 f4 HL4
  go_wp2_with fail
  refine (f5.out _ _ _ _ _ _ _ (m1.out _ hS5) (m2.out _ hS5) (m3.out _ hS5)).mono ?_
  rintro e w6 ⟨rfl, hb⟩
  have hS6 := S_call' hS5 hb
  have HL6 := Lib.hid (HL5.out.below hb)
  have q6 := hR _ hS6
  clear hb q5 f5 HL5
  obtain ⟨a, rfl, g0⟩ := HL6.out.int (i := 0) (by decide)
  obtain ⟨a', e1, g1⟩ := HL6.out.int (i := 1) (by decide)
  cases e1
  rw [addr_z] at g0
  have g0' : w6.cell? a = some (.int .i64 79) := g0
  have g1' : w6.cell? ⟨a.block, a.off + 1, none⟩ = some (.int .i64 117) := g1
  clear g0 g1
  go_wp2_with fail
  refine (f6.out _ _ _ _ _ _ _ (m1.out _ hS6) (m2.out _ hS6) (m3.out _ hS6)).mono ?_
  rintro e w7 ⟨rfl, hb⟩
  have hS7 := S_call' hS6 hb
  clear hb q6 f6 g0' g1'
  go_wp2_with fail
  refine (f7.out _).mono ?_
  rintro e w8 ⟨rfl, hb⟩
  have hS8 := S_call' hS7 hb
  clear hb
  go_wp2
  go_ret
  exact ⟨rfl, HB.out.trans (hS8.out.mono HB.out.size)⟩
end Go.Proofs.YtpdanmdpaanafaaGreat
/- vergelaw29: the walk of AdmitTells. Conditions: lists that read. -/
namespace Go.Proofs.YtpdanmdpaanafaaGreat
open Go.RowKit Go.Shelf

theorem bdGo_len (f : Nat → Int × Int) : ∀ (m k : Nat) (acc : List Int), (bdGo f m k acc).1.length ≤ acc.length + m
  | 0, _, acc => Nat.le_refl _
  | m + 1, k, acc => by
    show (if (f k).2 ≠ 0 then (([] : List Int), (k : Int), (f k).2) else bdGo f m (k + 1) (acc ++ [(f k).1])).1.length ≤ _
    split
    · exact Nat.zero_le _
    · have h := bdGo_len f m (k + 1) (acc ++ [(f k).1])
      rw [List.length_append] at h
      simp at h
      omega
theorem bndR_len (y : Int) (f : Nat → Int × Int) (n : Nat) : (bndR y f n).1.length ≤ n := by
  unfold bndR
  split
  · exact Nat.zero_le _
  · have := bdGo_len f n 0 []
    simpa [bdY] using this
theorem famC_len (n : Int) : (famC n).ts.length ≤ 8 ∧ (famC n).ls.length ≤ 2 ∧ (famC n).hs.length ≤ 2 := by
  by_cases h : famIn n
  · rw [(famC_yes h).1]
    dsimp only
    rw [famTs_len]
    obtain ⟨h1, h2⟩ := h
    exact ⟨by omega, by decide, by decide⟩
  · rw [(famC_no h).1]
    exact ⟨by simp, by simp, by simp⟩
set_option maxHeartbeats 4000000 in
set_option maxRecDepth 100000 in
theorem tells29_cfg (mn mx sw : Int) (ts : List Tk) (ls : List Ln) (hs : List Th) (A : Option Addr) (ca : Nat) (B : Option Addr) (cb : Nat) (D : Option Addr) (cd : Nat) (n : Int) (w : World)
    (hlt0 : ts.length ≤ 1048576) (hll : ls.length ≤ 1048576) (hlh : hs.length ≤ 1048576)
    (ht : Rd w A (ts.flatMap tkc)) (hl : Rd w B (ls.flatMap lnc)) (hh : Rd w D (hs.flatMap thc)) (hmx : I64 mx) (ht64 : ∀ p ∈ ts.map (·.prio) ++ hs.map (·.prio), I64 p) :
    Calls Tryz.prog 4 #[cfv mn mx sw A ts.length ca B ls.length cb D hs.length cd, .int .i64 n] w fun e w' => e = .returned (.bool true) ∧ Below w.heap.size w w' := by
  have c1 := Lib.hid (fun w ht hl hh => abounds_any mn mx sw ts ls hs A ca B cb D cd w hlt0 hll hlh ht hl hh hmx ht64)
  have c2 := Lib.hid (fun w ht hl hh => bounds29_any mn mx sw ts ls hs A ca B cb D cd w hlt0 hll hlh ht hl hh hmx)
  have c3 := Lib.hid (fun w => fam_any n w)
  have c4 := Lib.hid (fun w => fam29_any n w)
  have c5 := Lib.hid (fun w ht hl hh => accept_any mn mx sw ts ls hs A ca B cb D cd w hlt0 hll hlh ht hl hh hmx ht64)
  have f0 := Lib.hid (fun w => lives29 w)
  have HLn := bndR_len (Cf.why ⟨mn, mx, sw, ts, ls, hs⟩) (bdF mn sw ts ls hs) ts.length
  have f9 := Lib.hid (fun A c B d w ha hb => same13_one (bndR (Cf.why ⟨mn, mx, sw, ts, ls, hs⟩) (bdF mn sw ts ls hs) ts.length).1 (by omega) A c B d w ha hb)
  obtain ⟨g1, g2, g3⟩ := famC_len n
  have f8 := Lib.hid (fun A ca B cb D cd A' ca' B' cb' D' cd' w h1 h2 h3 h4 h5 h6 => same26_one (famC n).mn (famC n).mx (famC n).sw (famC n).ts (famC n).ls (famC n).hs A ca B cb D cd A' ca' B' cb' D' cd' w (by omega) (by omega) (by omega) h1 h2 h3 h4 h5 h6)
  have Ht := Lib.hid ht; have Hl := Lib.hid hl; have Hh := Lib.hid hh
  clear ht hl hh hmx ht64 HLn g1 g2 g3
  unfold RetB RetF cfv at *
  generalize bndR (Cf.why ⟨mn, mx, sw, ts, ls, hs⟩) (bdF mn sw ts ls hs) ts.length = R at *
  generalize famC n = C at *
  generalize famY n = Y at *
  obtain ⟨L, at1, y⟩ := R
  obtain ⟨fm, fx, fs, ft, fl, fh⟩ := C
  dsimp only at *
  generalize ft.flatMap tkc = F1 at *
  generalize fl.flatMap lnc = F2 at *
  generalize fh.flatMap thc = F3 at *
  generalize L.map (Value.int .i64) = LL at *
  go_enter Tryz.func4, Tryz.ntmps4
  go_upto_region 1 with fail
  refine name_world fun W hW => ?_
  have HC : Hid (W.heap[w.heap.size]? = some (.cells #[.int .i64 mn, .int .i64 mx, .int .i64 sw, .slice A ts.length ca, .slice B ls.length cb, .slice D hs.length cd] 28 (0, 0))) := Lib.hid (by rw [hW]; exact heap_alloc_new w _)
  have HB : Hid (Below w.heap.size w W) := Lib.hid (by rw [hW]; exact (Below.refl _ _).alloc (Nat.le_refl _) _)
  have hR := fun w' (h : Hid (Below W.heap.size W w')) => (box_rules (box_keep HC.out h.out)).1
  have m1 := Lib.hid (fun w' (h : Hid (Below W.heap.size W w')) => (Ht.out.below HB.out).below h.out)
  have m2 := Lib.hid (fun w' (h : Hid (Below W.heap.size W w')) => (Hl.out.below HB.out).below h.out)
  have m3 := Lib.hid (fun w' (h : Hid (Below W.heap.size W w')) => (Hh.out.below HB.out).below h.out)
  have hS0 := S_refl' W
  have q0 := hR _ hS0
  clear hW
  by_cases hb : (200 : Int) < (ts.length : Int) + ls.length + hs.length
  · go_wp2_with (go_at_call 17; refine (f0.out _).mono ?_; rintro e w' ⟨rfl, hb⟩)
    go_ret
    exact ⟨rfl, HB.out.trans (Below.mono (B := W.heap.size) (by assumption) HB.out.size)⟩
  · go_wp2_with fail
    refine (c1.out _ (m1.out _ hS0) (m2.out _ hS0) (m3.out _ hS0)).mono ?_
    rintro e w1 ⟨A1, k1, rfl, hr1, hb1⟩
    have hS1 := S_call' hS0 hb1
    have q1 := hR _ hS1
    have P1 := Lib.hid hr1
    clear hb1 hr1 q0 c1
    go_wp2_with fail
    refine (c2.out _ (m1.out _ hS1) (m2.out _ hS1) (m3.out _ hS1)).mono ?_
    rintro e w2 ⟨A2, k2, rfl, hr2, hb2⟩
    have hS2 := S_call' hS1 hb2
    have q2 := hR _ hS2
    have P12 := Lib.hid (P1.out.below hb2)
    have P2 := Lib.hid hr2
    clear hb2 hr2 q1 c2 P1
    go_wp2_with fail
    refine (c3.out _).mono ?_
    rintro e w3 ⟨FA, fa, FB, fb, FD, fd, rfl, e1, e2, e3, hb⟩
    have hS3 := S_call' hS2 hb
    have P13 := Lib.hid (P12.out.below hb); have P23 := Lib.hid (P2.out.below hb)
    have E1 := Lib.hid e1; have E2 := Lib.hid e2; have E3 := Lib.hid e3
    clear hb e1 e2 e3 q2 c3 P12 P2
    go_upto_region 6 with fail
    refine name_world fun V hV => ?_
    have HV : Hid (V.heap[w3.heap.size]? = some (.cells #[.int .i64 fm, .int .i64 fx, .int .i64 fs, .slice FA ft.length fa, .slice FB fl.length fb, .slice FD fh.length fd] 28 (0, 0))) := Lib.hid (by rw [hV]; exact heap_alloc_new _ _)
    have hSV : Hid (Below W.heap.size W V) := Lib.hid (by rw [hV]; exact hS3.out.alloc hS3.out.size _)
    have P1V : Hid (Rd V A1 LL) := Lib.hid (by rw [hV]; exact P13.out.alloc _)
    have P2V : Hid (Rd V A2 LL) := Lib.hid (by rw [hV]; exact P23.out.alloc _)
    have E1V : Hid (Rd V FA F1) := Lib.hid (by rw [hV]; exact E1.out.alloc _)
    have E2V : Hid (Rd V FB F2) := Lib.hid (by rw [hV]; exact E2.out.alloc _)
    have E3V : Hid (Rd V FD F3) := Lib.hid (by rw [hV]; exact E3.out.alloc _)
    clear hV P13 P23 E1 E2 E3
    generalize w3.heap.size = b3 at *
    go_wp2_with fail
    refine (c4.out _).mono ?_
    rintro e w4 ⟨GA, ga, GB, gb, GD, gd, rfl, e1, e2, e3, hb⟩
    have hS4 := S_call' hSV hb
    have P14 := Lib.hid (P1V.out.below hb); have P24 := Lib.hid (P2V.out.below hb)
    have E14 := Lib.hid (E1V.out.below hb); have E24 := Lib.hid (E2V.out.below hb); have E34 := Lib.hid (E3V.out.below hb)
    have HV4 := Lib.hid (box_keep HV.out hb)
    have G1 := Lib.hid e1; have G2 := Lib.hid e2; have G3 := Lib.hid e3
    clear hb e1 e2 e3 c4 P1V P2V E1V E2V E3V HV hSV
    go_upto_region 7 with fail
    refine name_world fun U hU => ?_
    have HU : Hid (U.heap[w4.heap.size]? = some (.cells #[.int .i64 fm, .int .i64 fx, .int .i64 fs, .slice GA ft.length ga, .slice GB fl.length gb, .slice GD fh.length gd] 28 (0, 0))) := Lib.hid (by rw [hU]; exact heap_alloc_new _ _)
    have hSU : Hid (Below W.heap.size W U) := Lib.hid (by rw [hU]; exact hS4.out.alloc hS4.out.size _)
    have HVU : Hid (U.heap[b3]? = some (.cells #[.int .i64 fm, .int .i64 fx, .int .i64 fs, .slice FA ft.length fa, .slice FB fl.length fb, .slice FD fh.length fd] 28 (0, 0))) := Lib.hid (by rw [hU]; exact box_alloc HV4.out _)
    have P1U : Hid (Rd U A1 LL) := Lib.hid (by rw [hU]; exact P14.out.alloc _)
    have P2U : Hid (Rd U A2 LL) := Lib.hid (by rw [hU]; exact P24.out.alloc _)
    have E1U : Hid (Rd U FA F1) := Lib.hid (by rw [hU]; exact E14.out.alloc _)
    have E2U : Hid (Rd U FB F2) := Lib.hid (by rw [hU]; exact E24.out.alloc _)
    have E3U : Hid (Rd U FD F3) := Lib.hid (by rw [hU]; exact E34.out.alloc _)
    have G1U : Hid (Rd U GA F1) := Lib.hid (by rw [hU]; exact G1.out.alloc _)
    have G2U : Hid (Rd U GB F2) := Lib.hid (by rw [hU]; exact G2.out.alloc _)
    have G3U : Hid (Rd U GD F3) := Lib.hid (by rw [hU]; exact G3.out.alloc _)
    clear hU P14 P24 E14 E24 E34 G1 G2 G3 HV4
    generalize w4.heap.size = b4 at *
    go_wp2_with fail
    refine (f0.out _).mono ?_
    rintro e w5 ⟨rfl, hb⟩
    have hS5 := S_call' hSU hb
    have hk5 := S_call' (S_refl' U) hb
    clear hb
    go_wp2_with fail
    refine (f9.out _ _ _ _ _ (P1U.out.below hk5.out) (P2U.out.below hk5.out)).mono ?_
    rintro e w6 ⟨rfl, hb⟩
    have hS6 := S_call' hS5 hb
    have hk6 := S_call' hk5 hb
    clear hb
    obtain ⟨ux, uy⟩ := box_rules (box_keep HU.out hk6.out)
    obtain ⟨vx, vy⟩ := box_rules (box_keep HVU.out hk6.out)
    go_wp2_with fail
    refine (f8.out _ _ _ _ _ _ _ _ _ _ _ _ _ (E1U.out.below hk6.out) (E2U.out.below hk6.out) (E3U.out.below hk6.out) (G1U.out.below hk6.out) (G2U.out.below hk6.out) (G3U.out.below hk6.out)).mono ?_
    rintro e w7 ⟨rfl, hb⟩
    have hS7 := S_call' hS6 hb
    have q7 := hR _ hS7
    clear hb ux uy vx vy
    go_wp2_with fail
    refine (c5.out _ (m1.out _ hS7) (m2.out _ hS7) (m3.out _ hS7)).mono ?_
    rintro e w8 ⟨rfl, hb⟩
    have hS8 := S_call' hS7 hb
    clear hb q7
    go_wp2
    go_ret
    exact ⟨rfl, HB.out.trans (hS8.out.mono HB.out.size)⟩
end Go.Proofs.YtpdanmdpaanafaaGreat

/- Package vergeref33: the walks of act and comes. Conditions: lists that read. -/
import Derived.Test.YtpdanmdpaanafaaConB
namespace Go.Proofs.Ytpdanmdpaanafaa
open Go.RowKit Go.Shelf

theorem inR_cases {i : Int} {n : Nat} (h : inR i n = false) : i < 0 ∨ (¬ i < 0 ∧ (n : Int) ≤ i) := by
  unfold inR at h
  simp at h
  omega
set_option maxHeartbeats 4000000 in
set_option maxRecDepth 100000 in
theorem act33_any (mn mx sw : Int) (ts : List Tk) (ls : List Ln) (A : Option Addr) (ca : Nat) (B : Option Addr) (cb : Nat) (D : Option Addr) (nd cd : Nat) (x : Ac) (w : World)
    (ht : Rd w A (ts.flatMap tkc)) (hl : Rd w B (ls.flatMap lnc)) :
    Calls Try.prog 46 #[cfv mn mx sw A ts.length ca B ls.length cb D nd cd, acv x] w fun e w' => e = .returned (.bool (actOk ts ls x)) ∧ Below w.heap.size w w' := by
  obtain ⟨kind, who, n, m⟩ := x
  have Ht := Lib.hid ht; have Hl := Lib.hid hl
  clear ht hl
  generalize hcv : actOk ts ls ⟨kind, who, n, m⟩ = cv
  have HCV := Lib.hid hcv
  clear hcv
  unfold acv cfv
  dsimp only
  go_enter Try.func46, Try.ntmps46
  go_upto_region 1 with fail
  refine name_world fun W hW => ?_
  have HX : Hid (W.heap[w.heap.size + 1]? = some (.cells #[.int .u8 kind, .int .i64 who, .int .i64 n, .int .i64 m] 118 (0, 0))) := Lib.hid (by rw [hW]; exact heap_new_at _ (by simp))
  have HC : Hid (W.heap[w.heap.size]? = some (.cells #[.int .i64 mn, .int .i64 mx, .int .i64 sw, .slice A ts.length ca, .slice B ls.length cb, .slice D nd cd] 28 (0, 0))) := Lib.hid (by rw [hW]; exact box_alloc (heap_alloc_new w _) _)
  have HB : Hid (Below w.heap.size w W) := Lib.hid (by rw [hW]; exact ((Below.refl _ _).alloc (Nat.le_refl _) _).alloc (by simp) _)
  clear hW
  have HtW := Lib.hid (Ht.out.below HB.out)
  have HlW := Lib.hid (Hl.out.below HB.out)
  obtain ⟨hx, hy⟩ := box_rules HX.out
  obtain ⟨hcx, hcy⟩ := box_rules HC.out
  by_cases k3 : kind = 3
  · subst k3
    by_cases hin : inR who ts.length = true
    · obtain ⟨k, rfl, hk⟩ := inR_get hin
      have e1 : decide ((k : Int) < (ts.length : Int)) = true := by simp; omega
      have e2 : decide (k < ts.length) = true := by simp; omega
      have e3 : decide ((ts.length : Int) ≤ (k : Int)) = false := by simp; omega
      have e4 : decide (ts.length ≤ k) = false := by simp; omega
      obtain ⟨a, x, rfl, hx2, ⟨g0, g1, g2, g3⟩, g4, g5, g6, g7, g8, g9⟩ := HtW.out.tkAt hk
      have HV : Hid (actOk ts ls ⟨3, k, n, m⟩ = decide (n ≤ x.cost)) := Lib.hid (by
        unfold actOk
        rw [if_pos (by simp), hin]
        show (!true || decide (n ≤ (ts.getD k tk0).cost)) = _
        rw [hx2]; rfl)
      obtain rfl := HCV.out.symm.trans HV.out
      clear hin hx2 HV HCV
      obtain ⟨x0, x1, x2, x3, x4, x5, x6, x7, x8, x9⟩ := x
      dsimp only at g0 g1 g2 g3 g4 g5 g6 g7 g8 g9 ⊢
      go_wp2
      go_big_quiet (fail)
      go_wp2
      go_ret
      first | exact ⟨rfl, HB.out⟩ | exact ⟨rfl, HB.out.drew⟩ | exact ⟨rfl, bdrewN HB.out _⟩
    · have hno := inR_no hin
      have HV : Hid (actOk ts ls ⟨3, who, n, m⟩ = true) := Lib.hid (by
        unfold actOk
        rw [if_pos (by simp), hno]; rfl)
      obtain rfl := HCV.out.symm.trans HV.out
      clear hin HV HCV
      rcases inR_cases hno with h | ⟨h, h'⟩
      · clear hno
        go_wp2
        go_big_quiet (fail)
        go_wp2
        go_ret
        first | exact ⟨rfl, HB.out⟩ | exact ⟨rfl, HB.out.drew⟩ | exact ⟨rfl, bdrewN HB.out _⟩
      · clear hno
        have e1 : decide (who < (ts.length : Int)) = false := by simp; omega
        have e3 : decide ((ts.length : Int) ≤ who) = true := by simp; omega
        go_wp2
        go_big_quiet (fail)
        go_wp2
        go_ret
        first | exact ⟨rfl, HB.out⟩ | exact ⟨rfl, HB.out.drew⟩ | exact ⟨rfl, bdrewN HB.out _⟩
  by_cases k4 : kind = 4
  · subst k4
    by_cases hin : inR who ts.length = true
    · obtain ⟨k, rfl, hk⟩ := inR_get hin
      have e1 : decide ((k : Int) < (ts.length : Int)) = true := by simp; omega
      have e2 : decide (k < ts.length) = true := by simp; omega
      have e3 : decide ((ts.length : Int) ≤ (k : Int)) = false := by simp; omega
      have e4 : decide (ts.length ≤ k) = false := by simp; omega
      obtain ⟨a, x, rfl, hx2, ⟨g0, g1, g2, g3⟩, g4, g5, g6, g7, g8, g9⟩ := HtW.out.tkAt hk
      have HV : Hid (actOk ts ls ⟨4, k, n, m⟩ = decide (n ≤ x.cost)) := Lib.hid (by
        unfold actOk
        rw [if_pos (by simp), hin]
        show (!true || decide (n ≤ (ts.getD k tk0).cost)) = _
        rw [hx2]; rfl)
      obtain rfl := HCV.out.symm.trans HV.out
      clear hin hx2 HV HCV
      obtain ⟨x0, x1, x2, x3, x4, x5, x6, x7, x8, x9⟩ := x
      dsimp only at g0 g1 g2 g3 g4 g5 g6 g7 g8 g9 ⊢
      go_wp2
      go_big_quiet (fail)
      go_wp2
      go_ret
      first | exact ⟨rfl, HB.out⟩ | exact ⟨rfl, HB.out.drew⟩ | exact ⟨rfl, bdrewN HB.out _⟩
    · have hno := inR_no hin
      have HV : Hid (actOk ts ls ⟨4, who, n, m⟩ = true) := Lib.hid (by
        unfold actOk
        rw [if_pos (by simp), hno]; rfl)
      obtain rfl := HCV.out.symm.trans HV.out
      clear hin HV HCV
      rcases inR_cases hno with h | ⟨h, h'⟩
      · clear hno
        go_wp2
        go_big_quiet (fail)
        go_wp2
        go_ret
        first | exact ⟨rfl, HB.out⟩ | exact ⟨rfl, HB.out.drew⟩ | exact ⟨rfl, bdrewN HB.out _⟩
      · clear hno
        have e1 : decide (who < (ts.length : Int)) = false := by simp; omega
        have e3 : decide ((ts.length : Int) ≤ who) = true := by simp; omega
        go_wp2
        go_big_quiet (fail)
        go_wp2
        go_ret
        first | exact ⟨rfl, HB.out⟩ | exact ⟨rfl, HB.out.drew⟩ | exact ⟨rfl, bdrewN HB.out _⟩
  by_cases k5 : kind = 5
  · subst k5
    by_cases hin : inR who ts.length = true
    · obtain ⟨k, rfl, hk⟩ := inR_get hin
      have e1 : decide ((k : Int) < (ts.length : Int)) = true := by simp; omega
      have e2 : decide (k < ts.length) = true := by simp; omega
      have e3 : decide ((ts.length : Int) ≤ (k : Int)) = false := by simp; omega
      have e4 : decide (ts.length ≤ k) = false := by simp; omega
      obtain ⟨a, x, rfl, hx2, ⟨g0, g1, g2, g3⟩, g4, g5, g6, g7, g8, g9⟩ := HtW.out.tkAt hk
      have HV : Hid (actOk ts ls ⟨5, k, n, m⟩ = decide (n ≤ x.cost)) := Lib.hid (by
        unfold actOk
        rw [if_pos (by simp), hin]
        show (!true || decide (n ≤ (ts.getD k tk0).cost)) = _
        rw [hx2]; rfl)
      obtain rfl := HCV.out.symm.trans HV.out
      clear hin hx2 HV HCV
      obtain ⟨x0, x1, x2, x3, x4, x5, x6, x7, x8, x9⟩ := x
      dsimp only at g0 g1 g2 g3 g4 g5 g6 g7 g8 g9 ⊢
      go_wp2
      go_big_quiet (fail)
      go_wp2
      go_ret
      first | exact ⟨rfl, HB.out⟩ | exact ⟨rfl, HB.out.drew⟩ | exact ⟨rfl, bdrewN HB.out _⟩
    · have hno := inR_no hin
      have HV : Hid (actOk ts ls ⟨5, who, n, m⟩ = true) := Lib.hid (by
        unfold actOk
        rw [if_pos (by simp), hno]; rfl)
      obtain rfl := HCV.out.symm.trans HV.out
      clear hin HV HCV
      rcases inR_cases hno with h | ⟨h, h'⟩
      · clear hno
        go_wp2
        go_big_quiet (fail)
        go_wp2
        go_ret
        first | exact ⟨rfl, HB.out⟩ | exact ⟨rfl, HB.out.drew⟩ | exact ⟨rfl, bdrewN HB.out _⟩
      · clear hno
        have e1 : decide (who < (ts.length : Int)) = false := by simp; omega
        have e3 : decide ((ts.length : Int) ≤ who) = true := by simp; omega
        go_wp2
        go_big_quiet (fail)
        go_wp2
        go_ret
        first | exact ⟨rfl, HB.out⟩ | exact ⟨rfl, HB.out.drew⟩ | exact ⟨rfl, bdrewN HB.out _⟩
  by_cases k2 : kind = 2
  · subst k2
    by_cases hin : inR who ls.length = true
    · obtain ⟨k, rfl, hk⟩ := inR_get hin
      have e1 : decide ((k : Int) < (ls.length : Int)) = true := by simp; omega
      have e2 : decide (k < ls.length) = true := by simp; omega
      have e3 : decide ((ls.length : Int) ≤ (k : Int)) = false := by simp; omega
      have e4 : decide (ls.length ≤ k) = false := by simp; omega
      have e5 : decide ((k : Int) < 0) = false := by simp
      obtain ⟨a, x, rfl, hx2, g0, g1, g2, g3⟩ := HlW.out.lnAt hk
      have HV : Hid (actOk ts ls ⟨2, k, n, m⟩ = decide (n ≤ x.top)) := Lib.hid (by
        unfold actOk
        rw [if_neg (by simp), if_pos (by simp), hin]
        show (!true || decide (n ≤ (ls.getD k ⟨0, 0, 0, 0⟩).top)) = _
        rw [hx2]; rfl)
      obtain rfl := HCV.out.symm.trans HV.out
      clear hin hx2 HV HCV
      obtain ⟨x0, x1, x2, x3⟩ := x
      dsimp only at g0 g1 g2 g3 ⊢
      go_wp2
      go_big_quiet (fail)
      go_wp2
      go_ret
      first | exact ⟨rfl, HB.out⟩ | exact ⟨rfl, HB.out.drew⟩ | exact ⟨rfl, bdrewN HB.out _⟩
    · have hno := inR_no hin
      have HV : Hid (actOk ts ls ⟨2, who, n, m⟩ = true) := Lib.hid (by
        unfold actOk
        rw [if_neg (by simp), if_pos (by simp), hno]; rfl)
      obtain rfl := HCV.out.symm.trans HV.out
      clear hin HV HCV
      rcases inR_cases hno with h | ⟨h, h'⟩
      · clear hno
        go_wp2
        go_big_quiet (fail)
        go_wp2
        go_ret
        first | exact ⟨rfl, HB.out⟩ | exact ⟨rfl, HB.out.drew⟩ | exact ⟨rfl, bdrewN HB.out _⟩
      · clear hno
        have e1 : decide (who < (ls.length : Int)) = false := by simp; omega
        have e5 : decide (who < 0) = false := by simp; omega
        have e3 : decide ((ls.length : Int) ≤ who) = true := by simp; omega
        go_wp2
        go_big_quiet (fail)
        go_wp2
        go_ret
        first | exact ⟨rfl, HB.out⟩ | exact ⟨rfl, HB.out.drew⟩ | exact ⟨rfl, bdrewN HB.out _⟩
  by_cases k6 : kind = 6
  · subst k6
    by_cases hin : inR who ts.length = true
    · obtain ⟨k, rfl, hk⟩ := inR_get hin
      have e1 : decide ((k : Int) < (ts.length : Int)) = true := by simp; omega
      have e2 : decide (k < ts.length) = true := by simp; omega
      have e3 : decide ((ts.length : Int) ≤ (k : Int)) = false := by simp; omega
      have e4 : decide (ts.length ≤ k) = false := by simp; omega
      have HV : Hid (actOk ts ls ⟨6, k, n, m⟩ = false) := Lib.hid (by
        unfold actOk
        rw [if_neg (by simp), if_neg (by simp), if_pos (by simp), hin]; rfl)
      obtain rfl := HCV.out.symm.trans HV.out
      clear hin HV HCV
      go_wp2
      go_ret
      first | exact ⟨rfl, HB.out⟩ | exact ⟨rfl, HB.out.drew⟩ | exact ⟨rfl, bdrewN HB.out _⟩
    · have hno := inR_no hin
      have HV : Hid (actOk ts ls ⟨6, who, n, m⟩ = true) := Lib.hid (by
        unfold actOk
        rw [if_neg (by simp), if_neg (by simp), if_pos (by simp), hno]; rfl)
      obtain rfl := HCV.out.symm.trans HV.out
      clear hin HV HCV
      rcases inR_cases hno with h | ⟨h, h'⟩
      · clear hno
        go_wp2
        go_ret
        first | exact ⟨rfl, HB.out⟩ | exact ⟨rfl, HB.out.drew⟩ | exact ⟨rfl, bdrewN HB.out _⟩
      · clear hno
        have e1 : decide (who < (ts.length : Int)) = false := by simp; omega
        have e3 : decide ((ts.length : Int) ≤ who) = true := by simp; omega
        go_wp2
        go_ret
        first | exact ⟨rfl, HB.out⟩ | exact ⟨rfl, HB.out.drew⟩ | exact ⟨rfl, bdrewN HB.out _⟩
  by_cases k7 : kind = 7
  · subst k7
    by_cases hin : inR who ts.length = true
    · obtain ⟨k, rfl, hk⟩ := inR_get hin
      have e1 : decide ((k : Int) < (ts.length : Int)) = true := by simp; omega
      have e2 : decide (k < ts.length) = true := by simp; omega
      have e3 : decide ((ts.length : Int) ≤ (k : Int)) = false := by simp; omega
      have e4 : decide (ts.length ≤ k) = false := by simp; omega
      have HV : Hid (actOk ts ls ⟨7, k, n, m⟩ = false) := Lib.hid (by
        unfold actOk
        rw [if_neg (by simp), if_neg (by simp), if_pos (by simp), hin]; rfl)
      obtain rfl := HCV.out.symm.trans HV.out
      clear hin HV HCV
      go_wp2
      go_ret
      first | exact ⟨rfl, HB.out⟩ | exact ⟨rfl, HB.out.drew⟩ | exact ⟨rfl, bdrewN HB.out _⟩
    · have hno := inR_no hin
      have HV : Hid (actOk ts ls ⟨7, who, n, m⟩ = true) := Lib.hid (by
        unfold actOk
        rw [if_neg (by simp), if_neg (by simp), if_pos (by simp), hno]; rfl)
      obtain rfl := HCV.out.symm.trans HV.out
      clear hin HV HCV
      rcases inR_cases hno with h | ⟨h, h'⟩
      · clear hno
        go_wp2
        go_ret
        first | exact ⟨rfl, HB.out⟩ | exact ⟨rfl, HB.out.drew⟩ | exact ⟨rfl, bdrewN HB.out _⟩
      · clear hno
        have e1 : decide (who < (ts.length : Int)) = false := by simp; omega
        have e3 : decide ((ts.length : Int) ≤ who) = true := by simp; omega
        go_wp2
        go_ret
        first | exact ⟨rfl, HB.out⟩ | exact ⟨rfl, HB.out.drew⟩ | exact ⟨rfl, bdrewN HB.out _⟩
  have HV : Hid (actOk ts ls ⟨kind, who, n, m⟩ = true) := Lib.hid (by
    unfold actOk
    rw [if_neg (by rintro (h | h | h) <;> first | exact k3 h | exact k4 h | exact k5 h), if_neg k2, if_neg (by rintro (h | h) <;> first | exact k6 h | exact k7 h)])
  obtain rfl := HCV.out.symm.trans HV.out
  clear HV HCV
  have e3 : (kind == 3) = false := by simpa using k3
  have e4 : (kind == 4) = false := by simpa using k4
  have e5 : (kind == 5) = false := by simpa using k5
  have e2 : (kind == 2) = false := by simpa using k2
  have e6 : (kind == 6) = false := by simpa using k6
  have e7 : (kind == 7) = false := by simpa using k7
  by_cases h : who < 0
  · go_wp2
    go_ret
    first | exact ⟨rfl, HB.out⟩ | exact ⟨rfl, HB.out.drew⟩ | exact ⟨rfl, bdrewN HB.out _⟩
  · go_wp2
    go_ret
    first | exact ⟨rfl, HB.out⟩ | exact ⟨rfl, HB.out.drew⟩ | exact ⟨rfl, bdrewN HB.out _⟩

set_option maxHeartbeats 2000000 in
theorem comes33_any (mn mx sw : Int) (ts : List Tk) (A : Option Addr) (ca : Nat) (B : Option Addr) (nb cb : Nat) (D : Option Addr) (nd cd : Nat) (x : Mk) (w : World)
    (ht : Rd w A (ts.flatMap tkc)) :
    Calls Try.prog 49 #[cfv mn mx sw A ts.length ca B nb cb D nd cd, mkv x] w fun e w' => e = .returned (.bool (comes ts x)) ∧ Below w.heap.size w w' := by
  obtain ⟨time, kind, who, m⟩ := x
  have Ht := Lib.hid ht
  clear ht
  have HV : Hid (comes ts ⟨time, kind, who, m⟩ = (decide (kind = 1 ∨ kind = 3) && (inR who ts.length && decide ((ts.getD who.toNat tk0).kind = 2)))) := Lib.hid rfl
  generalize comes ts ⟨time, kind, who, m⟩ = cv at *
  unfold mkv cfv
  dsimp only
  go_enter Try.func49, Try.ntmps49
  go_upto_region 1 with fail
  refine name_world fun W hW => ?_
  have HX : Hid (W.heap[w.heap.size + 1]? = some (.cells #[.int .i64 time, .int .u8 kind, .int .i64 who, .int .i64 m] 121 (0, 0))) := Lib.hid (by rw [hW]; exact heap_new_at _ (by simp))
  have HC : Hid (W.heap[w.heap.size]? = some (.cells #[.int .i64 mn, .int .i64 mx, .int .i64 sw, .slice A ts.length ca, .slice B nb cb, .slice D nd cd] 28 (0, 0))) := Lib.hid (by rw [hW]; exact box_alloc (heap_alloc_new w _) _)
  have HB : Hid (Below w.heap.size w W) := Lib.hid (by rw [hW]; exact ((Below.refl _ _).alloc (Nat.le_refl _) _).alloc (by simp) _)
  clear hW
  have HtW := Lib.hid (Ht.out.below HB.out)
  obtain ⟨hx, hy⟩ := box_rules HX.out
  obtain ⟨hcx, hcy⟩ := box_rules HC.out
  by_cases k1 : kind = 1 ∨ kind = 3
  · rw [decide_eq_true k1, Bool.true_and] at HV
    by_cases hin : inR who ts.length = true
    · obtain ⟨k, rfl, hk⟩ := inR_get hin
      obtain ⟨a, x, rfl, hx2, ⟨g0, g1, g2, g3⟩, g4, g5, g6, g7, g8, g9⟩ := HtW.out.tkAt hk
      have HV2 : Hid (cv = decide (x.kind = 2)) := Lib.hid (by
        rw [HV.out, hin, Bool.true_and]
        show decide ((ts.getD k tk0).kind = 2) = _
        rw [hx2])
      obtain rfl := HV2.out
      clear hin hx2 HV HV2
      obtain ⟨x0, x1, x2, x3, x4, x5, x6, x7, x8, x9⟩ := x
      dsimp only at g0 g1 g2 g3 g4 g5 g6 g7 g8 g9 ⊢
      rcases k1 with rfl | rfl
      · go_wp2
        go_ret
        first | exact ⟨rfl, HB.out⟩ | exact ⟨rfl, HB.out.drew⟩ | exact ⟨rfl, bdrewN HB.out _⟩
      · go_wp2
        go_ret
        first | exact ⟨rfl, HB.out⟩ | exact ⟨rfl, HB.out.drew⟩ | exact ⟨rfl, bdrewN HB.out _⟩
    · have hno := inR_no hin
      rw [hno, Bool.false_and] at HV
      obtain rfl := HV.out
      clear hin HV
      rcases inR_cases hno with h | ⟨h, h'⟩
      · clear hno
        rcases k1 with rfl | rfl
        · go_wp2
          go_ret
          first | exact ⟨rfl, HB.out⟩ | exact ⟨rfl, HB.out.drew⟩ | exact ⟨rfl, bdrewN HB.out _⟩
        · go_wp2
          go_ret
          first | exact ⟨rfl, HB.out⟩ | exact ⟨rfl, HB.out.drew⟩ | exact ⟨rfl, bdrewN HB.out _⟩
      · clear hno
        rcases k1 with rfl | rfl
        · go_wp2
          go_ret
          first | exact ⟨rfl, HB.out⟩ | exact ⟨rfl, HB.out.drew⟩ | exact ⟨rfl, bdrewN HB.out _⟩
        · go_wp2
          go_ret
          first | exact ⟨rfl, HB.out⟩ | exact ⟨rfl, HB.out.drew⟩ | exact ⟨rfl, bdrewN HB.out _⟩
  · rw [decide_eq_false k1, Bool.false_and] at HV
    obtain rfl := HV.out
    have e1 : (kind != 1) = true := by simpa using (fun h => k1 (.inl h) : ¬ kind = 1)
    have e3 : (kind != 3) = true := by simpa using (fun h => k1 (.inr h) : ¬ kind = 3)
    go_wp2
    go_ret
    first | exact ⟨rfl, HB.out⟩ | exact ⟨rfl, HB.out.drew⟩ | exact ⟨rfl, bdrewN HB.out _⟩
end Go.Proofs.Ytpdanmdpaanafaa

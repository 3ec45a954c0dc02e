/- vergelaw29: the walk of AdmitAll. Conditions: lists that read. -/
import Derived.Test.YtlnjeelbfokdpaaAdGQ
namespace Go.Proofs.Ytlnjeelbfokdpaa
open Go.RowKit Go.Shelf

theorem bd_zero {f : Nat → Int × Int} {n : Nat} (h : (bdY f n).2.2 = 0) : ∀ k, k ≤ n → ∀ j, j < k → (f j).2 = 0
  | 0, _, j, hj => absurd hj (Nat.not_lt_zero _)
  | k + 1, hk, j, hj => by
    have ih := bd_zero h k (by omega)
    by_cases e : j = k
    · subst e
      apply Classical.byContradiction
      intro hb
      rw [bd_bad (by omega) ih hb] at h
      exact hb h
    · exact ih j (by omega)
theorem bdL_get (f : Nat → Int × Int) {n k : Nat} (h : k < n) : (bdL f n).getD k 0 = (f k).1 := by
  unfold bdL
  simp [List.getD, h]
set_option maxHeartbeats 4000000 in
set_option maxRecDepth 100000 in
theorem all29_cfg (mn mx sw : Int) (ts : List Tk) (ls : List Ln) (hs : List Th) (A : Option Addr) (ca : Nat) (B : Option Addr) (cb : Nat) (D : Option Addr) (cd : Nat) (w : World)
    (hlt0 : ts.length ≤ 1048576) (hll : ls.length ≤ 1048576) (hlh : hs.length ≤ 1048576)
    (ht : Rd w A (ts.flatMap tkc)) (hl : Rd w B (ls.flatMap lnc)) (hh : Rd w D (hs.flatMap thc)) (hmx : I64 mx) (ht64 : ∀ p ∈ ts.map (·.prio) ++ hs.map (·.prio), I64 p) :
    Calls Try.prog 4 #[cfv mn mx sw A ts.length ca B ls.length cb D hs.length cd] w fun e w' => e = .returned (.bool true) ∧ Below w.heap.size w w' := by
  have c1 := Lib.hid (fun w ht hl hh => abounds_any mn mx sw ts ls hs A ca B cb D cd w hlt0 hll hlh ht hl hh hmx ht64)
  have c2 := Lib.hid (fun w ht hl hh => check_cfg mn mx sw ts ls hs A ca B cb D cd w hlt0 hll hlh ht hl hh hmx ht64)
  have c3 := Lib.hid (fun w ht hl hh => accept_any mn mx sw ts ls hs A ca B cb D cd w hlt0 hll hlh ht hl hh hmx ht64)
  have c4 := Lib.hid (fun hy k hk w ht hl hh => bd_one mn mx sw ts ls hs A ca B cb D cd w hlt0 hll hlh hy k hk ht hl hh hmx ht64)
  have c5 := Lib.hid (fun hy k hk w ht hl hh => slack_one mn mx sw ts ls hs A ca B cb D cd w hlt0 hll hlh hy k hk ht hl hh hmx ht64)
  have f0 := Lib.hid (fun w => lives29 w)
  have Ht := Lib.hid ht; have Hl := Lib.hid hl; have Hh := Lib.hid hh
  clear ht hl hh hmx ht64
  unfold RetB RetN cfv at *
  generalize bdF mn sw ts ls hs = f at *
  generalize Cf.why ⟨mn, mx, sw, ts, ls, hs⟩ = y at *
  go_enter Try.func4, Try.ntmps4
  go_upto_region 1 with fail
  refine name_world fun W hW => ?_
  have HC : Hid (W.heap[w.heap.size]? = some (.cells #[.int .i64 mn, .int .i64 mx, .int .i64 sw, .slice A ts.length ca, .slice B ls.length cb, .slice D hs.length cd] 29 (0, 0))) := Lib.hid (by rw [hW]; exact heap_alloc_new w _)
  have HB : Hid (Below w.heap.size w W) := Lib.hid (by rw [hW]; exact (Below.refl _ _).alloc (Nat.le_refl _) _)
  have hR := fun w' (h : Hid (Below W.heap.size W w')) => (box_rules (box_keep HC.out h.out)).1
  have m1 := Lib.hid (fun w' (h : Hid (Below W.heap.size W w')) => (Ht.out.below HB.out).below h.out)
  have m2 := Lib.hid (fun w' (h : Hid (Below W.heap.size W w')) => (Hl.out.below HB.out).below h.out)
  have m3 := Lib.hid (fun w' (h : Hid (Below W.heap.size W w')) => (Hh.out.below HB.out).below h.out)
  have hS0 := S_refl' W
  have q0 := hR _ hS0
  have lW := box_lt HC.out
  clear hW Ht Hl Hh
  go_wp2_with fail
  refine (f0.out _).mono ?_
  rintro e w1 ⟨rfl, hb⟩
  have hS1 := S_call' hS0 hb
  have q1 := hR _ hS1
  clear hb q0 f0
  go_wp2_with fail
  refine (c1.out _ (m1.out _ hS1) (m2.out _ hS1) (m3.out _ hS1)).mono ?_
  rintro e w2 ⟨AL, cL, rfl, hL, hb⟩
  have hS2 := S_call' hS1 hb
  have HL := Lib.hid hL
  have q2 := hR _ hS2
  clear hb hL q1 c1
  go_wp2_with fail
  refine (c2.out _ (m1.out _ hS2) (m2.out _ hS2) (m3.out _ hS2)).mono ?_
  rintro e w3 ⟨rfl, hb⟩
  have hS3 := S_call' hS2 hb
  have HL3 := Lib.hid (HL.out.below hb)
  have q3 := hR _ hS3
  clear hb q2 HL
  by_cases hy : y = 0
  · have d4 := Lib.hid (c4.out hy); have d5 := Lib.hid (c5.out hy)
    subst hy
    have HBad : Hid (∀ k, k < ts.length → (∀ j, j < k → (f j).2 = 0) → (f k).2 ≠ 0 → bdY f ts.length = ([], (k : Int), (f k).2)) := Lib.hid (fun k hk h1 h2 => bd_bad hk h1 h2)
    have HAll : Hid ((∀ j, j < ts.length → (f j).2 = 0) → bdY f ts.length = (bdL f ts.length, 0, 0)) := Lib.hid (fun h => bd_done h)
    have HZero : Hid ((bdY f ts.length).2.2 = 0 → ∀ j, j < ts.length → (f j).2 = 0) := Lib.hid (fun h => bd_zero h _ (Nat.le_refl _))
    have HGet : Hid (∀ k, k < ts.length → (bdL f ts.length).getD k 0 = (f k).1) := Lib.hid (fun k hk => bdL_get f hk)
    have HLen := Lib.hid (bdL_len f ts.length)
    have eR : bndR 0 f ts.length = bdY f ts.length := rfl
    rw [eR] at c3 HL3 ⊢
    generalize bdL f ts.length = LA at *
    generalize bdY f ts.length = R at *
    obtain ⟨L, at1, yy⟩ := R
    dsimp only at *
    clear eR c2 c4 c5
    have hy1 : ((0 : Int) != 0) = false := by decide
    go_wp2
    go_loopw [6, 45] (fun s i wr => ∃ (k : Nat) (al : Bool), k ≤ ts.length ∧ s = .bool al ∧ i = .int .i64 k ∧ Hid (al = true ↔ ∀ j, j < k → (f j).2 = 0) ∧ Hid (Below W.heap.size W wr) ∧ Hid (Rd wr AL (L.map (.int .i64)))) (fun _ i _ => ts.length - (intOf i).toNat)
    case atStart => exact ⟨0, true, by omega, rfl, rfl, Lib.hid ⟨fun _ j hj => absurd hj (Nat.not_lt_zero _), fun _ => rfl⟩, hS3, HL3⟩
    case round =>
      obtain ⟨k, al, hk, rfl, rfl, HI, hSr, HLr⟩ := hrel
      clear q3
      by_cases hlt : k < ts.length
      · have qr := hR _ hSr
        obtain ⟨a, x, rfl, hx, ⟨g0, g1, g2, g3⟩, g4, g5, g6, g7, g8, g9⟩ := (m1.out _ hSr).tkAt hlt
        have d6 := Lib.hid (d4.out k hlt); have d7 := Lib.hid (d5.out k hlt)
        rw [hx] at d7
        have HBk := Lib.hid (HBad.out k hlt); have HGk := Lib.hid (HGet.out k hlt)
        have HSucc : Hid ((∀ j, j < k + 1 → (f j).2 = 0) ↔ (∀ j, j < k → (f j).2 = 0) ∧ (f k).2 = 0) := Lib.hid ⟨fun h => ⟨fun j hj => h j (by omega), h k (by omega)⟩, fun h j hj => by
          by_cases e : j = k
          · subst e; exact h.2
          · exact h.1 j (by omega)⟩
        clear d4 d5 HBad HGet hx
        generalize f k = fk at *
        obtain ⟨b, v⟩ := fk
        obtain ⟨x0, x1, x2, x3, x4, x5, x6, x7, x8, x9⟩ := x
        dsimp only at g0 g1 g2 g3 g4 g5 g6 g7 g8 g9 d6 d7 HBk HGk HSucc
        go_upto_region 10 with fail
        refine name_world fun V hV => ?_
        have HX : Hid (V.heap[wr.heap.size]? = some (.cells #[.int .u8 x0, .int .i64 x1, .int .i64 x2, .int .i64 x3, .int .i64 x4, .int .i64 x5, .int .i64 x6, .int .i64 x7, .int .i64 x8, .int .i64 x9] 43 (0, 0))) := Lib.hid (by rw [hV]; exact heap_alloc_new _ _)
        have hSV : Hid (Below W.heap.size W V) := Lib.hid (by rw [hV]; exact hSr.out.alloc hSr.out.size _)
        have HLV : Hid (Rd V AL (L.map (.int .i64))) := Lib.hid (by rw [hV]; exact HLr.out.alloc _)
        have qv := hR _ hSV
        clear hV g0 g1 g2 g3 g4 g5 g6 g7 g8 g9 qr
        generalize wr.heap.size = bx at *
        go_wp2_with fail
        refine (d6.out _ (m1.out _ hSV) (m2.out _ hSV) (m3.out _ hSV)).mono ?_
        rintro e w5 ⟨rfl, hb⟩
        have hS5 := S_call' hSV hb
        have HX5 := Lib.hid (box_keep HX.out hb)
        have HL5 := Lib.hid (HLV.out.below hb)
        have q5 := hR _ hS5
        clear hb qv HX HLV d6
        go_wp2_with fail
        refine (d7.out _ (m1.out _ hS5) (m2.out _ hS5) (m3.out _ hS5)).mono ?_
        rintro e w6 ⟨rfl, hb⟩
        have hS6 := S_call' hS5 hb
        have HX6 := Lib.hid (box_keep HX5.out hb)
        have HL6 := Lib.hid (HL5.out.below hb)
        clear hb q5 HX5 HL5 d7
        obtain ⟨xx, xy⟩ := box_rules HX6.out
        have vv : (v != v) = false := by simp
        by_cases hv : v = 0
        · subst hv
          rw [if_pos rfl]
          have hw0 : (wrap64 (x4 - b) != wrap64 (x4 - b)) = false := by simp
          cases al with
          | false =>
            have HI2 := Lib.hid HI.out
            go_wp2
            refine ⟨⟨k + 1, false, by omega, rfl, by go_num, Lib.hid ?_, hS6, HL6⟩, ?_⟩
            · rw [HSucc.out]
              exact ⟨fun h => (by cases h), fun h => HI2.out.2 h.1⟩
            · simp [intOf]; omega
          | true =>
            have hgood := HI.out.1 rfl
            have HG := Lib.hid hgood
            clear hgood
            by_cases hyy : yy = 0
            · have hall := HZero.out hyy
              have hra := HAll.out hall
              injection hra with hra1 hra2
              subst hra1
              have hkl : k < L.length := by rw [HLen.out]; exact hlt
              obtain ⟨al', rfl, gl⟩ := HL6.out.int hkl
              rw [HGk.out] at gl
              have hbb : (b != b) = false := by simp
              clear hall hra2
              subst hyy
              have hge : ¬ (L.length ≤ k) := by omega
              go_wp2
              go_roundw
              case rel =>
                refine ⟨k + 1, true, by omega, rfl, by go_num, Lib.hid ?_, hS6, HL6⟩
                rw [HSucc.out]
                exact ⟨fun _ => ⟨HG.out, by first | rfl | trivial⟩, fun _ => rfl⟩
              case measure => simp [intOf]; omega
            · have hy2 : (yy == 0) = false := by simpa using hyy
              go_wp2
              refine ⟨⟨k + 1, true, by omega, rfl, by go_num, Lib.hid ?_, hS6, HL6⟩, ?_⟩
              · rw [HSucc.out]
                exact ⟨fun _ => ⟨HG.out, by first | rfl | trivial⟩, fun _ => rfl⟩
              · simp [intOf]; omega
        · rw [if_neg hv]
          have hv1 : (v != 0) = true := by simpa using hv
          have hv2 : (v == 0) = false := by simpa using hv
          cases al with
          | false =>
            have HI2 := Lib.hid HI.out
            go_wp2
            refine ⟨⟨k + 1, false, by omega, rfl, by go_num, Lib.hid ?_, hS6, HL6⟩, ?_⟩
            · rw [HSucc.out]
              exact ⟨fun h => (by cases h), fun h => absurd h.2 hv⟩
            · simp [intOf]; omega
          | true =>
            have hgood := HI.out.1 rfl
            have hbad := HBk.out hgood hv
            injection hbad with hb1 hb2
            injection hb2 with hb2 hb3
            clear hgood
            subst hb1 hb2 hb3
            go_wp2
            go_roundw
            case rel =>
              repeat apply Exists.intro
              refine ⟨⟨k + 1, false, by omega, rfl, by go_num, Lib.hid ?_, hS6, HL6⟩, rfl⟩
              rw [HSucc.out]
              exact ⟨fun h => (by cases h), fun h => absurd h.2 hv⟩
            case measure => simp [intOf]; omega
      · obtain rfl : k = ts.length := by omega
        have qr := hR _ hSr
        cases al with
        | true =>
          have hra := HAll.out (HI.out.1 rfl)
          injection hra with hra1 hra2
          injection hra2 with hra2 hra3
          subst hra1 hra2 hra3
          have hlen := HLen.out
          have hz : ((0 : Int) == 0) = true := by decide
          go_wp2_with fail
          refine (c3.out _ (m1.out _ hSr) (m2.out _ hSr) (m3.out _ hSr)).mono ?_
          rintro e w5 ⟨rfl, hb⟩
          have hS5 := S_call' hSr hb
          have q5 := hR _ hS5
          clear hb qr
          go_wp2
          go_ret
          exact ⟨rfl, HB.out.trans (hS5.out.mono HB.out.size)⟩
        | false =>
          have hyy : yy ≠ 0 := fun h => by
            have := HI.out.2 (HZero.out h)
            cases this
          have hy2 : (yy == 0) = false := by simpa using hyy
          rw [hy2] at c3
          go_wp2_with fail
          refine (c3.out _ (m1.out _ hSr) (m2.out _ hSr) (m3.out _ hSr)).mono ?_
          rintro e w5 ⟨rfl, hb⟩
          have hS5 := S_call' hSr hb
          clear hb qr
          go_wp2
          go_ret
          exact ⟨rfl, HB.out.trans (hS5.out.mono HB.out.size)⟩
  · have hy1 : (y != 0) = true := by simpa using hy
    have hy2 : (y == 0) = false := by simpa using hy
    have eR : bndR y f ts.length = ([], 0, y) := if_pos hy
    rw [eR] at c3 HL3 ⊢
    dsimp only at c3 HL3 ⊢
    rw [hy2] at c3
    clear eR c4 c5 HL3
    have hz : ((0 : Int) == 0) = true := by decide
    go_wp2_with fail
    refine (c2.out _ (m1.out _ hS3) (m2.out _ hS3) (m3.out _ hS3)).mono ?_
    rintro e w4 ⟨rfl, hb⟩
    have hS4 := S_call' hS3 hb
    have q4 := hR _ hS4
    have yy : (y == y) = true := by simp
    clear hb q3
    go_wp2_with fail
    refine (c3.out _ (m1.out _ hS4) (m2.out _ hS4) (m3.out _ hS4)).mono ?_
    rintro e w5 ⟨rfl, hb⟩
    have hS5 := S_call' hS4 hb
    clear hb q4
    go_wp2
    go_ret
    exact ⟨rfl, HB.out.trans (hS5.out.mono HB.out.size)⟩
end Go.Proofs.Ytlnjeelbfokdpaa

/- vergelaw28: the walk of RtaUrgent. Conditions: lists that read. -/
import Derived.Test.YtpdanmdpaanafaaRtUa
import Derived.Test.YtpdanmdpaanafaaRtCy
import Derived.Test.YtpdanmdpaanafaaRtYP
import Derived.Test.YtpdanmdpaanafaaKeepL
namespace Go.Proofs.Ytpdanmdpaanafaa
open Go.RowKit Go.Shelf

/-- What stays of the first tasks. -/
def UL (p : Int) (ts : List Tk) (k : Nat) : List Tk := (ts.take k).filter (stays p)
theorem UL_all (p : Int) (ts : List Tk) : UL p ts ts.length = ts.filter (stays p) := by unfold UL; rw [List.take_length]
theorem UL_yes {p : Int} {ts : List Tk} {k : Nat} {x : Tk} (hk : k < ts.length) (hx : ts.getD k tk0 = x) (h : stays p x = true) : UL p ts (k + 1) = UL p ts k ++ [x] := by
  unfold UL
  rw [take_next (d := tk0) hk, List.filter_append, hx, List.filter_cons_of_pos h]; rfl
theorem UL_no {p : Int} {ts : List Tk} {k : Nat} {x : Tk} (hk : k < ts.length) (hx : ts.getD k tk0 = x) (h : stays p x = false) : UL p ts (k + 1) = UL p ts k := by
  unfold UL
  rw [take_next (d := tk0) hk, List.filter_append, hx, List.filter_cons_of_neg (by simp [h])]; simp
theorem UL_len (p : Int) (ts : List Tk) (k : Nat) : (UL p ts k).length ≤ k := by
  unfold UL
  have := List.length_filter_le (stays p) (ts.take k)
  have := List.length_take_le k ts
  omega
def atN (m i k : Nat) : Int := if i < k then m else 0
theorem atN_ne {m i k : Nat} (h : ¬ k = i) : Value.int .i64 (atN m i k) = .int .i64 (atN m i (k + 1)) := by
  unfold atN
  by_cases h1 : i < k
  · rw [if_pos h1, if_pos (by omega)]
  · rw [if_neg h1, if_neg (by omega)]
theorem atN_at {m k : Nat} : Value.int .i64 (m : Int) = .int .i64 (atN m k (k + 1)) := by
  unfold atN
  rw [if_pos (by omega)]
theorem KeepsLow.own {nA n1 : Nat} {out : List Nat} {W W' : World} (h : KeepsLow nA n1 out W W') (hs : W.heap.size ≤ n1) {base : Nat} {e : TypeId} {k : Nat} {v : Value} {n : Nat} {vs : List Value} (ho : W.ownsRow base e k v n vs) (hn : ∀ g ∈ out, v.ownBlock ≠ some g) : W'.ownsRow base e k v n vs :=
  own_keptK ho fun g hg => by
    obtain ⟨_, hlt, cur, hc⟩ := own_blockK ho hg
    rw [hc]
    exact h.same g _ (by omega) (fun hm => hn g hm hg) hc (.inl rfl)
set_option maxHeartbeats 4000000 in
set_option maxRecDepth 100000 in
theorem urgent28_cfg (mn mx sw : Int) (ts : List Tk) (ls : List Ln) (hs : List Th) (A : Option Addr) (ca : Nat) (B : Option Addr) (cb : Nat) (D : Option Addr) (cd : Nat) (n : Int) (w : World)
    (hlt0 : ts.length ≤ 1048576) (hll : ls.length ≤ 1048576) (hlh : hs.length ≤ 1048576)
    (ht : Rd w A (ts.flatMap tkc)) (hl : Rd w B (ls.flatMap lnc)) (hh : Rd w D (hs.flatMap thc)) (hmx : I64 mx) (ht64 : ∀ p ∈ ts.map (·.prio) ++ hs.map (·.prio), I64 p) :
    Calls Try.prog 8 #[cfv mn mx sw A ts.length ca B ls.length cb D hs.length cd, .int .i64 n] w fun e w' => e = .returned (.bool true) ∧ Below w.heap.size w w' := by
  have c1 := Lib.hid (fun w ht hl hh => rbound_any mn mx sw ts ls hs A ca B cb D cd n w hlt0 hll hlh ht hl hh hmx ht64)
  have c0 := Lib.hid (fun w ht hl hh => check_cfg mn mx sw ts ls hs A ca B cb D cd w hlt0 hll hlh ht hl hh hmx ht64)
  have cp := Lib.hid (fun w ht hl hh => copy26_any mn mx sw ts ls hs A ca B cb D cd w hlt0 hll hlh ht hl hh)
  have f0 := Lib.hid (fun w => lives28 w)
  have HZ : Hid ((Cf.why ⟨mn, mx, sw, ts, ls, hs⟩ ≠ 0 ∨ n < 0 ∨ (ts.length : Int) ≤ n) → (if (askY (Cf.why ⟨mn, mx, sw, ts, ls, hs⟩) ts n) = 0 then (boundR mn sw ts ls hs (ts.getD n.toNat tk0)).2 else (askY (Cf.why ⟨mn, mx, sw, ts, ls, hs⟩) ts n)) ≠ 0) := Lib.hid (fun h => by
    have hy : askY (Cf.why ⟨mn, mx, sw, ts, ls, hs⟩) ts n ≠ 0 := by
      unfold askY
      by_cases h1 : Cf.why ⟨mn, mx, sw, ts, ls, hs⟩ ≠ 0
      · rw [if_pos h1]; exact h1
      · rw [if_neg h1, if_pos (h.resolve_left h1)]; decide
    rw [if_neg hy]; exact hy)
  have HM : Hid (∀ (i : Nat), Cf.why ⟨mn, mx, sw, ts, ls, hs⟩ = 0 → n = (i : Int) → i < ts.length → ∀ (A : Option Addr) (ca : Nat) (B : Option Addr) (cb : Nat) (D : Option Addr) (cd : Nat) (w : World), Rd w A ((UL (ts.getD i tk0).prio ts ts.length).flatMap tkc) → Rd w B (ls.flatMap lnc) → Rd w D (hs.flatMap thc) →
      Calls Try.prog 26 #[cfv mn mx sw A (UL (ts.getD i tk0).prio ts ts.length).length ca B ls.length cb D hs.length cd, .int .i64 ((UL (ts.getD i tk0).prio ts i).length : Int)] w
      (RetN (if (askY (Cf.why ⟨mn, mx, sw, ts, ls, hs⟩) ts n) = 0 then (boundR mn sw ts ls hs (ts.getD n.toNat tk0)).1 else 0) (if (askY (Cf.why ⟨mn, mx, sw, ts, ls, hs⟩) ts n) = 0 then (boundR mn sw ts ls hs (ts.getD n.toNat tk0)).2 else (askY (Cf.why ⟨mn, mx, sw, ts, ls, hs⟩) ts n)) w)) := Lib.hid (fun i h hn hi A ca B cb D cd w r1 r2 r3 => by
    subst hn
    obtain ⟨u1, u2, u3, u4⟩ := urgent_same h hi
    have hsub : (ts.filter (stays (ts.getD i tk0).prio)).Sublist ts := List.filter_sublist
    rw [UL_all] at r1 ⊢
    have hb := rbound_any mn mx sw (ts.filter (stays (ts.getD i tk0).prio)) ls hs A ca B cb D cd ((UL (ts.getD i tk0).prio ts i).length : Int) w (Nat.le_trans hsub.length_le hlt0) hll hlh r1 r2 r3 hmx (fun q hq => by
      rcases List.mem_append.1 hq with hq | hq
      · exact ht64 q (List.mem_append_left _ ((hsub.map _).subset hq))
      · exact ht64 q (List.mem_append_right _ hq))
    have e1 : askY (Cf.why ⟨mn, mx, sw, ts.filter (stays (ts.getD i tk0).prio), ls, hs⟩) (ts.filter (stays (ts.getD i tk0).prio)) ((UL (ts.getD i tk0).prio ts i).length : Int) = 0 := by
      unfold askY
      rw [if_neg (fun hc => hc u1), if_neg (by have h2 := u2; unfold UL; omega)]
    have e2 : askY (Cf.why ⟨mn, mx, sw, ts, ls, hs⟩) ts (i : Int) = 0 := by
      unfold askY
      rw [if_neg (by simp [h]), if_neg (by omega)]
    have e3 : boundR mn sw (ts.filter (stays (ts.getD i tk0).prio)) ls hs ((ts.filter (stays (ts.getD i tk0).prio)).getD (UL (ts.getD i tk0).prio ts i).length tk0) = boundR mn sw ts ls hs (ts.getD i tk0) := u4
    rw [if_pos e1, if_pos e1, Int.toNat_natCast, e3] at hb
    rw [if_pos e2, if_pos e2, Int.toNat_natCast]
    exact hb)
  have Ht := Lib.hid ht; have Hl := Lib.hid hl; have Hh := Lib.hid hh
  clear ht hl hh hmx ht64
  generalize (if (askY (Cf.why ⟨mn, mx, sw, ts, ls, hs⟩) ts n) = 0 then (boundR mn sw ts ls hs (ts.getD n.toNat tk0)).1 else 0) = N at *
  generalize (if (askY (Cf.why ⟨mn, mx, sw, ts, ls, hs⟩) ts n) = 0 then (boundR mn sw ts ls hs (ts.getD n.toNat tk0)).2 else (askY (Cf.why ⟨mn, mx, sw, ts, ls, hs⟩) ts n)) = Z at *
  generalize Cf.why ⟨mn, mx, sw, ts, ls, hs⟩ = y at *
  unfold cfv RetN at *
  unfold RetCy cfv at cp
  go_enter Try.func8, Try.ntmps8
  go_upto_region 1 with fail
  refine name_world fun W hW => ?_
  have HC : Hid (W.heap[w.heap.size]? = some (.cells #[.int .i64 mn, .int .i64 mx, .int .i64 sw, .slice A ts.length ca, .slice B ls.length cb, .slice D hs.length cd] 28 (0, 0))) := Lib.hid (by rw [hW]; exact heap_alloc_new w _)
  have HBW : Hid (Below w.heap.size w W) := Lib.hid (by rw [hW]; exact (Below.refl _ _).alloc (Nat.le_refl _) _)
  have hR := fun w' (h : Hid (Below W.heap.size W w')) => (box_rules (box_keep HC.out h.out)).1
  have m1 := Lib.hid (fun w' (h : Hid (Below W.heap.size W w')) => (Ht.out.below HBW.out).below h.out)
  have m2 := Lib.hid (fun w' (h : Hid (Below W.heap.size W w')) => (Hl.out.below HBW.out).below h.out)
  have m3 := Lib.hid (fun w' (h : Hid (Below W.heap.size W w')) => (Hh.out.below HBW.out).below h.out)
  have hS0 := S_refl' W
  have q0 := hR _ hS0
  clear hW
  go_wp2_with fail
  refine (f0.out _).mono ?_
  rintro e w1 ⟨rfl, hb1⟩
  have hS1 := S_call' hS0 hb1
  have q1 := hR _ hS1
  clear hb1 q0
  go_wp2_with fail
  refine (c1.out _ (m1.out _ hS1) (m2.out _ hS1) (m3.out _ hS1)).mono ?_
  rintro e w2 ⟨rfl, hb1⟩
  have hS2 := S_call' hS1 hb1
  have q2 := hR _ hS2
  clear hb1 q1
  go_wp2_with fail
  refine (c0.out _ (m1.out _ hS2) (m2.out _ hS2) (m3.out _ hS2)).mono ?_
  rintro e w3 ⟨rfl, hb1⟩
  have hS3 := S_call' hS2 hb1
  have q3 := hR _ hS3
  clear hb1 q2
  by_cases hy : y = 0
  · subst hy
    have hy1 : ((0 : Int) != 0) = false := by decide
    by_cases hn : n < 0 ∨ (ts.length : Int) ≤ n
    · have hz1 : (Z != 0) = true := by simpa using HZ.out (.inr hn)
      rcases hn with hn | hn
      · go_wp2
        go_ret
        exact ⟨rfl, HBW.out.trans (hS3.out.mono HBW.out.size)⟩
      · have hn2 : ¬ n < 0 := by omega
        go_wp2
        go_ret
        exact ⟨rfl, HBW.out.trans (hS3.out.mono HBW.out.size)⟩
    · obtain ⟨i, rfl⟩ := Int.eq_ofNat_of_zero_le (show 0 ≤ n by omega)
      have hi : i < ts.length := by omega
      have hM := Lib.hid (HM.out i rfl rfl hi)
      clear HM HZ
      go_wp2_with fail
      refine (cp.out _ (m1.out _ hS3) (m2.out _ hS3) (m3.out _ hS3)).mono ?_
      rintro e w4 ⟨A2, c2, B2, d2, D2, e2, rfl, ho1, ho2, ho3, hb1⟩
      have hS4 := S_call' hS3 hb1
      have HO2 := Lib.hid ho2; have HO3 := Lib.hid ho3
      clear hb1 ho1 ho2 ho3 q3 hy1
      go_upto_region 8 with fail
      refine name_world fun V hV => ?_
      have lw4 : w.heap.size + 1 ≤ w4.heap.size := by have := hS4.out.size; have := box_lt HC.out; omega
      have HCV : Hid (V.heap[w.heap.size]? = some (.cells #[.int .i64 mn, .int .i64 mx, .int .i64 sw, .slice A ts.length ca, .slice B ls.length cb, .slice D hs.length cd] 28 (0, 0))) := Lib.hid (by rw [hV]; exact box_alloc (box_keep HC.out hS4.out) _)
      have HDV : Hid (V.heap[w4.heap.size]? = some (.cells #[.int .i64 mn, .int .i64 mx, .int .i64 sw, .slice none 0 0, .slice B2 ls.length d2, .slice D2 hs.length e2] 28 (0, 0))) := Lib.hid (by rw [hV]; exact heap_alloc_new _ _)
      have HBV : Hid (Below w.heap.size w V) := Lib.hid (by rw [hV]; exact (HBW.out.trans (hS4.out.mono HBW.out.size)).alloc (by omega) _)
      have HP2 : Hid (V.ownsRow w3.heap.size 68 4 (.slice B2 ls.length d2) ls.length (ls.flatMap lnc)) := Lib.hid (by rw [hV]; exact own_allocK HO2.out _)
      have HP3 : Hid (V.ownsRow w3.heap.size 46 4 (.slice D2 hs.length e2) hs.length (hs.flatMap thc)) := Lib.hid (by rw [hV]; exact own_allocK HO3.out _)
      have sV : V.heap.size = w4.heap.size + 1 := by rw [hV]; simp
      clear hV hR m1 m2 m3 hS0 hS1 hS2 hS3 hS4 HC HBW HO2 HO3 f0 c1 c0 cp Hl Hh
      generalize w4.heap.size = bd at *
      generalize w3.heap.size = n3 at *
      generalize hp : (ts.getD i tk0).prio = p at *
      have Hp := Lib.hid hp
      clear hp
      generalize decide ((i : Int) < 0) = dd at *
      obtain ⟨cvx, cvy⟩ := box_rules HCV.out
      go_wp2
      go_loopw [8, 43] (fun s j wr => ∃ (k : Nat) (A1 : Option Addr) (c1 : Nat), k ≤ ts.length ∧ s = .int .i64 (atN (UL p ts i).length i k) ∧ j = .int .i64 k ∧
        wr.heap[bd]? = some (.cells #[.int .i64 mn, .int .i64 mx, .int .i64 sw, .slice A1 (UL p ts k).length c1, .slice B2 ls.length d2, .slice D2 hs.length e2] 28 (0, 0)) ∧
        wr.ownsRow (bd + 1) 44 10 (.slice A1 (UL p ts k).length c1) (UL p ts k).length ((UL p ts k).flatMap tkc) ∧ KeepsLow w.heap.size (bd + 1) [bd] V wr) (fun _ j _ => ts.length - (intOf j).toNat)
      case atStart => exact ⟨0, none, 0, by omega, rfl, rfl, HDV.out, own_nilK _ _ _ _, KeepsLow.refl _⟩
      case round =>
        obtain ⟨k, A1, c1, hk, rfl, rfl, hD, hO, hK⟩ := hrel
        by_cases hlt : k < ts.length
        · have hrd := Ht.out.below (HBV.out.trans hK.below)
          have HCw := Lib.hid (hK.box (b := w.heap.size) (by omega) (by simp; omega) HCV.out)
          obtain ⟨a, x, rfl, hx, ⟨g0, g1, g2, g3⟩, g4, g5, g6, g7, g8, g9⟩ := hrd.tkAt hlt
          obtain ⟨a', z, he, hz, ⟨-, e1, -, -⟩, -, -, -, -, -, -⟩ := hrd.tkAt hi
          cases he
          have HD := Lib.hid hD; have HO := Lib.hid hO; have HK := Lib.hid hK
          have Hx := Lib.hid hx
          have hzp : z.prio = p := by rw [← hz]; exact Hp.out
          rw [hzp] at e1
          have E1 := Lib.hid e1
          clear hD hO hK hx hrd hz hzp e1
          obtain ⟨x0, x1, x2, x3, x4, x5, x6, x7, x8, x9⟩ := x
          dsimp only at g0 g1 g2 g3 g4 g5 g6 g7 g8 g9
          obtain ⟨cx, cy⟩ := box_rules HCw.out
          obtain ⟨dx, dy⟩ := box_rules HD.out
          go_upto_region 12 with fail
          refine name_world fun W1 hW1 => ?_
          have HB1 : Hid (Below wr.heap.size wr W1) := Lib.hid (by rw [hW1]; exact (Below.refl _ _).alloc (Nat.le_refl _) _)
          have HM1 : Hid (W1.heap[wr.heap.size]? = some (.cells #[.int .u8 x0, .int .i64 x1, .int .i64 x2, .int .i64 x3, .int .i64 x4, .int .i64 x5, .int .i64 x6, .int .i64 x7, .int .i64 x8, .int .i64 x9] 44 (0, 0))) := Lib.hid (by rw [hW1]; exact heap_alloc_new _ _)
          have s1 : W1.heap.size = wr.heap.size + 1 := by rw [hW1]; simp
          have HC1 := Lib.hid (box_keep HCw.out HB1.out)
          have HD1 := Lib.hid (box_keep HD.out HB1.out)
          have HE1 := Lib.hid (cell_of_below HB1.out E1.out)
          have HO1 := Lib.hid (own_belowK HO.out HB1.out)
          have hKs := HK.out.below.size
          have HK1 := Lib.hid (HK.out.call HB1.out (by omega))
          have lbd := box_lt HD.out
          clear hW1 g0 g1 g2 g3 g4 g5 g6 g7 g8 g9 cx cy dx dy E1 HCw HD HO HK HB1
          obtain ⟨mx1, my1⟩ := box_rules HM1.out
          obtain ⟨cx1, cy1⟩ := box_rules HC1.out
          obtain ⟨dx1, dy1⟩ := box_rules HD1.out
          have E1 := HE1.out
          by_cases hki : k = i
          · subst hki
            have hx1 : x1 = p := by have := Hp.out; rw [Hx.out] at this; exact this
            subst hx1
            have hU := Lib.hid (UL_yes (p := x1) hlt Hx.out (by unfold stays; simp))
            have hp1 : decide (x1 ≤ x1) = true := by simp
            go_wp2
            go_big_quiet (fail)
            generalize hW2 : W1.drewN nq = W2
            have hB12 : Below W1.heap.size W1 W2 := by rw [← hW2]; exact bdrewN (Below.refl _ _) nq
            have HM2 := Lib.hid (box_keep HM1.out hB12)
            have HD2 := Lib.hid (box_keep HD1.out hB12)
            have HO2 := Lib.hid (own_belowK HO1.out hB12)
            have HK2 := Lib.hid (HK1.out.call hB12 (by omega))
            have s2 : W2.heap.size = wr.heap.size + 1 := by rw [← hW2]; exact s1
            clear hW2 hB12 mx1 my1 cx1 cy1 dx1 dy1 E1 HM1 HD1 HO1 HK1
            obtain ⟨mx2, my2⟩ := box_rules HM2.out
            obtain ⟨dx2, dy2⟩ := box_rules HD2.out
            have hUl := UL_len x1 ts k
            go_wp2_with (at_builtin; go_loud (refine wp_appK rfl _ _ skc_tk (by decide) rfl (own_allocK HO2.out _) rfl (by omega) (by simp; omega) (wr.heap.size + 1) (tkc ⟨x0, x1, x2, x3, x4, x5, x6, x7, x8, x9⟩) rfl rfl ?_ rfl ?_); (intro j u hu; have hnc := new_cell (w := W2) (t := 44) (cs := #[.int .u8 x0, .int .i64 x1, .int .i64 x2, .int .i64 x3, .int .i64 x4, .int .i64 x5, .int .i64 x6, .int .i64 x7, .int .i64 x8, .int .i64 x9]) hu; rw [s2] at hnc; exact hnc); intro A4 c4 w5 ho4 hg4 _; have G4 := Lib.hid (grown_step HO2.out hg4); have HO4 := Lib.hid ho4; have HG4 := Lib.hid hg4; have HD4 := Lib.hid (G4.out.low HD2.out (by omega)); obtain ⟨dx4, dy4⟩ := box_rules HD4.out; clear ho4 hg4 dx2 dy2 mx2 my2)
            refine ⟨⟨k + 1, A4, c4, by omega, ?_, by go_num, ?_, ?_, ?_⟩, ?_⟩
            · exact atN_at
            · rw [hU.out, List.length_append]
              exact box_set (i := 3) HD4.out _
            · rw [hU.out, List.length_append, List.flatMap_append]
              exact own_setK HO4.out (own_low HO4.out (by show bd < _; omega)) _
            · exact (HK2.out.trans (KeepsLow.step HO2.out HG4.out (by omega) (by omega) (Nat.le_refl _))).set (p := ⟨bd, 3, none⟩) (by show _ ≤ bd; omega) (.inl (by simp)) _
            · simp [intOf]; omega
          · have hne : ((k : Int) == (i : Int)) = false := by simp; omega
            by_cases hp0 : p ≤ x1
            · have hU := Lib.hid (UL_yes (p := p) hlt Hx.out (by unfold stays; simp; omega))
              have hp1 : decide (p ≤ x1) = true := by simp; omega
              go_wp2
              go_big_quiet (fail)
              generalize hW2 : W1.drewN nq = W2
              have hB12 : Below W1.heap.size W1 W2 := by rw [← hW2]; exact bdrewN (Below.refl _ _) nq
              have HM2 := Lib.hid (box_keep HM1.out hB12)
              have HD2 := Lib.hid (box_keep HD1.out hB12)
              have HO2 := Lib.hid (own_belowK HO1.out hB12)
              have HK2 := Lib.hid (HK1.out.call hB12 (by omega))
              have s2 : W2.heap.size = wr.heap.size + 1 := by rw [← hW2]; exact s1
              clear hW2 hB12 mx1 my1 cx1 cy1 dx1 dy1 E1 HM1 HD1 HO1 HK1
              obtain ⟨mx2, my2⟩ := box_rules HM2.out
              obtain ⟨dx2, dy2⟩ := box_rules HD2.out
              have hUl := UL_len p ts k
              go_wp2_with (at_builtin; go_loud (refine wp_appK rfl _ _ skc_tk (by decide) rfl (own_allocK HO2.out _) rfl (by omega) (by simp; omega) (wr.heap.size + 1) (tkc ⟨x0, x1, x2, x3, x4, x5, x6, x7, x8, x9⟩) rfl rfl ?_ rfl ?_); (intro j u hu; have hnc := new_cell (w := W2) (t := 44) (cs := #[.int .u8 x0, .int .i64 x1, .int .i64 x2, .int .i64 x3, .int .i64 x4, .int .i64 x5, .int .i64 x6, .int .i64 x7, .int .i64 x8, .int .i64 x9]) hu; rw [s2] at hnc; exact hnc); intro A4 c4 w5 ho4 hg4 _; have G4 := Lib.hid (grown_step HO2.out hg4); have HO4 := Lib.hid ho4; have HG4 := Lib.hid hg4; have HD4 := Lib.hid (G4.out.low HD2.out (by omega)); obtain ⟨dx4, dy4⟩ := box_rules HD4.out; clear ho4 hg4 dx2 dy2 mx2 my2)
              refine ⟨⟨k + 1, A4, c4, by omega, ?_, by go_num, ?_, ?_, ?_⟩, ?_⟩
              · exact atN_ne hki
              · rw [hU.out, List.length_append]
                exact box_set (i := 3) HD4.out _
              · rw [hU.out, List.length_append, List.flatMap_append]
                exact own_setK HO4.out (own_low HO4.out (by show bd < _; omega)) _
              · exact (HK2.out.trans (KeepsLow.step HO2.out HG4.out (by omega) (by omega) (Nat.le_refl _))).set (p := ⟨bd, 3, none⟩) (by show _ ≤ bd; omega) (.inl (by simp)) _
              · simp [intOf]; omega
            · have hp1 : decide (p ≤ x1) = false := by simp; omega
              by_cases hl0 : 0 ≤ x7
              · have hU := Lib.hid (UL_yes (p := p) hlt Hx.out (by unfold stays; simp; omega))
                have hl1 : decide (0 ≤ x7) = true := by simp; omega
                go_wp2
                go_big_quiet (fail)
                generalize hW2 : W1.drewN nq = W2
                have hB12 : Below W1.heap.size W1 W2 := by rw [← hW2]; exact bdrewN (Below.refl _ _) nq
                have HM2 := Lib.hid (box_keep HM1.out hB12)
                have HD2 := Lib.hid (box_keep HD1.out hB12)
                have HO2 := Lib.hid (own_belowK HO1.out hB12)
                have HK2 := Lib.hid (HK1.out.call hB12 (by omega))
                have s2 : W2.heap.size = wr.heap.size + 1 := by rw [← hW2]; exact s1
                clear hW2 hB12 mx1 my1 cx1 cy1 dx1 dy1 E1 HM1 HD1 HO1 HK1
                obtain ⟨mx2, my2⟩ := box_rules HM2.out
                obtain ⟨dx2, dy2⟩ := box_rules HD2.out
                have hUl := UL_len p ts k
                go_wp2_with (at_builtin; go_loud (refine wp_appK rfl _ _ skc_tk (by decide) rfl (own_allocK HO2.out _) rfl (by omega) (by simp; omega) (wr.heap.size + 1) (tkc ⟨x0, x1, x2, x3, x4, x5, x6, x7, x8, x9⟩) rfl rfl ?_ rfl ?_); (intro j u hu; have hnc := new_cell (w := W2) (t := 44) (cs := #[.int .u8 x0, .int .i64 x1, .int .i64 x2, .int .i64 x3, .int .i64 x4, .int .i64 x5, .int .i64 x6, .int .i64 x7, .int .i64 x8, .int .i64 x9]) hu; rw [s2] at hnc; exact hnc); intro A4 c4 w5 ho4 hg4 _; have G4 := Lib.hid (grown_step HO2.out hg4); have HO4 := Lib.hid ho4; have HG4 := Lib.hid hg4; have HD4 := Lib.hid (G4.out.low HD2.out (by omega)); obtain ⟨dx4, dy4⟩ := box_rules HD4.out; clear ho4 hg4 dx2 dy2 mx2 my2)
                refine ⟨⟨k + 1, A4, c4, by omega, ?_, by go_num, ?_, ?_, ?_⟩, ?_⟩
                · exact atN_ne hki
                · rw [hU.out, List.length_append]
                  exact box_set (i := 3) HD4.out _
                · rw [hU.out, List.length_append, List.flatMap_append]
                  exact own_setK HO4.out (own_low HO4.out (by show bd < _; omega)) _
                · exact (HK2.out.trans (KeepsLow.step HO2.out HG4.out (by omega) (by omega) (Nat.le_refl _))).set (p := ⟨bd, 3, none⟩) (by show _ ≤ bd; omega) (.inl (by simp)) _
                · simp [intOf]; omega
              · have hU := Lib.hid (UL_no (p := p) hlt Hx.out (by unfold stays; simp; omega))
                have hl1 : decide (0 ≤ x7) = false := by simp; omega
                go_wp2
                go_big_quiet (fail)
                generalize hW2 : W1.drewN nq = W2
                have hB12 : Below W1.heap.size W1 W2 := by rw [← hW2]; exact bdrewN (Below.refl _ _) nq
                have HM2 := Lib.hid (box_keep HM1.out hB12)
                have HD2 := Lib.hid (box_keep HD1.out hB12)
                have HO2 := Lib.hid (own_belowK HO1.out hB12)
                have HK2 := Lib.hid (HK1.out.call hB12 (by omega))
                have s2 : W2.heap.size = wr.heap.size + 1 := by rw [← hW2]; exact s1
                clear hW2 hB12 mx1 my1 cx1 cy1 dx1 dy1 E1 HM1 HD1 HO1 HK1
                clear HM2
                go_wp2
                refine ⟨⟨k + 1, A1, c1, by omega, ?_, by go_num, by rw [hU.out]; exact HD2.out, by rw [hU.out]; exact HO2.out, HK2.out⟩, ?_⟩
                · exact atN_ne hki
                · simp [intOf]; omega
        · obtain rfl : k = ts.length := by omega
          obtain ⟨dx, dy⟩ := box_rules hD
          have hat : atN (UL p ts i).length i ts.length = ((UL p ts i).length : Int) := by unfold atN; rw [if_pos hi]
          rw [hat]
          have HBr := Lib.hid (HBV.out.trans hK.below)
          have HR2 := Lib.hid (own_rdK (hK.own (by omega) HP2.out (fun g hg => by
            rw [List.mem_singleton.1 hg]; exact own_apart_box HP2.out HDV.out (by decide))))
          have HR3 := Lib.hid (own_rdK (hK.own (by omega) HP3.out (fun g hg => by
            rw [List.mem_singleton.1 hg]; exact own_apart_box HP3.out HDV.out (by decide))))
          have HR1 := Lib.hid (own_rdK hO)
          have hr1 : ((0 : Int) == 0) = true := by decide
          clear hD hO hK HP2 HP3
          go_wp2_with fail
          refine (hM.out _ _ _ _ _ _ _ HR1.out HR2.out HR3.out).mono ?_
          rintro e w6 ⟨rfl, hb1⟩
          have HB6 := Lib.hid (HBr.out.trans (hb1.mono HBr.out.size))
          clear hb1 dx dy
          go_wp2
          go_ret
          exact ⟨rfl, HB6.out⟩
  · have hz1 : (Z != 0) = true := by simpa using HZ.out (.inl hy)
    have hy1 : (y != 0) = true := by simpa using hy
    go_wp2
    go_ret
    exact ⟨rfl, HBW.out.trans (hS3.out.mono HBW.out.size)⟩
end Go.Proofs.Ytpdanmdpaanafaa

/- vergelaw36.AssignBest: swaps keep a deal a deal: plain laws, no program in sight. -/
import Derived.Test.YtgampofpabllbaaGreatAsX3
import Derived.Test.YtgampofpabllbaaGreatAdX
import Derived.Test.YtgampofpabllbaaGreatAsTx
import Derived.BigRegion
namespace Go.Proofs.YtgampofpabllbaaGreat
open Go.RowKit

def swapL (q : List Int) (a b : Nat) : List Int := (q.set a (q.getD b 0)).set b (q.getD a 0)
theorem swapL_len (q : List Int) (a b : Nat) : (swapL q a b).length = q.length := by unfold swapL; rw [List.length_set, List.length_set]
theorem swapL_perm {q : List Int} {a b : Nat} (ha : a < q.length) (hb : b < q.length) : (swapL q a b).Perm q := by
  have ea : q.getD a 0 = q[a] := by simp [List.getD, ha]
  have eb : q.getD b 0 = q[b] := by simp [List.getD, hb]
  refine List.perm_iff_count.2 fun x => ?_
  unfold swapL
  have hb2 : b < (q.set a (q.getD b 0)).length := by rw [List.length_set]; exact hb
  rw [List.count_set hb2, List.count_set ha]
  have e : (q.set a (q.getD b 0))[b] = q[b] := by
    by_cases h : a = b
    · subst h; simp [ha]
    · rw [List.getElem_set_ne h]
  rw [e, ea, eb]
  have h1 : q[a] = x → 0 < q.count x := fun h => List.count_pos_iff.2 (h ▸ List.getElem_mem ha)
  by_cases h2 : q[a] = x
  · have := h1 h2
    by_cases h3 : q[b] = x
    · simp [h2, h3]; omega
    · simp [h2, h3]; omega
  · by_cases h3 : q[b] = x
    · simp [h2, h3]
    · simp [h2, h3]
theorem putP_swap (ts : List Tk) {q : List Int} (hq : q.length = ts.length) {a b : Nat} (ha : a < ts.length) (hb : b < ts.length) :
    ((putP ts q).set a { (putP ts q).getD a tk0 with prio := q.getD b 0 }).set b { ((putP ts q).set a { (putP ts q).getD a tk0 with prio := q.getD b 0 }).getD b tk0 with prio := q.getD a 0 } = putP ts (swapL q a b) := by
  have hl := putP_len ts q
  refine list_ext_getD (d := tk0) (by rw [List.length_set, List.length_set, putP_len, putP_len]) fun j hj => ?_
  rw [List.length_set, List.length_set, putP_len] at hj
  rw [putP_get ts _ hj]
  have hsw : (swapL q a b).getD j 0 = if j = b then q.getD a 0 else if j = a then q.getD b 0 else q.getD j 0 := by
    unfold swapL
    by_cases h1 : j = b
    · subst h1; rw [if_pos rfl, getD_set_eq (by rw [List.length_set, hq]; exact hj)]
    · rw [if_neg h1, getD_set_ne (fun e => h1 e.symm)]
      by_cases h2 : j = a
      · subst h2; rw [if_pos rfl, getD_set_eq (by rw [hq]; exact hj)]
      · rw [if_neg h2, getD_set_ne (fun e => h2 e.symm)]
  rw [hsw]
  by_cases h1 : j = b
  · subst h1
    rw [if_pos rfl, getD_set_eq (by rw [List.length_set, hl]; exact hj)]
    by_cases h2 : a = j
    · subst h2
      rw [getD_set_eq (by rw [hl]; exact hj), putP_get ts q hj]
    · rw [getD_set_ne h2, putP_get ts q hj]
  · rw [if_neg h1, getD_set_ne (fun e => h1 e.symm)]
    by_cases h2 : j = a
    · subst h2
      rw [if_pos rfl, getD_set_eq (by rw [hl]; exact hj), putP_get ts q hj]
    · rw [if_neg h2, getD_set_ne (fun e => h2 e.symm), putP_get ts q hj]
/-- A deal's answer is the whole's. -/
theorem deal_asgY {mn mx sw : Int} {ts : List Tk} {ls : List Ln} {hs : List Th} {q : List Int} (h : Cf.why ⟨mn, mx, sw, ts, ls, hs⟩ = 0) (hq : q.Perm (ts.map (·.prio))) : asgY mn mx sw (putP ts q) ls hs = asgY mn mx sw ts ls hs := by
  unfold asgY
  rw [why_deal h hq, h, asg_deal hq]
theorem bd_zero' {f : Nat → Int × Int} {n : Nat} (h : (bdY f n).2.2 = 0) : ∀ k, k ≤ n → ∀ j, j < k → (f j).2 = 0
  | 0, _, j, hj => absurd hj (Nat.not_lt_zero _)
  | k + 1, hk, j, hj => by
    have ih := bd_zero' h k (by omega)
    by_cases e : j = k
    · subst e
      apply Classical.byContradiction
      intro hb
      rw [bd_bad (by omega) ih hb] at h
      exact hb h
    · exact ih j (by omega)
/-- Where a deal is accepted there is an assignment. -/
theorem deal_best {mn mx sw : Int} {ts : List Tk} {ls : List Ln} {hs : List Th} {q : List Int} (h : Cf.why ⟨mn, mx, sw, ts, ls, hs⟩ = 0) (hq : q.Perm (ts.map (·.prio))) (hdl : ∀ t ∈ ts, t.deadline ≤ 4000)
    (hA : (bndR (Cf.why ⟨mn, mx, sw, putP ts q, ls, hs⟩) (bdF mn sw (putP ts q) ls hs) (putP ts q).length).2.2 = 0) : asgY mn mx sw ts ls hs = 0 := by
  rw [why_deal h hq, putP_len] at hA
  unfold bndR at hA
  rw [if_neg (by simp)] at hA
  have hg : ∀ j, j < ts.length → (bdF mn sw (putP ts q) ls hs j).2 = 0 := fun k hk => bd_zero' hA _ (Nat.le_refl _) k hk
  obtain ⟨gf, hgf⟩ := asg_some h hq hdl hg
  unfold asgY
  rw [if_pos h, if_neg (by rw [hgf]; simp)]
end Go.Proofs.YtgampofpabllbaaGreat
/- vergelaw36: the walk of AssignBest. Conditions: lists that read. -/
namespace Go.Proofs.YtgampofpabllbaaGreat
open Go.RowKit Go.Shelf
attribute [local go_sem] Oper.semAt_some

def accB (mn mx sw : Int) (T : List Tk) (ls : List Ln) (hs : List Th) : Bool := (bndR (Cf.why ⟨mn, mx, sw, T, ls, hs⟩) (bdF mn sw T ls hs) T.length).2.2 == 0
theorem deal_i64 {ts : List Tk} {hs : List Th} {q : List Int} (hq : q.Perm (ts.map (·.prio))) (ht64 : ∀ p ∈ ts.map (·.prio) ++ hs.map (·.prio), I64 p) : ∀ p ∈ (putP ts q).map (·.prio) ++ hs.map (·.prio), I64 p := fun p hp => by
  have hl : q.length = ts.length := by have := hq.length_eq; simpa using this
  rw [putP_prios ts q hl] at hp
  rcases List.mem_append.1 hp with h | h
  · exact ht64 p (List.mem_append_left _ (hq.mem_iff.1 h))
  · exact ht64 p (List.mem_append_right _ h)
theorem deal_assign (mn mx sw : Int) (ts : List Tk) (ls : List Ln) (hs : List Th) (q : List Int) (hy : Cf.why ⟨mn, mx, sw, ts, ls, hs⟩ = 0) (hq : q.Perm (ts.map (·.prio))) (A : Option Addr) (ca : Nat) (B : Option Addr) (cb : Nat) (D : Option Addr) (cd : Nat) (w : World)
    (hlt0 : ts.length ≤ 1048576) (hll : ls.length ≤ 1048576) (hlh : hs.length ≤ 1048576)
    (ht : Rd w A ((putP ts q).flatMap tkc)) (hl : Rd w B (ls.flatMap lnc)) (hh : Rd w D (hs.flatMap thc)) (hmx : I64 mx) (ht64 : ∀ p ∈ ts.map (·.prio) ++ hs.map (·.prio), I64 p) :
    Calls Tryz.prog 8 #[cfv mn mx sw A ts.length ca B ls.length cb D hs.length cd] w (RetWi (asgY mn mx sw ts ls hs) mn mx sw ts.length ls.length hs.length (asgT mn mx sw (putP ts q) ls hs) ls hs w) := by
  have h := assign_any mn mx sw (putP ts q) ls hs A ca B cb D cd w (by rw [putP_len]; exact hlt0) hll hlh ht hl hh hmx (deal_i64 hq ht64)
  rw [deal_asgY hy hq, putP_len] at h
  exact h
theorem deal_accept (mn mx sw : Int) (ts : List Tk) (ls : List Ln) (hs : List Th) (q : List Int) (hq : q.Perm (ts.map (·.prio))) (A : Option Addr) (ca : Nat) (B : Option Addr) (cb : Nat) (D : Option Addr) (cd : Nat) (w : World)
    (hlt0 : ts.length ≤ 1048576) (hll : ls.length ≤ 1048576) (hlh : hs.length ≤ 1048576)
    (ht : Rd w A ((putP ts q).flatMap tkc)) (hl : Rd w B (ls.flatMap lnc)) (hh : Rd w D (hs.flatMap thc)) (hmx : I64 mx) (ht64 : ∀ p ∈ ts.map (·.prio) ++ hs.map (·.prio), I64 p) :
    Calls Tryz.prog 17 #[cfv mn mx sw A ts.length ca B ls.length cb D hs.length cd] w fun e w' => e = .returned (.bool (accB mn mx sw (putP ts q) ls hs)) ∧ Below w.heap.size w w' := by
  have h := accept_any mn mx sw (putP ts q) ls hs A ca B cb D cd w (by rw [putP_len]; exact hlt0) hll hlh ht hl hh hmx (deal_i64 hq ht64)
  unfold accB
  rw [putP_len] at h ⊢
  exact h
theorem accB_best {mn mx sw : Int} {ts : List Tk} {ls : List Ln} {hs : List Th} {q : List Int} (h : Cf.why ⟨mn, mx, sw, ts, ls, hs⟩ = 0) (hq : q.Perm (ts.map (·.prio))) (hdl : ∀ t ∈ ts, t.deadline ≤ 4000)
    (hA : accB mn mx sw (putP ts q) ls hs = true) : asgY mn mx sw ts ls hs = 0 := deal_best h hq hdl (by unfold accB at hA; simpa using hA)

set_option maxHeartbeats 4000000 in
set_option maxRecDepth 100000 in
theorem best36_cfg (mn mx sw : Int) (ts : List Tk) (ls : List Ln) (hs : List Th) (A : Option Addr) (ca : Nat) (B : Option Addr) (cb : Nat) (D : Option Addr) (cd : Nat) (ss : List Int) (S : Option Addr) (cs : Nat) (w : World)
    (hlt0 : ts.length ≤ 1048576) (hll : ls.length ≤ 1048576) (hlh : hs.length ≤ 1048576) (hls : ss.length ≤ 1048576)
    (ht : Rd w A (ts.flatMap tkc)) (hl : Rd w B (ls.flatMap lnc)) (hh : Rd w D (hs.flatMap thc)) (hS : Rd w S (ss.map (.int .i64))) (hmx : I64 mx) (ht64 : ∀ p ∈ ts.map (·.prio) ++ hs.map (·.prio), I64 p) :
    Calls Tryz.prog 6 #[cfv mn mx sw A ts.length ca B ls.length cb D hs.length cd, .slice S ss.length cs] w fun e w' => e = .returned (.bool true) ∧ Below w.heap.size w w' := by
  have c0 := Lib.hid (fun w => lives36 w)
  have c1 := Lib.hid (fun w ht hl hh => check_cfg mn mx sw ts ls hs A ca B cb D cd w hlt0 hll hlh ht hl hh hmx ht64)
  have c2 := Lib.hid (fun w ht hl hh => assign_any mn mx sw ts ls hs A ca B cb D cd w hlt0 hll hlh ht hl hh hmx ht64)
  have c4 := Lib.hid (fun q hy hq A ca B cb D cd w ht hl hh => deal_assign mn mx sw ts ls hs q hy hq A ca B cb D cd w hlt0 hll hlh ht hl hh hmx ht64)
  have c5 := Lib.hid (fun q hq A ca B cb D cd w ht hl hh => deal_accept mn mx sw ts ls hs q hq A ca B cb D cd w hlt0 hll hlh ht hl hh hmx ht64)
  have HBest := Lib.hid (fun q hy hq hdl hA => accB_best (mn := mn) (mx := mx) (sw := sw) (ts := ts) (ls := ls) (hs := hs) (q := q) hy hq hdl hA)
  have c3 := Lib.hid (fun w ht hl hh => copy26_any mn mx sw ts ls hs A ca B cb D cd w hlt0 hll hlh ht hl hh)
  have Ht := Lib.hid ht; have Hl := Lib.hid hl; have Hh := Lib.hid hh; have HS := Lib.hid hS
  clear ht hl hh hS
  unfold RetWi RetCy cfv at *
  go_enter Tryz.func6, Tryz.ntmps6
  go_upto_region 1 with fail
  refine name_world fun W hW => ?_
  have HC : Hid (W.heap[w.heap.size]? = some (.cells #[.int .i64 mn, .int .i64 mx, .int .i64 sw, .slice A ts.length ca, .slice B ls.length cb, .slice D hs.length cd] 28 (0, 0))) := Lib.hid (by rw [hW]; exact heap_alloc_new w _)
  have HB : Hid (Below w.heap.size w W) := Lib.hid (by rw [hW]; exact (Below.refl _ _).alloc (Nat.le_refl _) _)
  clear hW
  go_wp2_with fail
  refine (c0.out _).mono ?_
  rintro e w0 ⟨rfl, hb⟩
  have HB0 := Lib.hid (HB.out.trans (hb.mono HB.out.size))
  have HC0 := Lib.hid (box_keep HC.out hb)
  clear hb HC HB c0
  obtain ⟨cx, cy⟩ := box_rules HC0.out
  go_wp2_with fail
  refine (c1.out _ (Ht.out.below HB0.out) (Hl.out.below HB0.out) (Hh.out.below HB0.out)).mono ?_
  rintro e w1 ⟨rfl, hb⟩
  have HB1 := Lib.hid (HB0.out.trans (hb.mono HB0.out.size))
  have HC1 := Lib.hid (box_keep HC0.out hb)
  clear hb HC0 HB0 cx cy c1
  obtain ⟨cx, cy⟩ := box_rules HC1.out
  by_cases hy : Cf.why ⟨mn, mx, sw, ts, ls, hs⟩ = 0
  · have HY := Lib.hid hy
    have HN : Hid (1 ≤ ts.length) := Lib.hid (cfIn_of hy).nt.1
    have hy2 : (Cf.why ⟨mn, mx, sw, ts, ls, hs⟩ != 0) = false := by simp [hy]
    have c4' := Lib.hid (fun q hq => c4.out q HY.out hq)
    have HBest' := Lib.hid (fun q hq hdl hA => HBest.out q HY.out hq hdl hA)
    clear c4 HBest
    generalize Cf.why ⟨mn, mx, sw, ts, ls, hs⟩ = y at *
    clear hy
    go_wp2
    go_loopw [25] (fun i wr => ∃ k : Nat, k ≤ ts.length ∧ i = .int .i64 k ∧ Hid (∀ j, j < k → (ts.getD j tk0).deadline ≤ 4000) ∧ Hid (Below w.heap.size w wr) ∧ Hid (wr.heap[w.heap.size]? = some (.cells #[.int .i64 mn, .int .i64 mx, .int .i64 sw, .slice A ts.length ca, .slice B ls.length cb, .slice D hs.length cd] 28 (0, 0)))) (fun i _ => ts.length - (intOf i).toNat)
    case atStart => exact ⟨0, by omega, rfl, Lib.hid (fun j hj => absurd hj (Nat.not_lt_zero _)), HB1, HC1⟩
    case round =>
      obtain ⟨k, hk, rfl, HDl, HBr, HCr⟩ := hrel
      clear cx cy
      obtain ⟨cx, cy⟩ := box_rules HCr.out
      by_cases hlt : k < ts.length
      · obtain ⟨a, x, rfl, hx, ⟨z0, z1, z2, z3⟩, z4, z5, z6, z7, z8, z9⟩ := (Ht.out.below HBr.out).tkAt hlt
        have HX := Lib.hid hx
        clear hx
        obtain ⟨x0, x1, x2, x3, x4, x5, x6, x7, x8, x9⟩ := x
        dsimp only at *
        by_cases hd : 4000 < x4
        · go_wp2
          go_ret
          exact ⟨by (first | rfl | simp), HBr.out.alloc HBr.out.size _⟩
        · go_wp2
          refine ⟨⟨k + 1, hlt, by go_num, Lib.hid (fun j hj => ?_), Lib.hid (HBr.out.alloc HBr.out.size _), Lib.hid (box_alloc HCr.out _)⟩, ?_⟩
          · by_cases e : j = k
            · subst e; rw [HX.out]; show x4 ≤ 4000; omega
            · exact HDl.out j (by omega)
          · simp [intOf]; omega
      · obtain rfl : k = ts.length := by omega
        have hDl : ∀ t ∈ ts, t.deadline ≤ 4000 := fun t htm => by
          obtain ⟨j, hj, rfl⟩ := List.getElem_of_mem htm
          have := HDl.out j hj
          simpa [List.getD, hj] using this
        have HD := Lib.hid hDl
        clear hDl HDl HB1 HC1
        go_wp2_with fail
        refine (c3.out _ (Ht.out.below HBr.out) (Hl.out.below HBr.out) (Hh.out.below HBr.out)).mono ?_
        rintro e w2 ⟨A1, a1, B1, b1, D1, d1, rfl, ho1, ho2, ho3, hb⟩
        go_upto_region 12 with fail
        refine name_world fun V hV => ?_
        have HI : Hid (GdI mn mx sw ts.length ls.length hs.length w.heap.size w2.heap.size wr.heap.size A ca B cb D cd A1 a1 B1 b1 D1 d1 w (putP ts (ts.map (·.prio))) ls hs V) := Lib.hid (by
          rw [hV, putP_self]
          exact ⟨box_alloc (box_keep HCr.out hb) _, heap_alloc_new _ _, own_allocK ho1 _, own_allocK ho2 _, own_allocK ho3 _, (HBr.out.trans (hb.mono HBr.out.size)).alloc (by have := HBr.out.size; have := hb.size; omega) _, HBr.out.size⟩)
        clear hV hb ho1 ho2 ho3 cx cy HCr HBr c3
        generalize w2.heap.size = bd at *
        generalize wr.heap.size = base at *
        obtain ⟨dx, dy⟩ := box_rules HI.out.boxd
        go_wp2
        go_loopw [40] (fun i wv => ∃ (k : Nat) (q : List Int), k ≤ ss.length ∧ i = .int .i64 k ∧ Hid (q.Perm (ts.map (·.prio))) ∧ Hid (GdI mn mx sw ts.length ls.length hs.length w.heap.size bd base A ca B cb D cd A1 a1 B1 b1 D1 d1 w (putP ts q) ls hs wv)) (fun i _ => ss.length - (intOf i).toNat)
        case atStart => exact ⟨0, _, by omega, rfl, Lib.hid (List.Perm.refl _), HI⟩
        case round =>
          obtain ⟨k, q, hk, rfl, HQ, HIv⟩ := hrel
          clear dx dy HI
          obtain ⟨dx, dy⟩ := box_rules HIv.out.boxd
          by_cases hlt : k < ss.length
          · obtain ⟨sa, rfl, gs⟩ := (HS.out.below HIv.out.low).int hlt
            generalize ss.getD k 0 = s at *
            have hn := HN.out
            have hn0 : ((ts.length : Int) == 0) = false := by simp only [beq_eq_false_iff_ne]; omega
            have hnz : (0 : Int) < (ts.length : Int) := by omega
            have m1 := Int.tmod_lt_of_pos s hnz
            have m2 := Int.lt_tmod_of_pos s hnz
            obtain ⟨ia, hia, hia2⟩ : ∃ ia : Nat, ia < ts.length ∧ (k : Int) % (ts.length : Int) = (ia : Int) := ⟨k % ts.length, Nat.mod_lt _ hn, by omega⟩
            have lt1 : (ia : Int) < (ts.length : Int) := by omega
            by_cases hsg : s.tmod (ts.length : Int) < 0
            · obtain ⟨ib, hib⟩ : ∃ ib : Nat, IntKind.i64.wrap (s.tmod (ts.length : Int) + (ts.length : Int)) = (ib : Int) := ⟨(s.tmod (ts.length : Int) + (ts.length : Int)).toNat, by rw [IntWalk.i64_in _ (by omega)]; omega⟩
              have hlb : ib < ts.length := by rw [IntWalk.i64_in _ (by omega)] at hib; omega
              have lt2 : (ib : Int) < (ts.length : Int) := by omega
              go_upto_region 16 with fail
              go_quiet (fail)
              go_upto_region 19 with fail
              rw [hia2]
              clear hsg hib hia2 m1 m2 hnz hn0
              refine name_world fun V hV => ?_
              have HIV : Hid (GdI mn mx sw ts.length ls.length hs.length w.heap.size bd base A ca B cb D cd A1 a1 B1 b1 D1 d1 w (putP ts q) ls hs V) := Lib.hid (by rw [hV]; first | exact HIv.out | exact HIv.out.drewN _)
              clear hV HIv dx dy gs
              obtain ⟨dx, dy⟩ := box_rules HIV.out.boxd
              have hTa : ia < (putP ts q).length := by rw [putP_len]; exact hia
              have hTb : ib < (putP ts q).length := by rw [putP_len]; exact hlb
              obtain ⟨a2, x, rfl, hx, ⟨-, x1, -, -⟩, -⟩ := (own_rdK HIV.out.o1).tkAt hTa
              obtain ⟨a2', y, ha2, hy, ⟨-, y1, -, -⟩, -⟩ := (own_rdK HIV.out.o1).tkAt hTb
              cases ha2
              have fa := own_froz HIV.out.o1 (ia * 10) 1
              have fb := own_froz HIV.out.o1 (ib * 10) 1
              have hxp : q.getD ia 0 = x.prio := by rw [← hx, putP_get ts q hia]
              have hyp : q.getD ib 0 = y.prio := by rw [← hy, putP_get ts q hlb]
              have hqn : q.length = ts.length := by have := HQ.out.length_eq; simpa using this
              have HSw : Hid (GdI mn mx sw ts.length ls.length hs.length w.heap.size bd base A ca B cb D cd (some a2) a1 B1 b1 D1 d1 w (putP ts (swapL q ia ib)) ls hs ((V.setCell ⟨(a2.add (ia * 10)).block, (a2.add (ia * 10)).off + 1, none⟩ (.int .i64 y.prio)).setCell ⟨(a2.add (ib * 10)).block, (a2.add (ib * 10)).off + 1, none⟩ (.int .i64 x.prio))) := Lib.hid (by
                rw [← putP_swap ts hqn hia hlb, hxp, hyp]
                exact (HIV.out.put hTa y.prio).put (by rw [List.length_set]; exact hTb) x.prio)
              have HPm : Hid ((swapL q ia ib).Perm (ts.map (·.prio))) := Lib.hid ((swapL_perm (by omega) (by omega)).trans HQ.out)
              clear hx hy hxp hyp hqn
              generalize x.prio = xp at *
              generalize y.prio = yp at *
              obtain ⟨⟨u, hu⟩, hf⟩ := Wr.set (p := ⟨(a2.add (ib * 10)).block, (a2.add (ib * 10)).off + 1, none⟩) ⟨⟨_, y1⟩, fb⟩ ⟨(a2.add (ia * 10)).block, (a2.add (ia * 10)).off + 1, none⟩ (.int .i64 yp)
              have hbne : bd ≠ (a2.add (ia * 10)).block := fun e => own_apart_box HIV.out.o1 HIV.out.boxd (by decide) (by rw [(own_blk HIV.out.o1 (ia * 10)).2, e])
              obtain ⟨ex, ey⟩ := box_rules (box_far HIV.out.boxd (p := ⟨(a2.add (ia * 10)).block, (a2.add (ia * 10)).off + 1, none⟩) hbne (.int .i64 yp))
              clear hbne
              have g1 : (0 : Int) ≤ (ia : Int) := by omega
              have g2 : (0 : Int) ≤ (ib : Int) := by omega
              go_region
              go_wp2
              refine ⟨⟨k + 1, swapL q ia ib, hlt, by go_num, HPm, Lib.hid (by first | exact HSw.out | exact HSw.out.drewN 1)⟩, ?_⟩
              simp [intOf]; omega
            · obtain ⟨ib, hib⟩ : ∃ ib : Nat, s.tmod (ts.length : Int) = (ib : Int) := ⟨(s.tmod (ts.length : Int)).toNat, by omega⟩
              have hlb : ib < ts.length := by omega
              have lt2 : (ib : Int) < (ts.length : Int) := by omega
              go_upto_region 16 with fail
              go_quiet (fail)
              go_upto_region 19 with fail
              rw [hia2]
              clear hsg hib hia2 m1 m2 hnz hn0
              refine name_world fun V hV => ?_
              have HIV : Hid (GdI mn mx sw ts.length ls.length hs.length w.heap.size bd base A ca B cb D cd A1 a1 B1 b1 D1 d1 w (putP ts q) ls hs V) := Lib.hid (by rw [hV]; first | exact HIv.out | exact HIv.out.drewN _)
              clear hV HIv dx dy gs
              obtain ⟨dx, dy⟩ := box_rules HIV.out.boxd
              have hTa : ia < (putP ts q).length := by rw [putP_len]; exact hia
              have hTb : ib < (putP ts q).length := by rw [putP_len]; exact hlb
              obtain ⟨a2, x, rfl, hx, ⟨-, x1, -, -⟩, -⟩ := (own_rdK HIV.out.o1).tkAt hTa
              obtain ⟨a2', y, ha2, hy, ⟨-, y1, -, -⟩, -⟩ := (own_rdK HIV.out.o1).tkAt hTb
              cases ha2
              have fa := own_froz HIV.out.o1 (ia * 10) 1
              have fb := own_froz HIV.out.o1 (ib * 10) 1
              have hxp : q.getD ia 0 = x.prio := by rw [← hx, putP_get ts q hia]
              have hyp : q.getD ib 0 = y.prio := by rw [← hy, putP_get ts q hlb]
              have hqn : q.length = ts.length := by have := HQ.out.length_eq; simpa using this
              have HSw : Hid (GdI mn mx sw ts.length ls.length hs.length w.heap.size bd base A ca B cb D cd (some a2) a1 B1 b1 D1 d1 w (putP ts (swapL q ia ib)) ls hs ((V.setCell ⟨(a2.add (ia * 10)).block, (a2.add (ia * 10)).off + 1, none⟩ (.int .i64 y.prio)).setCell ⟨(a2.add (ib * 10)).block, (a2.add (ib * 10)).off + 1, none⟩ (.int .i64 x.prio))) := Lib.hid (by
                rw [← putP_swap ts hqn hia hlb, hxp, hyp]
                exact (HIV.out.put hTa y.prio).put (by rw [List.length_set]; exact hTb) x.prio)
              have HPm : Hid ((swapL q ia ib).Perm (ts.map (·.prio))) := Lib.hid ((swapL_perm (by omega) (by omega)).trans HQ.out)
              clear hx hy hxp hyp hqn
              generalize x.prio = xp at *
              generalize y.prio = yp at *
              obtain ⟨⟨u, hu⟩, hf⟩ := Wr.set (p := ⟨(a2.add (ib * 10)).block, (a2.add (ib * 10)).off + 1, none⟩) ⟨⟨_, y1⟩, fb⟩ ⟨(a2.add (ia * 10)).block, (a2.add (ia * 10)).off + 1, none⟩ (.int .i64 yp)
              have hbne : bd ≠ (a2.add (ia * 10)).block := fun e => own_apart_box HIV.out.o1 HIV.out.boxd (by decide) (by rw [(own_blk HIV.out.o1 (ia * 10)).2, e])
              obtain ⟨ex, ey⟩ := box_rules (box_far HIV.out.boxd (p := ⟨(a2.add (ia * 10)).block, (a2.add (ia * 10)).off + 1, none⟩) hbne (.int .i64 yp))
              clear hbne
              have g1 : (0 : Int) ≤ (ia : Int) := by omega
              have g2 : (0 : Int) ≤ (ib : Int) := by omega
              go_region
              go_wp2
              refine ⟨⟨k + 1, swapL q ia ib, hlt, by go_num, HPm, Lib.hid (by first | exact HSw.out | exact HSw.out.drewN 1)⟩, ?_⟩
              simp [intOf]; omega
          · obtain rfl : k = ss.length := by omega
            have f1 := Lib.hid (fun w1 (h : Below w.heap.size w w1) => c2.out w1 (Ht.out.below h) (Hl.out.below h) (Hh.out.below h))
            have f2 := Lib.hid (fun w1 h1 h2 h3 => c4'.out q HQ.out A1 a1 B1 b1 D1 d1 w1 h1 h2 h3)
            have f3 := Lib.hid (fun w1 h1 h2 h3 => c5.out q HQ.out A1 a1 B1 b1 D1 d1 w1 h1 h2 h3)
            have HBs := Lib.hid (fun hA => HBest'.out q HQ.out HD.out hA)
            clear c2 c4' c5 HBest' HD
            generalize asgY mn mx sw ts ls hs = Y at *
            generalize accB mn mx sw (putP ts q) ls hs = ac at *
            obtain ⟨cx, cy⟩ := box_rules HIv.out.boxc
            by_cases hY : Y = 0
            · subst hY
              go_wp2_with fail
              refine (f1.out _ (HIv.out.low)).mono ?_
              rintro e w3 ⟨-, h3, hb⟩
              obtain ⟨A5, a5, B5, b5, D5, d5, rfl, -, -, -⟩ := h3 (by first | rfl | trivial)
              have HI3 := Lib.hid (HIv.out.below hb)
              clear h3 hb cx cy dx dy HIv
              go_upto_region 22 with fail
              refine name_world fun U hU => ?_
              have HIU := Lib.hid (HI3.out.below (show Below w3.heap.size w3 U by rw [hU]; exact (Below.refl _ _).alloc (Nat.le_refl _) _))
              clear hU HI3
              obtain ⟨dx, dy⟩ := box_rules HIU.out.boxd
              go_wp2_with fail
              refine (f2.out _ (own_rdK HIU.out.o1) (own_rdK HIU.out.o2) (own_rdK HIU.out.o3)).mono ?_
              rintro e w4 ⟨-, h4, hb⟩
              obtain ⟨A6, a6, B6, b6, D6, d6, rfl, -, -, -⟩ := h4 (by first | rfl | trivial)
              have HI4 := Lib.hid (HIU.out.below hb)
              clear h4 hb dx dy HIU
              go_upto_region 23 with fail
              refine name_world fun U' hU => ?_
              have HIU := Lib.hid (HI4.out.below (show Below w4.heap.size w4 U' by rw [hU]; exact (Below.refl _ _).alloc (Nat.le_refl _) _))
              clear hU HI4
              obtain ⟨dx, dy⟩ := box_rules HIU.out.boxd
              go_wp2_with (go_at_call 17; refine (f3.out _ (own_rdK HIU.out.o1) (own_rdK HIU.out.o2) (own_rdK HIU.out.o3)).mono ?_; rintro e w5 ⟨rfl, hb⟩; have HI5 := Lib.hid (HIU.out.below hb); clear hb dx dy; generalize ac = ac1 at *; cases ac1)
              all_goals
                go_wp2
                go_ret
                exact ⟨by (first | rfl | simp), HI5.out.low⟩
            · have hacf : ac = false := by
                cases hac : ac with
                | false => rfl
                | true => exact absurd (HBs.out hac) hY
              subst hacf
              have hY2 : (Y == 0) = false := by simpa using hY
              have HY2 := Lib.hid hY
              clear hY HBs
              go_wp2_with fail
              refine (f1.out _ (HIv.out.low)).mono ?_
              rintro e w3 ⟨h3, -, hb⟩
              have h3' := h3 HY2.out
              subst h3'
              have HI3 := Lib.hid (HIv.out.below hb)
              clear h3 hb cx cy dx dy HIv
              go_upto_region 22 with fail
              refine name_world fun U hU => ?_
              have HIU := Lib.hid (HI3.out.below (show Below w3.heap.size w3 U by rw [hU]; exact (Below.refl _ _).alloc (Nat.le_refl _) _))
              clear hU HI3
              obtain ⟨dx, dy⟩ := box_rules HIU.out.boxd
              go_wp2_with fail
              refine (f2.out _ (own_rdK HIU.out.o1) (own_rdK HIU.out.o2) (own_rdK HIU.out.o3)).mono ?_
              rintro e w4 ⟨h4, -, hb⟩
              have h4' := h4 HY2.out
              subst h4'
              have HI4 := Lib.hid (HIU.out.below hb)
              clear h4 hb dx dy HIU
              go_upto_region 23 with fail
              refine name_world fun U' hU => ?_
              have HIU := Lib.hid (HI4.out.below (show Below w4.heap.size w4 U' by rw [hU]; exact (Below.refl _ _).alloc (Nat.le_refl _) _))
              clear hU HI4
              obtain ⟨dx, dy⟩ := box_rules HIU.out.boxd
              go_wp2_with (go_at_call 17; refine (f3.out _ (own_rdK HIU.out.o1) (own_rdK HIU.out.o2) (own_rdK HIU.out.o3)).mono ?_; rintro e w5 ⟨rfl, hb⟩; have HI5 := Lib.hid (HIU.out.below hb); clear hb dx dy)
              go_ret
              exact ⟨by (first | rfl | simp), HI5.out.low⟩
  · have hy2 : (Cf.why ⟨mn, mx, sw, ts, ls, hs⟩ != 0) = true := by simpa using hy
    generalize Cf.why ⟨mn, mx, sw, ts, ls, hs⟩ = y at *
    go_wp2
    go_ret
    exact ⟨by (first | rfl | simp), HB1.out⟩
end Go.Proofs.YtgampofpabllbaaGreat

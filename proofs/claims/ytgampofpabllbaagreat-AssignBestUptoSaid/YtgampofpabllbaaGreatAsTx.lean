/- Package vergeref26: the walk of Same, where both are the same. Conditions: lists that read. -/
import Derived.Test.YtgampofpabllbaaGreatRtSQ
import Derived.Test.YtgampofpabllbaaGreatAsX3
import Derived.Test.YtgampofpabllbaaGreatAdX
namespace Go.Proofs.YtgampofpabllbaaGreat
open Go.RowKit Go.Shelf

set_option maxHeartbeats 4000000 in
set_option maxRecDepth 100000 in
theorem same26_one (mn mx sw : Int) (ts : List Tk) (ls : List Ln) (hs : List Th) (A : Option Addr) (ca : Nat) (B : Option Addr) (cb : Nat) (D : Option Addr) (cd : Nat) (A' : Option Addr) (ca' : Nat) (B' : Option Addr) (cb' : Nat) (D' : Option Addr) (cd' : Nat) (w : World)
    (hlt0 : ts.length ≤ 1048576) (hll : ls.length ≤ 1048576) (hlh : hs.length ≤ 1048576)
    (ht : Rd w A (ts.flatMap tkc)) (hl : Rd w B (ls.flatMap lnc)) (hh : Rd w D (hs.flatMap thc)) (ht' : Rd w A' (ts.flatMap tkc)) (hl' : Rd w B' (ls.flatMap lnc)) (hh' : Rd w D' (hs.flatMap thc)) :
    Calls Tryz.prog 14 #[cfv mn mx sw A ts.length ca B ls.length cb D hs.length cd, cfv mn mx sw A' ts.length ca' B' ls.length cb' D' hs.length cd'] w fun e w' => e = .returned (.bool true) ∧ Below w.heap.size w w' := by
  unfold cfv
  go_enter Tryz.func14, Tryz.ntmps14
  go_upto_region 1 with fail
  refine name_world fun W hW => ?_
  have HC : Hid (W.heap[w.heap.size]? = some (.cells #[.int .i64 mn, .int .i64 mx, .int .i64 sw, .slice A ts.length ca, .slice B ls.length cb, .slice D hs.length cd] 28 (0, 0))) := Lib.hid (by rw [hW]; exact box_alloc (heap_alloc_new w _) _)
  have HD : Hid (W.heap[w.heap.size + 1]? = some (.cells #[.int .i64 mn, .int .i64 mx, .int .i64 sw, .slice A' ts.length ca', .slice B' ls.length cb', .slice D' hs.length cd'] 28 (0, 0))) := Lib.hid (by rw [hW]; exact heap_new_at _ (by simp))
  have HB : Hid (Below w.heap.size w W) := Lib.hid (by rw [hW]; exact ((Below.refl _ _).alloc (Nat.le_refl _) _).alloc (by simp) _)
  have H1 := Lib.hid (ht.below HB.out); have H2 := Lib.hid (hl.below HB.out); have H3 := Lib.hid (hh.below HB.out)
  have G1 := Lib.hid (ht'.below HB.out); have G2 := Lib.hid (hl'.below HB.out); have G3 := Lib.hid (hh'.below HB.out)
  clear hW ht hl hh ht' hl' hh'
  obtain ⟨cx, cy⟩ := box_rules HC.out
  obtain ⟨dx, dy⟩ := box_rules HD.out
  go_wp2
  go_loopw [50] (fun i wr => ∃ k : Nat, k ≤ ts.length ∧ i = .int .i64 k ∧ ∃ n, wr = W.drewN n) (fun i _ => ts.length - (intOf i).toNat)
  case atStart => exact ⟨0, by omega, rfl, 0, rfl⟩
  case round =>
    obtain ⟨k, hk, rfl, n, rfl⟩ := hrel
    by_cases hlt : k < ts.length
    · obtain ⟨a, x, rfl, hx, ⟨p0, p1, p2, p3⟩, p4, p5, p6, p7, p8, p9⟩ := H1.out.tkAt hlt
      obtain ⟨b, y, rfl, hy, ⟨q0, q1, q2, q3⟩, q4, q5, q6, q7, q8, q9⟩ := G1.out.tkAt hlt
      obtain rfl := hx.symm.trans hy
      clear hx hy
      obtain ⟨x0, x1, x2, x3, x4, x5, x6, x7, x8, x9⟩ := x
      dsimp only at p0 p1 p2 p3 p4 p5 p6 p7 p8 p9 q0 q1 q2 q3 q4 q5 q6 q7 q8 q9
      go_wp2
      go_quiet (fail)
      go_wp2
      go_roundw
      case rel => exact ⟨k + 1, by omega, by go_num, _, rfl⟩
      case measure => simp [intOf]; omega
    · obtain rfl : k = ts.length := by omega
      go_wp2
      go_loopw [68] (fun i wr => ∃ k : Nat, k ≤ ls.length ∧ i = .int .i64 k ∧ ∃ n, wr = W.drewN n) (fun i _ => ls.length - (intOf i).toNat)
      case atStart => exact ⟨0, by omega, rfl, _, rfl⟩
      case round =>
        obtain ⟨k, hk, rfl, n, rfl⟩ := hrel
        by_cases hlt : k < ls.length
        · obtain ⟨a, x, rfl, hx, p0, p1, p2, p3⟩ := H2.out.lnAt hlt
          obtain ⟨b, y, rfl, hy, q0, q1, q2, q3⟩ := G2.out.lnAt hlt
          obtain rfl := hx.symm.trans hy
          clear hx hy
          obtain ⟨x0, x1, x2, x3⟩ := x
          dsimp only at p0 p1 p2 p3 q0 q1 q2 q3
          go_wp2
          go_quiet (fail)
          go_wp2
          refine ⟨⟨k + 1, by omega, by go_num, _, rfl⟩, ?_⟩
          simp [intOf]; omega
        · obtain rfl : k = ls.length := by omega
          go_wp2
          go_loopw [86] (fun i wr => ∃ k : Nat, k ≤ hs.length ∧ i = .int .i64 k ∧ ∃ n, wr = W.drewN n) (fun i _ => hs.length - (intOf i).toNat)
          case atStart => exact ⟨0, by omega, rfl, _, rfl⟩
          case round =>
            obtain ⟨k, hk, rfl, n, rfl⟩ := hrel
            by_cases hlt : k < hs.length
            · obtain ⟨a, x, rfl, hx, p0, p1, p2, p3⟩ := H3.out.thAt hlt
              obtain ⟨b, y, rfl, hy, q0, q1, q2, q3⟩ := G3.out.thAt hlt
              obtain rfl := hx.symm.trans hy
              clear hx hy
              obtain ⟨x0, x1, x2, x3⟩ := x
              dsimp only at p0 p1 p2 p3 q0 q1 q2 q3
              go_wp2
              go_quiet (fail)
              go_wp2
              refine ⟨⟨k + 1, by omega, by go_num, _, rfl⟩, ?_⟩
              simp [intOf]; omega
            · obtain rfl : k = hs.length := by omega
              go_wp2
              go_ret
              exact ⟨rfl, bdrewN HB.out _⟩
end Go.Proofs.YtgampofpabllbaaGreat
/- vergelaw36: the walk of AssignGood. Conditions: lists that read. -/
namespace Go.Proofs.YtgampofpabllbaaGreat
open Go.RowKit Go.Shelf
attribute [local go_sem] Oper.semAt_some

theorem cnt_step {l : List Int} {k : Nat} (h : k < l.length) (p : Int) : (l.take (k + 1)).count p = (l.take k).count p + (if l.getD k 0 = p then 1 else 0) := by
  rw [takeP (d := 0) h, List.count_append]
  congr 1
  by_cases e : l.getD k 0 = p
  · rw [if_pos e, e]; simp
  · rw [if_neg e]
    exact List.count_eq_zero.2 (by simpa using fun h => e h.symm)
/-- What is known of an assignment, for the law. -/
theorem good_all {mn mx sw : Int} {ts : List Tk} {ls : List Ln} {hs : List Th} {gf : List Int} (h : Cf.why ⟨mn, mx, sw, ts, ls, hs⟩ = 0) (ha : asgP mn mx sw ts ls hs = some gf) :
    gf.length = ts.length ∧ (∀ k, k < ts.length → gf.count (ts.getD k tk0).prio = 1) ∧
    (bndR (Cf.why ⟨mn, mx, sw, putP ts gf, ls, hs⟩) (bdF mn sw (putP ts gf) ls hs) (putP ts gf).length).2.2 = 0 ∧ (∀ p ∈ (putP ts gf).map (·.prio) ++ hs.map (·.prio), I64 p) := by
  obtain ⟨hp, hg⟩ := asg_good h ha
  have hl : gf.length = ts.length := by have := hp.length_eq; simpa using this
  have hc := cfIn_of h
  have hnd := hc.nodup
  unfold Cf.prios at hnd
  dsimp only at hnd
  have hn := (List.nodup_append.1 hnd).1
  have hts := hc.ts; have hhs := hc.hs
  dsimp only at hts hhs
  refine ⟨hl, fun k hk => ?_, ?_, fun p hm => ?_⟩
  · rw [hp.count_eq]
    have hm : (ts.getD k tk0).prio ∈ ts.map (·.prio) := List.mem_map.2 ⟨_, getD_mem (d := tk0) hk, rfl⟩
    have h1 := List.nodup_iff_count.1 hn (ts.getD k tk0).prio
    have h2 := List.count_pos_iff.2 hm
    omega
  · unfold bndR
    rw [if_neg (by rw [why_deal h hp]; simp), bd_done (fun j hj => by rw [putP_len] at hj; exact hg j hj)]
  · rw [putP_prios ts gf hl] at hm
    rcases List.mem_append.1 hm with h1 | h1
    · obtain ⟨x, hx, rfl⟩ := List.mem_map.1 (hp.mem_iff.1 h1)
      have := (hts x hx).prio
      exact ⟨by omega, by omega⟩
    · obtain ⟨x, hx, rfl⟩ := List.mem_map.1 h1
      have := (hhs x hx).prio
      exact ⟨by omega, by omega⟩
/-- The answer's memory while its priorities are put back. -/
structure GdI (mn mx sw : Int) (nt nl nh bc bd base : Nat) (A : Option Addr) (ca : Nat) (B : Option Addr) (cb : Nat) (D : Option Addr) (cd : Nat) (A2 : Option Addr) (c2 : Nat) (B2 : Option Addr) (d2 : Nat) (D2 : Option Addr) (e2 : Nat) (w : World) (T : List Tk) (L : List Ln) (H : List Th) (wx : World) : Prop where
  boxc : wx.heap[bc]? = some (.cells #[.int .i64 mn, .int .i64 mx, .int .i64 sw, .slice A nt ca, .slice B nl cb, .slice D nh cd] 28 (0, 0))
  boxd : wx.heap[bd]? = some (.cells #[.int .i64 mn, .int .i64 mx, .int .i64 sw, .slice A2 nt c2, .slice B2 nl d2, .slice D2 nh e2] 28 (0, 0))
  o1 : wx.ownsRow base 43 10 (.slice A2 nt c2) nt (T.flatMap tkc)
  o2 : wx.ownsRow base 58 4 (.slice B2 nl d2) nl (L.flatMap lnc)
  o3 : wx.ownsRow base 60 4 (.slice D2 nh e2) nh (H.flatMap thc)
  low : Below w.heap.size w wx
  bl : w.heap.size ≤ base
section
variable {mn mx sw : Int} {nt nl nh bc bd base : Nat} {A : Option Addr} {ca : Nat} {B : Option Addr} {cb : Nat} {D : Option Addr} {cd : Nat} {A2 : Option Addr} {c2 : Nat} {B2 : Option Addr} {d2 : Nat} {D2 : Option Addr} {e2 : Nat} {a : Addr} {w : World} {T : List Tk} {L : List Ln} {H : List Th} {wx w3 : World}
theorem GdI.below (h : GdI mn mx sw nt nl nh bc bd base A ca B cb D cd A2 c2 B2 d2 D2 e2 w T L H wx) (hb : Below wx.heap.size wx w3) : GdI mn mx sw nt nl nh bc bd base A ca B cb D cd A2 c2 B2 d2 D2 e2 w T L H w3 :=
  ⟨box_keep h.boxc hb, box_keep h.boxd hb, own_belowK h.o1 hb, own_belowK h.o2 hb, own_belowK h.o3 hb, h.low.trans (hb.mono h.low.size), h.bl⟩
theorem GdI.drewN (h : GdI mn mx sw nt nl nh bc bd base A ca B cb D cd A2 c2 B2 d2 D2 e2 w T L H wx) (n : Nat) : GdI mn mx sw nt nl nh bc bd base A ca B cb D cd A2 c2 B2 d2 D2 e2 w T L H (wx.drewN n) := h.below (bdrewN (Below.refl _ _) n)
theorem GdI.put (h : GdI mn mx sw nt nl nh bc bd base A ca B cb D cd (some a) c2 B2 d2 D2 e2 w T L H wx) {m : Nat} (hm : m < T.length) (v : Int) :
    GdI mn mx sw nt nl nh bc bd base A ca B cb D cd (some a) c2 B2 d2 D2 e2 w (T.set m { T.getD m tk0 with prio := v }) L H (wx.setCell ⟨(a.add (m * 10)).block, (a.add (m * 10)).off + 1, none⟩ (.int .i64 v)) := by
  obtain ⟨b1, b2⟩ := own_blk h.o1 (m * 10)
  have b4 : ∀ {b : Nat} {cs : Array Value}, wx.heap[b]? = some (.cells cs 28 (0, 0)) → b ≠ (a.add (m * 10)).block := fun hb e => own_apart_box h.o1 hb (by decide) (by rw [b2, e])
  have bl := h.bl
  refine ⟨box_far h.boxc (p := ⟨(a.add (m * 10)).block, (a.add (m * 10)).off + 1, none⟩) (b4 h.boxc) _, box_far h.boxd (p := ⟨(a.add (m * 10)).block, (a.add (m * 10)).off + 1, none⟩) (b4 h.boxd) _, ?_, ?_, ?_, h.low.setCell (p := ⟨(a.add (m * 10)).block, (a.add (m * 10)).off + 1, none⟩) (by show _ ≤ (a.add (m * 10)).block; omega) _, bl⟩
  · rw [← flat_set (f := tkc) (k := 10) (fun _ => rfl) (d := tk0) T m 1 _ (.int .i64 v) hm (by decide) rfl]; exact own_put h.o1 (m * 10) 1 _
  · exact own_setK h.o2 (p := ⟨(a.add (m * 10)).block, (a.add (m * 10)).off + 1, none⟩) (own_apart h.o1 h.o2 (by decide) b2) _
  · exact own_setK h.o3 (p := ⟨(a.add (m * 10)).block, (a.add (m * 10)).off + 1, none⟩) (own_apart h.o1 h.o3 (by decide) b2) _
end
set_option maxHeartbeats 4000000 in
set_option maxRecDepth 100000 in
theorem good36_cfg (mn mx sw : Int) (ts : List Tk) (ls : List Ln) (hs : List Th) (A : Option Addr) (ca : Nat) (B : Option Addr) (cb : Nat) (D : Option Addr) (cd : Nat) (w : World)
    (hlt0 : ts.length ≤ 1048576) (hll : ls.length ≤ 1048576) (hlh : hs.length ≤ 1048576)
    (ht : Rd w A (ts.flatMap tkc)) (hl : Rd w B (ls.flatMap lnc)) (hh : Rd w D (hs.flatMap thc)) (hmx : I64 mx) (ht64 : ∀ p ∈ ts.map (·.prio) ++ hs.map (·.prio), I64 p) :
    Calls Tryz.prog 5 #[cfv mn mx sw A ts.length ca B ls.length cb D hs.length cd] w fun e w' => e = .returned (.bool true) ∧ Below w.heap.size w w' := by
  have c2 := Lib.hid (fun w ht hl hh => assign_any mn mx sw ts ls hs A ca B cb D cd w hlt0 hll hlh ht hl hh hmx ht64)
  have c0 := Lib.hid (fun w => lives36 w)
  have c5 := Lib.hid (fun A' ca' B' cb' D' cd' w a1 a2 a3 a4 a5 a6 => same26_one mn mx sw ts ls hs A' ca' B' cb' D' cd' A ca B cb D cd w hlt0 hll hlh a1 a2 a3 a4 a5 a6)
  have Ht := Lib.hid ht; have Hl := Lib.hid hl; have Hh := Lib.hid hh
  clear ht hl hh ht64
  by_cases hy : asgY mn mx sw ts ls hs = 0
  · obtain ⟨gf, hw0, hgf⟩ : ∃ gf, Cf.why ⟨mn, mx, sw, ts, ls, hs⟩ = 0 ∧ asgP mn mx sw ts ls hs = some gf := by
      unfold asgY at hy
      split at hy
      · rename_i h0
        cases hP : asgP mn mx sw ts ls hs with
        | none => rw [if_pos hP] at hy; cases hy
        | some gf => exact ⟨gf, h0, rfl⟩
      · exact absurd hy ‹_›
    have eT : asgT mn mx sw ts ls hs = putP ts gf := by unfold asgT; rw [hgf]; rfl
    obtain ⟨g1, g2, g3, g4⟩ := good_all hw0 hgf
    rw [hy, eT] at c2
    have c3 := Lib.hid (fun A ca B cb D cd w h1 h2 h3 => accept_any mn mx sw (putP ts gf) ls hs A ca B cb D cd w (by rw [putP_len]; exact hlt0) hll hlh h1 h2 h3 hmx g4)
    rw [g3, putP_len] at c3
    have HG1 := Lib.hid g1; have HG2 := Lib.hid g2
    have HPr := Lib.hid (putP_prios ts gf g1)
    clear hy eT g1 g2 g3 g4 hgf hw0 hmx
    unfold RetWi cfv at *
    go_enter Tryz.func5, Tryz.ntmps5
    go_upto_region 1 with fail
    refine name_world fun W hW => ?_
    have HC : Hid (W.heap[w.heap.size]? = some (.cells #[.int .i64 mn, .int .i64 mx, .int .i64 sw, .slice A ts.length ca, .slice B ls.length cb, .slice D hs.length cd] 28 (0, 0))) := Lib.hid (by rw [hW]; exact heap_alloc_new w _)
    have HB : Hid (Below w.heap.size w W) := Lib.hid (by rw [hW]; exact (Below.refl _ _).alloc (Nat.le_refl _) _)
    clear hW
    go_wp2_with fail
    refine (c0.out _).mono ?_
    rintro e w0 ⟨rfl, hb⟩
    have HB0 := Lib.hid (HB.out.trans (hb.mono HB.out.size))
    have HC0 := Lib.hid (box_keep HC.out hb)
    clear hb HC HB c0
    obtain ⟨cx, cy⟩ := box_rules HC0.out
    go_wp2_with fail
    refine (c2.out _ (Ht.out.below HB0.out) (Hl.out.below HB0.out) (Hh.out.below HB0.out)).mono ?_
    rintro e w1 ⟨-, hz, hb⟩
    obtain ⟨A1, a1, B1, b1, D1, d1, rfl, ho1, ho2, ho3⟩ := hz (by first | rfl | trivial)
    go_upto_region 4 with fail
    refine name_world fun V hV => ?_
    have HI : Hid (GdI mn mx sw ts.length ls.length hs.length w.heap.size w1.heap.size w0.heap.size A ca B cb D cd A1 a1 B1 b1 D1 d1 w (putP ts gf) ls hs V) := Lib.hid (by
      rw [hV]
      exact ⟨box_alloc (box_keep HC0.out hb) _, heap_alloc_new _ _, own_allocK ho1 _, own_allocK ho2 _, own_allocK ho3 _, (HB0.out.trans (hb.mono HB0.out.size)).alloc (by have := HB0.out.size; have := hb.size; omega) _, HB0.out.size⟩)
    clear hV hb ho1 ho2 ho3 hz cx cy HC0 HB0 c2
    have lq : w1.heap.size < V.heap.size := box_lt HI.out.boxd
    generalize w1.heap.size = bd at *
    generalize w0.heap.size = base at *
    obtain ⟨cx, cy⟩ := box_rules HI.out.boxc
    obtain ⟨dx, dy⟩ := box_rules HI.out.boxd
    go_wp2_with (go_at_call 17; refine (c3.out _ _ _ _ _ _ _ (own_rdK HI.out.o1) (own_rdK HI.out.o2) (own_rdK HI.out.o3)).mono ?_; rintro e w5 ⟨rfl, hb⟩; have HI5 := Lib.hid (HI.out.below hb); clear hb cx cy dx dy; obtain ⟨cx, cy⟩ := box_rules HI5.out.boxc; obtain ⟨dx, dy⟩ := box_rules HI5.out.boxd)
    clear HI lq
    go_loopw [39] (fun i wr => ∃ k : Nat, k ≤ ts.length ∧ i = .int .i64 k ∧ Hid (GdI mn mx sw ts.length ls.length hs.length w.heap.size bd base A ca B cb D cd A1 a1 B1 b1 D1 d1 w (putP ts gf) ls hs wr)) (fun i _ => ts.length - (intOf i).toNat)
    case atStart => exact ⟨0, by omega, rfl, HI5⟩
    case round =>
      obtain ⟨k, hk, rfl, HIr⟩ := hrel
      clear cx cy dx dy HI5
      obtain ⟨cx, cy⟩ := box_rules HIr.out.boxc
      obtain ⟨dx, dy⟩ := box_rules HIr.out.boxd
      have lc := box_lt HIr.out.boxc
      have ld := box_lt HIr.out.boxd
      by_cases hlt : k < ts.length
      · obtain ⟨a, x, rfl, hx, ⟨z0, z1, z2, z3⟩, z4, z5, z6, z7, z8, z9⟩ := (Ht.out.below HIr.out.low).tkAt hlt
        have hK := HG2.out k hlt
        rw [hx] at hK
        have HK := Lib.hid hK
        clear hK hx
        obtain ⟨x0, x1, x2, x3, x4, x5, x6, x7, x8, x9⟩ := x
        dsimp only at *
        go_upto_region 12 with fail
        refine name_world fun U hU => ?_
        have HX : Hid (U.heap[wr.heap.size]? = some (.cells #[.int .u8 x0, .int .i64 x1, .int .i64 x2, .int .i64 x3, .int .i64 x4, .int .i64 x5, .int .i64 x6, .int .i64 x7, .int .i64 x8, .int .i64 x9] 43 (0, 0))) := Lib.hid (by rw [hU]; exact heap_alloc_new _ _)
        have HIU := Lib.hid (HIr.out.below (show Below wr.heap.size wr U by rw [hU]; exact (Below.refl _ _).alloc (Nat.le_refl _) _))
        clear hU z0 z1 z2 z3 z4 z5 z6 z7 z8 z9 HIr cx cy dx dy lc ld
        generalize wr.heap.size = bx at *
        obtain ⟨dx, dy⟩ := box_rules HIU.out.boxd
        go_wp2
        go_loopw [7, 46] (fun m j wv => ∃ (j' : Nat) (mm : Nat), j' ≤ ts.length ∧ j = .int .i64 j' ∧ m = .int .i64 (mm : Int) ∧ mm ≤ j' ∧ Hid (mm = (gf.take j').count x1) ∧ Hid (GdI mn mx sw ts.length ls.length hs.length w.heap.size bd base (some a) ca B cb D cd A1 a1 B1 b1 D1 d1 w (putP ts gf) ls hs wv) ∧ Hid (wv.heap[bx]? = some (.cells #[.int .u8 x0, .int .i64 x1, .int .i64 x2, .int .i64 x3, .int .i64 x4, .int .i64 x5, .int .i64 x6, .int .i64 x7, .int .i64 x8, .int .i64 x9] 43 (0, 0)))) (fun _ j _ => ts.length - (intOf j).toNat)
        case atStart => exact ⟨0, 0, by omega, rfl, rfl, by omega, Lib.hid rfl, HIU, HX⟩
        case round =>
          obtain ⟨j, mm, hj, rfl, rfl, hmm, HM, HIv, HXv⟩ := hrel
          clear dx dy
          by_cases hlt2 : j < ts.length
          · obtain ⟨a2, y, rfl, hy, ⟨y0, y1, y2, y3⟩, y4, y5, y6, y7, y8, y9⟩ := (own_rdK HIv.out.o1).tkAt (show j < (putP ts gf).length by rw [putP_len]; exact hlt2)
            have hpy : y.prio = gf.getD j 0 := by rw [← hy, putP_get ts gf hlt2]
            have HS := Lib.hid (cnt_step (l := gf) (by rw [HG1.out]; exact hlt2) x1)
            rw [← hpy] at HS
            clear hy hpy
            obtain ⟨v0, v1, v2, v3, v4, v5, v6, v7, v8, v9⟩ := y
            dsimp only at *
            obtain ⟨xx, xy⟩ := box_rules HXv.out
            have lx := box_lt HXv.out
            have e1 : IntKind.i64.wrap ((mm : Int) + 1) = (mm : Int) + 1 := IntWalk.i64_in _ (by omega)
            by_cases he : v1 = x1
            · subst he
              rw [if_pos rfl] at HS
              go_wp2
              refine ⟨⟨j + 1, mm + 1, hlt2, by go_num, by go_num, by omega, Lib.hid (by rw [HS.out, ← HM.out]), Lib.hid (HIv.out.below ((Below.refl _ _).alloc (Nat.le_refl _) _)), Lib.hid (box_alloc HXv.out _)⟩, ?_⟩
              simp [intOf]; omega
            · rw [if_neg he] at HS
              have he2 : (v1 == x1) = false := by simpa using he
              go_wp2
              refine ⟨⟨j + 1, mm, hlt2, by go_num, rfl, by omega, Lib.hid (by rw [HS.out, ← HM.out]; rfl), Lib.hid (HIv.out.below ((Below.refl _ _).alloc (Nat.le_refl _) _)), Lib.hid (box_alloc HXv.out _)⟩, ?_⟩
              simp [intOf]; omega
          · obtain rfl : j = ts.length := by omega
            have hm1 : mm = 1 := by
              have := HM.out
              rw [List.take_of_length_le (by rw [HG1.out]; exact Nat.le_refl _), HK.out] at this
              exact this
            subst hm1
            go_wp2
            refine ⟨⟨k + 1, hlt, by go_num, HIv⟩, ?_⟩
            simp [intOf]; omega
      · obtain rfl : k = ts.length := by omega
        have HEnd : Hid (pK (putP ts gf) (ts.map (·.prio)) ts.length = ts) := Lib.hid (by
          have h1 : putP (putP ts gf) (ts.map (·.prio)) = ts := by rw [putP_put, putP_self]
          unfold putP at h1
          rw [pK_len] at h1
          exact h1)
        clear HG2 HPr HG1
        go_wp2
        go_loopw [64] (fun i wr => ∃ k : Nat, k ≤ ts.length ∧ i = .int .i64 k ∧ Hid (GdI mn mx sw ts.length ls.length hs.length w.heap.size bd base A ca B cb D cd A1 a1 B1 b1 D1 d1 w (pK (putP ts gf) (ts.map (·.prio)) k) ls hs wr)) (fun i _ => ts.length - (intOf i).toNat)
        case atStart => exact ⟨0, by omega, rfl, HIr⟩
        case round =>
          obtain ⟨k, hk, rfl, HIv⟩ := hrel
          clear cx cy dx dy lc ld
          obtain ⟨cx, cy⟩ := box_rules HIv.out.boxc
          obtain ⟨dx, dy⟩ := box_rules HIv.out.boxd
          by_cases hlt : k < ts.length
          · obtain ⟨a, x, rfl, hx, ⟨-, z1, -, -⟩, -⟩ := (Ht.out.below HIv.out.low).tkAt hlt
            have hkT : k < (pK (putP ts gf) (ts.map (·.prio)) k).length := by rw [pK_len, putP_len]; exact hlt
            obtain ⟨a2, y, rfl, hy, ⟨-, y1, -, -⟩, -⟩ := (own_rdK HIv.out.o1).tkAt hkT
            have fz := own_froz HIv.out.o1 (k * 10) 1
            have hxp : (ts.map (·.prio)).getD k 0 = x.prio := by rw [← hx]; simp [List.getD, hlt]
            have HV : Hid (pK (putP ts gf) (ts.map (·.prio)) (k + 1) = (pK (putP ts gf) (ts.map (·.prio)) k).set k { (pK (putP ts gf) (ts.map (·.prio)) k).getD k tk0 with prio := x.prio }) := Lib.hid (by rw [← hxp]; rfl)
            have HPut := Lib.hid (fun v => HIv.out.put hkT v)
            clear hx hxp hy
            generalize x.prio = xp at *
            generalize y.prio = yp at *
            go_upto_region 24 with fail
            refine still_tail 11 (by kernel_rfl) (by kernel_rfl) ?_
            simp only [List.take_succ_cons, List.take_zero, List.drop_succ_cons, List.drop_zero]
            repeat still_step
            refine wpStill_nil ?_
            go_wp2_with fail
            refine ⟨⟨k + 1, hlt, by go_num, Lib.hid (by rw [HV.out]; exact (HPut.out xp).drewN 1)⟩, ?_⟩
            simp [intOf]; omega
          · obtain rfl : k = ts.length := by omega
            rw [HEnd.out] at HIv
            have f5 := c5.out A1 a1 B1 b1 D1 d1 _ (own_rdK HIv.out.o1) (own_rdK HIv.out.o2) (own_rdK HIv.out.o3) (Ht.out.below HIv.out.low) (Hl.out.below HIv.out.low) (Hh.out.below HIv.out.low)
            go_wp2_with (go_at_call 14; refine f5.mono ?_; rintro e w9 ⟨rfl, hb⟩)
            go_ret
            exact ⟨by (first | rfl | simp), HIv.out.low.trans (hb.mono HIv.out.low.size)⟩
  · clear hmx c5
    have HY := Lib.hid hy
    generalize asgY mn mx sw ts ls hs = y at *
    generalize asgT mn mx sw ts ls hs = AT at *
    have hy2 : (y != 0) = true := by simpa using hy
    unfold RetWi cfv at *
    go_enter Tryz.func5, Tryz.ntmps5
    go_upto_region 1 with fail
    refine name_world fun W hW => ?_
    have HC : Hid (W.heap[w.heap.size]? = some (.cells #[.int .i64 mn, .int .i64 mx, .int .i64 sw, .slice A ts.length ca, .slice B ls.length cb, .slice D hs.length cd] 28 (0, 0))) := Lib.hid (by rw [hW]; exact heap_alloc_new w _)
    have HB : Hid (Below w.heap.size w W) := Lib.hid (by rw [hW]; exact (Below.refl _ _).alloc (Nat.le_refl _) _)
    clear hW
    go_wp2_with fail
    refine (c0.out _).mono ?_
    rintro e w0 ⟨rfl, hb⟩
    have HB0 := Lib.hid (HB.out.trans (hb.mono HB.out.size))
    have HC0 := Lib.hid (box_keep HC.out hb)
    clear hb HC HB c0
    obtain ⟨cx, cy⟩ := box_rules HC0.out
    go_wp2_with fail
    refine (c2.out _ (Ht.out.below HB0.out) (Hl.out.below HB0.out) (Hh.out.below HB0.out)).mono ?_
    rintro e w1 ⟨hn, -, hb⟩
    have HB1 := Lib.hid (HB0.out.trans (hb.mono HB0.out.size))
    have he := hn HY.out
    subst he
    clear hn hb cx cy HC0 HB0 c2 hy
    go_wp2
    go_ret
    exact ⟨by (first | rfl | simp), HB1.out.alloc HB1.out.size _⟩
end Go.Proofs.YtgampofpabllbaaGreat

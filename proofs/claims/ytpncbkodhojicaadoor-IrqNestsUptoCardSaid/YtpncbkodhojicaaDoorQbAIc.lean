/- Package irq: the walk of Run, to a line's end. Conditions: lines' memory. -/
import Derived.Test.YtpncbkodhojicaaDoorQaZIc
namespace Go.Proofs.YtpncbkodhojicaaDoor
open Go.RowKit Go.Shelf
variable {Bs : Nat → Prop}
attribute [local go_sem] Oper.semAt_some
theorem name_post {P : Program} {fn : Func} {R : Ending → World → Prop} {e : Exit} {a : Act} {w : World} (h : ∀ V, V = w → bodyPost P fn R e a V) : bodyPost P fn R e a w := h w rfl
theorem own_take {w : World} {base e k n m c g : Nat} {vs : List Value} (h : w.ownsRow base e k (.slice (some ⟨g, 0, none⟩) n c) n vs) (hm : m ≤ n) : w.ownsRow base e k (.slice (some ⟨g, 0, none⟩) m c) m (vs.take (m * k)) := by
  have hmk : m * k ≤ n * k := Nat.mul_le_mul_right _ hm
  refine ⟨by rw [List.length_take, h.1]; omega, ?_⟩
  rcases h.2 with ⟨h1, _⟩ | ⟨g', cap, cur, h1, h2, h3, h4, h5, h6, h7⟩
  · cases h1
  · injection h1 with h1 h8 h9
    injection h1 with h1
    injection h1 with h1
    subst h1 h9
    refine .inr ⟨g, _, cur, rfl, h2, h3, by omega, h5, h6, ?_⟩
    rw [← h7, List.take_take, Nat.min_eq_left hmk]
theorem own_capq {w : World} {base e k n c g : Nat} {vs : List Value} (h : w.ownsRow base e k (.slice (some ⟨g, 0, none⟩) n c) n vs) : n ≤ c := by
  rcases h.2 with ⟨h1, _⟩ | ⟨g', cap, cur, h1, h2, h3, h4, h5, h6, h7⟩
  · cases h1
  · injection h1 with h1 h8 h9
    subst h9
    exact h4
theorem flat_take {α : Type} {f : α → List Value} {k : Nat} (hk : ∀ x, (f x).length = k) : ∀ (l : List α) (m : Nat), m ≤ l.length → (l.flatMap f).take (m * k) = (l.take m).flatMap f
  | _, 0, _ => by simp
  | x :: l, m + 1, h => by
    rw [List.flatMap_cons, List.take_succ_cons, List.flatMap_cons, Nat.add_mul, Nat.one_mul, List.take_append, hk, show m * k + k - k = m * k by omega, flat_take hk l m (by simpa using h), List.take_of_length_le (by rw [hk]; omega)]
def dropS (s : Qs) : Qs := { s with bs := s.bs.take (s.bs.length - 1) }
theorem drop_qIC (s : Qs) : qIC (dropS s) = { qIC s with stack := (qIC s).stack.dropLast } := by
  have : (dropS s).bs.map (fun b => (b.line : Int)) = (s.bs.map fun b => (b.line : Int)).dropLast := by
    show (s.bs.take (s.bs.length - 1)).map _ = _
    rw [List.dropLast_eq_take, List.map_take, List.length_map]
  show IC.mk _ _ _ _ _ _ ((dropS s).bs.map fun b => (b.line : Int)) = _
  rw [this]
  rfl
theorem iqEnd {s : Qs} {n : Nat} {X : World} {pA : Option Addr} {pc : Nat} {tA : Option Addr} {tc : Nat} (hI : QI n s) (hb : s.bs.length ≠ 0) (hp : Rd X pA ((qIC s).prio.map (.int .i64))) (hs : Rd X tA ((qIC s).stack.map (.int .i64))) :
    Calls Tryd.prog 44 #[.agg #[.int .u64 (qIC s).p, .int .u64 (qIC s).e, .int .u64 (qIC s).r, .int .u64 (qIC s).g, .slice pA (qIC s).prio.length pc, .int .i64 (qIC s).t, .slice tA (qIC s).stack.length tc]] X fun e w' =>
      ∃ pA' pc' sA' sc', e = .returned (.tuple #[.agg #[.int .u64 (qIC s).p, .int .u64 (qIC s).e, .int .u64 (qIC s).r, .int .u64 (qIC s).g, .slice pA' (qIC s).prio.length pc', .int .i64 (qIC s).t, .slice sA' (s.bs.length - 1) sc'], .int .i64 (s.act.line : Int), .int .i64 0]) ∧
        Rd w' pA' ((qIC s).prio.map (.int .i64)) ∧ Rd w' sA' ((qIC s).stack.dropLast.map (.int .i64)) ∧ Below X.heap.size X w' ∧ New X.heap.size pA' sA' := by
  refine (end_any (qIC s) hI.fits pA pc tA tc X hp hs).mono fun e w' hq => ?_
  rw [q_end hI hb] at hq
  obtain ⟨pA', pc', sA', sc', rfl, h1, h2, h3, h4⟩ := hq
  refine ⟨pA', pc', sA', sc', ?_, h1, h2, h3, h4⟩
  unfold icv
  dsimp only
  rw [List.length_dropLast]
  have : (qIC s).stack.length = s.bs.length := by show (s.bs.map _).length = _; rw [List.length_map]
  rw [this]
theorem IqR.fin {n : Nat} {s : Qs} {f : IqF} {V V3 w4 X : World} {g : Nat} {pA : Option Addr} {pc : Nat} {tA : Option Addr} {tc : Nat} {pA4 : Option Addr} {pc4 : Nat} {sA4 : Option Addr} {sc4 : Nat} (h : IqR Bs V f s pA pc tA tc) (hI : QI n s) (hb : 0 < s.bs.length) (hg : f.sA = some ⟨g, 0, none⟩) (h3 : Tn [f.p] V V3) (hb4 : Below V3.heap.size V3 w4) (hx : Tn [f.p] w4 X)
    (hp4 : Rd w4 pA4 ((qIC s).prio.map (.int .i64))) (hs4 : Rd w4 sA4 ((qIC s).stack.dropLast.map (.int .i64))) (hn4 : New V3.heap.size pA4 sA4)
    (box : X.heap[f.p]? = some (.cells #[.int .u64 (qIC s).p, .int .u64 (qIC s).e, .int .u64 (qIC s).r, .int .u64 (qIC s).g, .slice pA4 (qIC s).prio.length pc4, .int .i64 (qIC s).t, .slice sA4 (s.bs.length - 1) sc4, .slice f.lA s.ls.length f.lc, .slice f.sA (s.bs.length - 1) f.sc, .int .u64 (mB s), .int .i64 s.last] 72 (0, 0))) : IqR Bs X f (dropS s) pA4 pc4 sA4 sc4 := by
  have hT : Tn [f.p] V X := (h3.below hb4).trans hx
  have hlt := h.lt
  have hps : f.p ∈ qL f s := mem_qL.2 (.inl rfl)
  have z3 := h3.size
  have hq := drop_qIC s
  have hl : (dropS s).bs.length = s.bs.length - 1 := by show (s.bs.take _).length = _; rw [List.length_take]; omega
  have hrows := h.rows
  refine h.upd (s' := dropS s) rfl ?_ ?_ ?_ (fun a ha hm => ?_) (fun a ha hb2 hm => ?_) ?_ ?_ ?_ ?_ rfl rfl (fun a ha hB => by have h7 := hn4.1 a ha; have h6 := h.bl _ hB; omega) (fun a ha _ hB => by have h7 := hn4.2 a ha; have h6 := h.bl _ hB; omega) hT.size
  · rw [hq, hl]
    show _ = some (Obj.cells #[_, _, _, _, _, _, .slice sA4 ((qIC s).stack.dropLast).length sc4, _, _, _, _] _ _)
    rw [List.length_dropLast, show (qIC s).stack.length = s.bs.length by show (s.bs.map _).length = _; rw [List.length_map]]
    exact box
  · rw [hq]
    exact hp4.tn hx (fun a ha hm => by have h7 := hn4.1 a ha; have h6 := hlt _ hps; have h5 := List.mem_singleton.1 hm; omega)
  · rw [hq]
    exact hs4.tn hx (fun a ha hm => by have h7 := hn4.2 a ha; have h6 := hlt _ hps; have h5 := List.mem_singleton.1 hm; omega)
  · have h7 := hn4.1 a ha; have h6 := hlt _ hm; omega
  · have h7 := hn4.2 a ha; have h6 := hlt _ hm; omega
  · rw [hq]; exact (qIC_ok hI).len1
  · exact own_tnq h.ll hT (fun b hb hm => by
      cases ha : f.lA with
      | none => rw [ha] at hb; cases hb
      | some a => rw [ha] at hb; injection hb with hb; exact (hrows.1 a ha) (hb.trans (List.mem_singleton.1 hm)))
  · rw [hl]
    have hsl := own_tnq h.sl hT (fun b hb hm => by
      rw [hg] at hb; injection hb with hb; exact (hrows.2.1 _ hg) (hb.trans (List.mem_singleton.1 hm)))
    rw [hg] at hsl ⊢
    have h9 := own_take hsl (show s.bs.length - 1 ≤ s.bs.length by omega)
    rw [flat_take (f := bqc) (k := 3) (fun _ => rfl) s.bs (s.bs.length - 1) (by omega)] at h9
    exact h9
  · intro x hx2
    have hap := h.apart hx2
    exact (h.ms x hx2).tn hT (fun hm => hap.1.1 (List.mem_singleton.1 hm)) (fun hm => hap.1.2 (List.mem_singleton.1 hm)) (Int.le_refl _)
/-- The last one has nothing left. -/
def zeroS (s : Qs) : Qs := { s with bs := s.bs.set (s.bs.length - 1) { s.act with left := 0 } }
theorem zero_qIC {s : Qs} (hb : 0 < s.bs.length) : qIC (zeroS s) = qIC s := by
  unfold qIC zeroS
  dsimp only
  rw [act_set hb]
  rfl
theorem zero_len (s : Qs) : (zeroS s).bs.length = s.bs.length := List.length_set
theorem zero_drop (s : Qs) : dropS (zeroS s) = dropS s := by
  unfold dropS
  rw [zero_len]
  have : (zeroS s).bs.take (s.bs.length - 1) = s.bs.take (s.bs.length - 1) := by
    show (s.bs.set _ _).take _ = _
    rw [List.take_set, List.set_eq_of_length_le (by rw [List.length_take]; omega)]
  rw [this]
  rfl
theorem QI.zero {n : Nat} {s : Qs} (h : QI n s) (hb : 0 < s.bs.length) : QI n (zeroS s) := by
  refine ⟨h.last, h.len, h.lines, fun b hb2 => ?_, fun b hb2 => ?_, ?_⟩
  · rcases List.mem_or_eq_of_mem_set hb2 with hb2 | rfl
    · exact h.bline b hb2
    · show s.act.line < s.ls.length
      exact h.bline _ (act_mem (by omega))
  · rcases List.mem_or_eq_of_mem_set hb2 with hb2 | rfl
    · exact h.bleft b hb2
    · show (0 : Int) ≤ 0 ∧ (0 : Int) ≤ 1099511627776
      omega
  · have e : (zeroS s).bs.map (fun b => (zeroS s).pr b.line) = s.bs.map fun b => s.pr b.line := by
      have h1 : (zeroS s).bs.map (fun b => (b.line : Int)) = s.bs.map fun b => (b.line : Int) := act_set hb 0
      have h2 : ∀ l : List Bq, l.map (fun b => s.pr b.line) = (l.map fun b => (b.line : Int)).map fun i => s.pr i.toNat := fun l => by
        rw [List.map_map]
        exact List.map_congr_left fun b _ => by simp
      have h3 : (zeroS s).bs.map (fun b => (zeroS s).pr b.line) = (zeroS s).bs.map fun b => s.pr b.line := rfl
      rw [h3, h2, h1, ← h2]
    rw [e]; exact h.bsort
set_option maxHeartbeats 16000000 in
set_option maxRecDepth 100000 in
theorem irun_done (f : IqF) (s : Qs) (n : Nat) (k : Int) (w : World) (h : IqM Bs w f s) (hI : QI n s) (hb : 0 < s.bs.length) (hk0 : 0 ≤ k) (hp : s.act.left = k) :
    Calls Tryd.prog 23 #[.pointer (some ⟨f.p, 0, none⟩), .int .i64 k] w (RetIq Bs f s (dropS s) (.tuple #[tpv s.act.line s.act.bottom, .bool true, .int .i64 0]) w) := by
  have H := Lib.hid h
  have hL : leftS s = s.act.left := if_neg (by omega)
  have fL := Lib.hid (fun X hX => ileft_any (Bs := Bs) f s n X hX hI)
  rw [hL] at fL
  have hbl := hI.bleft _ (act_mem (by omega))
  have b15 := hI.blen
  obtain ⟨pA, pc, tA, tc, hR⟩ := h
  obtain ⟨g, hg, _⟩ := own_headK hR.sl hb
  have HR := Lib.hid hR
  have HI := Lib.hid hI
  have HG := Lib.hid hg
  have HBp := Lib.hid hb
  obtain ⟨x, y⟩ := box_rules hR.box
  have l := box_lt hR.box
  rw [hg] at x
  obtain ⟨m, hm⟩ : ∃ m, s.bs.length - 1 = m := ⟨_, rfl⟩
  have HMm := Lib.hid hm
  obtain ⟨ln, hln⟩ : ∃ ln : Int, ((s.bs.length : Nat) : Int) = ln := ⟨_, rfl⟩
  obtain ⟨lm, hlm⟩ : ∃ lm : Int, (m : Int) = lm := ⟨_, rfl⟩
  have e1 : wrap64 (ln - 1) = lm := by rw [show ln - 1 = lm by omega]; exact Go.IntWalk.wrap64_in _ (by omega)
  have b1 : 0 ≤ lm := by omega
  have b2 : lm < ln := by omega
  have b3 : lm.toNat = m := by omega
  have z0 : (ln == 0) = false := beq_eq_false_iff_ne.2 (by omega)
  have HLf := Lib.hid hp
  rw [hp] at fL hbl
  have e2 : wrap64 (k - k) = 0 := by rw [Int.sub_self]; exact Go.IntWalk.wrap64_in _ (by omega)
  have z1 : decide (k < 0) = false := decide_eq_false (by omega)
  have q1 : ¬ k < 0 := by omega
  clear hR hg hb hm hlm hI hL hbl b15 hk0 hp
  unfold tpv
  go_enter Tryd.func23, Tryd.ntmps23
  go_upto_region 7 with (go_at_call 13; (with_reducible refine (fL.out _ (H.out.below ((Below.refl _ _).alloc (Nat.le_refl _) _))).mono ?_); rintro e w1 ⟨rfl, rfl⟩)
  refine name_world fun V hV => ?_
  have hbV : Below w.heap.size w V := by rw [hV]; exact (Below.refl _ _).alloc (Nat.le_refl _) _
  have HV : Hid (V.heap[w.heap.size]? = some (.cells #[.int .i64 0, .int .i64 0] 62 (0, 0))) := Lib.hid (by rw [hV]; exact heap_alloc_new _ _)
  have HRV := Lib.hid (HR.out.below hbV)
  have HBV := Lib.hid hbV
  obtain ⟨hgp, lg, fz, c0, c1, c2⟩ := HRV.out.lastb HBp.out HG.out
  rw [HMm.out] at c0 c1 c2
  rw [HLf.out] at c1
  have hgw : g < w.heap.size := HR.out.lt _ (mem_qL.2 (.inr (.inr (.inl ⟨_, HG.out, rfl⟩))))
  have HGw := Lib.hid hgw
  have HGp := Lib.hid hgp
  clear hV hbV x y l hgp
  go_upto_region 10 with fail
  refine name_world fun V2 hV2 => ?_
  have hR2 := HRV.out.less (w' := V2) HI.out HBp.out HG.out 0 (by rw [HMm.out]; exact hV2)
  have hT2 : Tn [g] V V2 := by rw [hV2]; exact (Tn.refl _ _).setCell (p := ⟨g, m * 3 + 1, none⟩) (by simp) _
  have HR2 := Lib.hid hR2
  have HX2 := Lib.hid (hT2.box HV.out (fun hm => by have h7 := List.mem_singleton.1 hm; omega))
  have HT2 := Lib.hid hT2
  have d0 : V2.cell? ⟨g, m * 3, none⟩ = some (.int .i64 s.act.line) := by rw [hV2]; exact cell_set_far c0 (by simp) _
  have d2 : V2.cell? ⟨g, m * 3 + 2, none⟩ = some (.int .i64 s.act.bottom) := by rw [hV2]; exact cell_set_far c2 (by simp) _
  have lg2 : g < V2.heap.size := Nat.lt_of_lt_of_le lg hT2.size
  clear hV2 hT2 hR2 c0 c1 c2 fz lg hgw
  go_cut [9] (fun v wx => v = .pointer (some ⟨V2.heap.size, 0, none⟩) ∧ Hid (wx.heap[V2.heap.size]? = some (.cells #[.int .i64 s.act.line, .int .i64 s.act.bottom] 62 (0, 0))) ∧ Hid (Below V2.heap.size V2 wx))
  case first =>
    go_region
    all_goals
      go_wp2_with fail
      go_meet
      exact ⟨rfl, Lib.hid (bdrq (heap_alloc_new _ _)), Lib.hid (((Below.refl _ _).alloc (Nat.le_refl _) _).drew)⟩
  case rest =>
  obtain ⟨rfl, HX9, HB9⟩ := hcut
  have HRc : Hid (IqR Bs wc f (zeroS s) pA pc tA tc) := Lib.hid (HR2.out.below HB9.out)
  have HX0 := Lib.hid (box_keep HX2.out HB9.out)
  have hbx := HRc.out.box
  rw [zero_qIC HBp.out, zero_len] at hbx
  have HBx := Lib.hid hbx
  have hwv : w.heap.size ≠ V2.heap.size := by have := box_lt HX2.out; omega
  clear d0 d2 lg2 hbx
  obtain ⟨x, y⟩ := box_rules HBx.out
  have l := box_lt HBx.out
  rw [HG.out] at x
  have b4 : lm ≤ ln := by omega
  have hcap : s.bs.length ≤ f.sc := by
    have h7 := HR.out.sl
    rw [HG.out] at h7
    exact own_capq h7
  have b5 : lm ≤ (f.sc : Int) := by omega
  have b6 : ¬ (f.sc : Int) < lm := by omega
  go_upto_region 12 with fail
  refine name_world fun V3 hV3 => ?_
  have hE3 := box_set (i := 8) HBx.out (.slice (some ⟨g, 0, none⟩) m f.sc)
  have hT3 : Tn [f.p] wc V3 := by rw [hV3]; exact (Tn.refl _ _).setCell (p := ⟨f.p, 8, none⟩) (by simp) _
  rw [← hV3] at hE3
  simp only [List.setIfInBounds_toArray, List.set_cons_zero, List.set_cons_succ] at hE3
  have HE3 := Lib.hid hE3
  have HT3 := Lib.hid hT3
  have hlt := HR.out.lt
  have hps : f.p ∈ qL f s := mem_qL.2 (.inl rfl)
  have HLt := Lib.hid hlt
  have hfw := hlt _ hps
  have HFw := Lib.hid hfw
  have HX93 := Lib.hid (hT3.box HX9.out (fun hm => by have h7 := List.mem_singleton.1 hm; have h6 := HBV.out.size; have h5 := HT2.out.size; omega))
  have HX03 := Lib.hid (hT3.box HX0.out (fun hm => by have h7 := List.mem_singleton.1 hm; omega))
  have hRd := HRc.out.rp
  have hRt := HRc.out.rt
  rw [zero_qIC HBp.out] at hRd hRt
  have hpq : ∀ a, pA = some a → a.block ∉ [f.p] := fun a ha hm => (HR.out.op a ha).2 (by rw [List.mem_singleton.1 hm]; exact hps)
  have htq : ∀ a, tA = some a → a.block ∉ [f.p] := fun a ha hm => (HR.out.ot a ha (fun e => by have h9 := HBp.out; rw [e] at h9; exact absurd h9 (Nat.lt_irrefl 0))).2 (by rw [List.mem_singleton.1 hm]; exact hps)
  have fE := Lib.hid (iqEnd (X := V3) (pc := pc) (tc := tc) HI.out (by have := HBp.out; omega) (hRd.tn hT3 hpq) (hRt.tn hT3 htq))
  rw [HMm.out] at fE
  have HPq := Lib.hid hpq; have HTq := Lib.hid htq
  clear hV3 hE3 hT3 hlt hps hfw hRd hRt hpq htq x y l
  obtain ⟨x, y⟩ := box_rules HE3.out
  have l := box_lt HE3.out
  go_upto_region 13 with (go_at_call 44; (with_reducible refine fE.out.mono ?_); rintro e w4 ⟨pA4, pc4, sA4, sc4, rfl, hp4, hs4, hb4, hn4⟩; have HP4 := Lib.hid hp4; have HS4 := Lib.hid hs4; have HB4 := Lib.hid hb4; have HN4 := Lib.hid hn4; have HE4 := Lib.hid (box_keep HE3.out hb4); clear hp4 hs4 hb4 hn4 x y l; obtain ⟨x, y⟩ := box_rules HE4.out; have l := box_lt HE4.out)
  refine name_world fun V5 hV5 => ?_
  obtain ⟨hE7, hT7⟩ := set7 HE4.out (.int .u64 (qIC s).p) (.int .u64 (qIC s).e) (.int .u64 (qIC s).r) (.int .u64 (qIC s).g) (.slice pA4 (qIC s).prio.length pc4) (.int .i64 (qIC s).t) (.slice sA4 m sc4)
  rw [← hV5] at hE7 hT7
  have HE7 := Lib.hid hE7
  have HT7 := Lib.hid hT7
  have z4 := HB4.out.size
  have HX95 := Lib.hid (hT7.box (box_keep HX93.out HB4.out) (fun hm => by have h7 := List.mem_singleton.1 hm; have h6 := HFw.out; have h5 := HBV.out.size; have h3 := HT2.out.size; omega))
  have HX05 := Lib.hid (hT7.box (box_keep HX03.out HB4.out) (fun hm => by have h7 := List.mem_singleton.1 hm; have h6 := HFw.out; omega))
  clear hV5 hE7 hT7 x y l
  obtain ⟨x9, y9⟩ := box_rules HX95.out
  have l9 := box_lt HX95.out
  obtain ⟨x0, y0⟩ := box_rules HX05.out
  have l0 := box_lt HX05.out
  go_wp2
  refine name_post fun V6 hV6 => ?_
  have hE6 := box_set (i := 1) (box_set (i := 0) HX05.out (.int .i64 (s.act.line : Int))) (.int .i64 s.act.bottom)
  have hT6 : Tn [w.heap.size] V5 V6 := by rw [hV6]; exact ((Tn.refl _ _).setCell (p := ⟨w.heap.size, 0, none⟩) (by simp) _).setCell (p := ⟨w.heap.size, 1, none⟩) (by simp) _
  rw [← hV6] at hE6
  obtain ⟨vx, vy⟩ := box_rules hE6
  clear hV6
  refine bodyPost_ret (v := .tuple #[.agg #[.int .i64 s.act.line, .int .i64 s.act.bottom], .bool true, .int .i64 0]) (by simp [results, Tryd.f23, go_sem, vx]) rfl ?_
  have hF := IqR.fin HRc.out (HI.out.zero HBp.out) (by rw [zero_len]; exact HBp.out) HG.out HT3.out HB4.out HT7.out (by rw [zero_qIC HBp.out]; exact HP4.out) (by rw [zero_qIC HBp.out]; exact HS4.out) HN4.out (by rw [zero_qIC HBp.out, zero_len, HG.out, HMm.out]; exact HE7.out)
  rw [zero_drop] at hF
  have hgq : g ∈ qL f s := mem_qL.2 (.inr (.inr (.inl ⟨_, HG.out, rfl⟩)))
  have hps : f.p ∈ qL f s := mem_qL.2 (.inl rfl)
  have hzV := HBV.out.size
  have t1 : Tn (qL f s) w V := ⟨HBV.out.os, HBV.out.tape, HBV.out.output, HBV.out.size, fun k hk _ => HBV.out.block k hk⟩
  have m1 : ∀ k ∈ [f.p], k ∈ qL f s := fun k hk => by rw [List.mem_singleton.1 hk]; exact hps
  have t2 := ((((((t1.trans (HT2.out.mono (fun k hk => by rw [List.mem_singleton.1 hk]; exact hgq))).below HB9.out).trans (HT3.out.mono m1)).below HB4.out).trans (HT7.out.mono m1)))
  have hz5 := HT7.out.size
  refine ⟨rfl, f, rfl, ⟨pA4, pc4, sA4, sc4, hF.tn hT6 (fun k hk hm => ?_) (fun a ha hm => ?_) (fun a ha hb hm => ?_)⟩, fun k hk => .inl hk, t2.trans2 hT6 (fun b hb => .inr (by rw [List.mem_singleton.1 hb]; exact Nat.le_refl _))⟩
  · have h7 := HLt.out k hk; have h6 := List.mem_singleton.1 hm; omega
  · have h7 := HN4.out.1 a ha; have h6 := List.mem_singleton.1 hm; have h5 := HT3.out.size; have h4 := HB9.out.size; have h3 := HT2.out.size; have h2 := box_lt HX2.out; omega
  · have h7 := HN4.out.2 a ha; have h6 := List.mem_singleton.1 hm; have h5 := HT3.out.size; have h4 := HB9.out.size; have h3 := HT2.out.size; have h2 := box_lt HX2.out; omega
end Go.Proofs.YtpncbkodhojicaaDoor

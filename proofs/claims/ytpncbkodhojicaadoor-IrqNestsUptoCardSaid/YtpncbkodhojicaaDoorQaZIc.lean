/- Package irq: the walk of Run. Conditions: lines' memory. -/
import Derived.Test.YtpncbkodhojicaaDoorQaYIc
namespace Go.Proofs.YtpncbkodhojicaaDoor
open Go.RowKit Go.Shelf
variable {Bs : Nat → Prop}
attribute [local go_sem] Oper.semAt_some
def tpv (line bottom : Int) : Value := .agg #[.int .i64 line, .int .i64 bottom]
theorem act_set {s : Qs} (h : 0 < s.bs.length) (v : Int) : (s.bs.set (s.bs.length - 1) { s.act with left := v }).map (fun b => (b.line : Int)) = s.bs.map fun b => (b.line : Int) := by
  rw [List.map_set]
  refine List.ext_getElem? fun j => ?_
  rw [List.getElem?_set]
  split
  · rename_i hj
    subst hj
    have hact : s.act = s.bs[s.bs.length - 1]'(by omega) := by
      unfold Qs.act
      rw [List.getD_eq_getElem?_getD, List.getElem?_eq_getElem (by omega)]; rfl
    rw [List.length_map, if_pos (by omega), List.getElem?_map, List.getElem?_eq_getElem (by omega), hact]; rfl
  · rfl
/-- The last one that is being served, in memory. -/
theorem IqR.lastb {w : World} {f : IqF} {s : Qs} {pA : Option Addr} {pc : Nat} {tA : Option Addr} {tc : Nat} (h : IqR Bs w f s pA pc tA tc) (hb : 0 < s.bs.length) {g : Nat} (hg : f.sA = some ⟨g, 0, none⟩) : g ≠ f.p ∧ g < w.heap.size ∧ (∀ j, w.frozen? ⟨g, j, none⟩ = false) ∧
    w.cell? ⟨g, (s.bs.length - 1) * 3, none⟩ = some (.int .i64 s.act.line) ∧ w.cell? ⟨g, (s.bs.length - 1) * 3 + 1, none⟩ = some (.int .i64 s.act.left) ∧ w.cell? ⟨g, (s.bs.length - 1) * 3 + 2, none⟩ = some (.int .i64 s.act.bottom) := by
  have hsl := h.sl
  rw [hg] at hsl
  obtain ⟨g', hg', cur, hcur⟩ := own_headK hsl hb
  cases hg'
  refine ⟨h.rows.2.1 _ hg, box_lt hcur, (box_rules hcur).2, (own_get (j := 0) hsl (fun _ => rfl) bq0 (i := s.bs.length - 1) (by omega) (by decide) (v := .int .i64 s.act.line) (by rw [act_get hb]; rfl)).1, (own_get (j := 1) hsl (fun _ => rfl) bq0 (i := s.bs.length - 1) (by omega) (by decide) (v := .int .i64 s.act.left) (by rw [act_get hb]; rfl)).1, (own_get (j := 2) hsl (fun _ => rfl) bq0 (i := s.bs.length - 1) (by omega) (by decide) (v := .int .i64 s.act.bottom) (by rw [act_get hb]; rfl)).1⟩
/-- The last one has less left. -/
theorem IqR.less {w w' : World} {f : IqF} {s : Qs} {pA : Option Addr} {pc : Nat} {tA : Option Addr} {tc : Nat} {n : Nat} (h : IqR Bs w f s pA pc tA tc) (hI : QI n s) (hb : 0 < s.bs.length) {g : Nat} (hg : f.sA = some ⟨g, 0, none⟩) (v : Int) (hw : w' = w.setCell ⟨g, (s.bs.length - 1) * 3 + 1, none⟩ (.int .i64 v)) :
    IqR Bs w' f { s with bs := s.bs.set (s.bs.length - 1) { s.act with left := v } } pA pc tA tc := by
  have hT : Tn [g] w w' := by rw [hw]; exact (Tn.refl _ _).setCell (p := ⟨g, (s.bs.length - 1) * 3 + 1, none⟩) (by simp) _
  have hgq : g ∈ qL f s := mem_qL.2 (.inr (.inr (.inl ⟨_, hg, rfl⟩)))
  have hq : qIC { s with bs := s.bs.set (s.bs.length - 1) { s.act with left := v } } = qIC s := by
    unfold qIC
    dsimp only
    rw [act_set hb]
    rfl
  have hne := (h.lastb hb hg).1
  have hl : (s.bs.set (s.bs.length - 1) { s.act with left := v }).length = s.bs.length := List.length_set
  refine h.upd (s' := { s with bs := s.bs.set (s.bs.length - 1) { s.act with left := v } }) rfl ?_ ?_ ?_ (fun a ha => (h.op a ha).2) (fun a ha hb2 => (h.ot a ha (fun e => by rw [e] at hb; exact absurd hb (Nat.lt_irrefl 0))).2) ?_ ?_ ?_ ?_ rfl rfl h.bp (fun a ha _ => h.bt a ha (fun e => by rw [e] at hb; exact absurd hb (Nat.lt_irrefl 0))) hT.size
  · rw [hq]
    show w'.heap[f.p]? = some (Obj.cells #[_, _, _, _, _, _, _, _, .slice f.sA (s.bs.set _ _).length f.sc, _, _] _ _)
    rw [hl]
    exact hT.box h.box (fun hm => hne (List.mem_singleton.1 hm).symm)
  · rw [hq]
    exact h.rp.tn hT (fun a ha hm => (h.op a ha).2 (by rw [List.mem_singleton.1 hm]; exact hgq))
  · rw [hq]
    exact h.rt.tn hT (fun a ha hm => (h.ot a ha (fun e => by rw [e] at hb; exact absurd hb (Nat.lt_irrefl 0))).2 (by rw [List.mem_singleton.1 hm]; exact hgq))
  · rw [hq]; exact (qIC_ok hI).len1
  · exact own_tnq h.ll hT (fun b hb2 hm => by
      cases ha : f.lA with
      | none => rw [ha] at hb2; cases hb2
      | some a => rw [ha] at hb2; injection hb2 with hb2; exact h.rows.2.2 a _ ha hg (hb2.trans (List.mem_singleton.1 hm)))
  · show w'.ownsRow 0 _ 3 (.slice f.sA (s.bs.set _ _).length f.sc) (s.bs.set _ _).length ((s.bs.set (s.bs.length - 1) { s.act with left := v }).flatMap bqc)
    rw [hl, hg, hw, ← flat_set (f := bqc) (k := 3) (fun _ => rfl) (d := bq0) s.bs (s.bs.length - 1) 1 { s.act with left := v } (.int .i64 v) (by omega) (by decide) (by rw [act_get hb]; rfl)]
    have hsl := h.sl
    rw [hg] at hsl
    exact own_cellq hsl _ _
  · intro x hx
    have hap := (h.apart hx).2.2 _ hg
    exact (h.ms x hx).tn hT (fun hm => hap.1 (List.mem_singleton.1 hm)) (fun hm => hap.2 (List.mem_singleton.1 hm)) (Int.le_refl _)
set_option maxHeartbeats 4000000 in
set_option maxRecDepth 100000 in
theorem irun_none (f : IqF) (s : Qs) (k : Int) (w : World) (h : IqM Bs w f s) (hb : s.bs.length = 0) :
    Calls Tryd.prog 23 #[.pointer (some ⟨f.p, 0, none⟩), .int .i64 k] w (RetIq Bs f s s (.tuple #[tpv 0 0, .bool false, .int .i64 7]) w) := by
  have H := Lib.hid h
  obtain ⟨pA, pc, tA, tc, hR⟩ := h
  obtain ⟨x, y⟩ := box_rules hR.box
  have l := box_lt hR.box
  rw [hb] at x
  clear hR hb
  unfold tpv
  go_enter Tryd.func23, Tryd.ntmps23
  go_wp2
  refine bodyPost_ret (v := .tuple #[.agg #[.int .i64 0, .int .i64 0], .bool false, .int .i64 7]) (by simp [results, Tryd.f23, go_sem]) rfl ?_
  have hb2 : ∀ X : World, X = X := fun _ => rfl
  exact ⟨rfl, f, rfl, H.out.below (by
    repeat (with_reducible first | exact Below.refl _ _ | refine Below.setCell ?_ (Nat.le_refl _) _ | refine Below.alloc ?_ (Nat.le_refl _) _)), fun k hk => .inl hk, (Tn.refl _ _).below (by
    repeat (with_reducible first | exact Below.refl _ _ | refine Below.setCell ?_ (Nat.le_refl _) _ | refine Below.alloc ?_ (Nat.le_refl _) _))⟩
set_option maxHeartbeats 4000000 in
set_option maxRecDepth 100000 in
theorem irun_bad (f : IqF) (s : Qs) (n : Nat) (k : Int) (w : World) (h : IqM Bs w f s) (hI : QI n s) (hb : 0 < s.bs.length) (hk : k < 0 ∨ leftS s < k) :
    Calls Tryd.prog 23 #[.pointer (some ⟨f.p, 0, none⟩), .int .i64 k] w (RetIq Bs f s s (.tuple #[tpv 0 0, .bool false, .int .i64 1]) w) := by
  have H := Lib.hid h
  have fL := Lib.hid (fun X hX => ileft_any (Bs := Bs) f s n X hX hI)
  obtain ⟨pA, pc, tA, tc, hR⟩ := h
  obtain ⟨x, y⟩ := box_rules hR.box
  have l := box_lt hR.box
  obtain ⟨ln, hln⟩ : ∃ ln : Int, ((s.bs.length : Nat) : Int) = ln := ⟨_, rfl⟩
  have z0 : (ln == 0) = false := beq_eq_false_iff_ne.2 (by omega)
  generalize leftS s = lf at *
  clear hR hb hI
  unfold tpv
  by_cases q1 : k < 0
  · have z1 : decide (k < 0) = true := decide_eq_true q1
    clear hk
    go_enter Tryd.func23, Tryd.ntmps23
    go_wp2
    refine bodyPost_ret (v := .tuple #[.agg #[.int .i64 0, .int .i64 0], .bool false, .int .i64 1]) (by simp [results, Tryd.f23, go_sem]) rfl ?_
    exact ⟨rfl, f, rfl, H.out.below (by
      repeat (with_reducible first | exact Below.refl _ _ | refine Below.setCell ?_ (Nat.le_refl _) _ | refine Below.alloc ?_ (Nat.le_refl _) _)), fun k hk => .inl hk, (Tn.refl _ _).below (by
      repeat (with_reducible first | exact Below.refl _ _ | refine Below.setCell ?_ (Nat.le_refl _) _ | refine Below.alloc ?_ (Nat.le_refl _) _))⟩
  · have z1 : decide (k < 0) = false := decide_eq_false q1
    have q2 : lf < k := by omega
    have z2 : decide (lf < k) = true := decide_eq_true q2
    clear hk
    go_enter Tryd.func23, Tryd.ntmps23
    go_wp2_with (go_at_call 13; (with_reducible refine (fL.out _ (H.out.below ((Below.refl _ _).alloc (Nat.le_refl _) _))).mono ?_); rintro e w1 ⟨rfl, rfl⟩)
    refine bodyPost_ret (v := .tuple #[.agg #[.int .i64 0, .int .i64 0], .bool false, .int .i64 1]) (by simp [results, Tryd.f23, go_sem]) rfl ?_
    exact ⟨rfl, f, rfl, H.out.below (by
      repeat (with_reducible first | exact Below.refl _ _ | refine Below.setCell ?_ (Nat.le_refl _) _ | refine Below.alloc ?_ (Nat.le_refl _) _)), fun k hk => .inl hk, (Tn.refl _ _).below (by
      repeat (with_reducible first | exact Below.refl _ _ | refine Below.setCell ?_ (Nat.le_refl _) _ | refine Below.alloc ?_ (Nat.le_refl _) _))⟩
set_option maxHeartbeats 8000000 in
set_option maxRecDepth 100000 in
theorem irun_part (f : IqF) (s : Qs) (n : Nat) (k : Int) (w : World) (h : IqM Bs w f s) (hI : QI n s) (hb : 0 < s.bs.length) (hk0 : 0 ≤ k) (hk1 : k ≤ s.act.left) (hp : s.act.left - k ≠ 0) :
    Calls Tryd.prog 23 #[.pointer (some ⟨f.p, 0, none⟩), .int .i64 k] w (RetIq Bs f s { s with bs := s.bs.set (s.bs.length - 1) { s.act with left := s.act.left - k } } (.tuple #[tpv 0 0, .bool false, .int .i64 0]) w) := by
  have H := Lib.hid h
  have hL : leftS s = s.act.left := if_neg (by omega)
  have fL := Lib.hid (fun X hX => ileft_any (Bs := Bs) f s n X hX hI)
  rw [hL] at fL
  have hbl := hI.bleft _ (act_mem (by omega))
  have b15 := hI.blen
  obtain ⟨pA, pc, tA, tc, hR⟩ := h
  obtain ⟨g, hg, _⟩ := own_headK hR.sl hb
  have HR := Lib.hid hR
  have HI := Lib.hid hI
  have HG := Lib.hid hg
  have HBp := Lib.hid hb
  obtain ⟨x, y⟩ := box_rules hR.box
  have l := box_lt hR.box
  rw [hg] at x
  obtain ⟨m, hm⟩ : ∃ m, s.bs.length - 1 = m := ⟨_, rfl⟩
  have HMm := Lib.hid hm
  obtain ⟨ln, hln⟩ : ∃ ln : Int, ((s.bs.length : Nat) : Int) = ln := ⟨_, rfl⟩
  obtain ⟨lm, hlm⟩ : ∃ lm : Int, (m : Int) = lm := ⟨_, rfl⟩
  have e1 : wrap64 (ln - 1) = lm := by rw [show ln - 1 = lm by omega]; exact Go.IntWalk.wrap64_in _ (by omega)
  have b1 : 0 ≤ lm := by omega
  have b2 : lm < ln := by omega
  have b3 : lm.toNat = m := by omega
  have z0 : (ln == 0) = false := beq_eq_false_iff_ne.2 (by omega)
  obtain ⟨lf, hlf⟩ : ∃ lf, s.act.left = lf := ⟨_, rfl⟩
  have HLf := Lib.hid hlf
  rw [hlf] at fL hbl hk1 hp
  obtain ⟨lv, hlv⟩ : ∃ lv, lf - k = lv := ⟨_, rfl⟩
  have HLv := Lib.hid hlv
  rw [hlv] at hp
  have e2 : wrap64 (lf - k) = lv := by rw [hlv]; exact Go.IntWalk.wrap64_in _ (by omega)
  have z1 : decide (k < 0) = false := decide_eq_false (by omega)
  have z2 : decide (lf < k) = false := decide_eq_false (by omega)
  have z3 : decide (0 < lv) = true := decide_eq_true (by omega)
  have q1 : ¬ k < 0 := by omega
  have q2 : ¬ lf < k := by omega
  have q3 : 0 < lv := by omega
  clear hR hg hb hm hlm hlf hlv hI hL hbl b15 hk0 hk1 hp
  unfold tpv
  go_enter Tryd.func23, Tryd.ntmps23
  go_upto_region 7 with (go_at_call 13; (with_reducible refine (fL.out _ (H.out.below ((Below.refl _ _).alloc (Nat.le_refl _) _))).mono ?_); rintro e w1 ⟨rfl, rfl⟩)
  refine name_world fun V hV => ?_
  have hbV : Below w.heap.size w V := by rw [hV]; exact (Below.refl _ _).alloc (Nat.le_refl _) _
  have HV : Hid (V.heap[w.heap.size]? = some (.cells #[.int .i64 0, .int .i64 0] 62 (0, 0))) := Lib.hid (by rw [hV]; exact heap_alloc_new _ _)
  have HRV := Lib.hid (HR.out.below hbV)
  have HBV := Lib.hid hbV
  obtain ⟨hgp, lg, fz, c0, c1, c2⟩ := HRV.out.lastb HBp.out HG.out
  rw [HMm.out] at c0 c1 c2
  rw [HLf.out] at c1
  have hgw : g < w.heap.size := HR.out.lt _ (mem_qL.2 (.inr (.inr (.inl ⟨_, HG.out, rfl⟩))))
  have HGw := Lib.hid hgw
  clear hV hbV x y l hgp
  obtain ⟨x8, y8⟩ := box_rules HV.out
  have l8 := box_lt HV.out
  go_upto_region 9 with fail
  refine name_world fun V2 hV2 => ?_
  have HR2 := Lib.hid (HRV.out.less (w' := V2) HI.out HBp.out HG.out lv (by rw [HMm.out]; exact hV2))
  have hT2 : Tn [g] V V2 := by rw [hV2]; exact (Tn.refl _ _).setCell (p := ⟨g, m * 3 + 1, none⟩) (by simp) _
  have HX2 := Lib.hid (hT2.box HV.out (fun hm => by have h7 := List.mem_singleton.1 hm; omega))
  have HT2 := Lib.hid hT2
  clear hV2 hT2 x8 y8 l8 c0 c1 c2 fz lg hgw
  obtain ⟨x8, y8⟩ := box_rules HX2.out
  have l8 := box_lt HX2.out
  go_wp2
  refine bodyPost_ret (v := .tuple #[.agg #[.int .i64 0, .int .i64 0], .bool false, .int .i64 0]) (by simp [results, Tryd.f23, go_sem, x8]) rfl ?_
  rw [HLf.out, HLv.out]
  have hT3 : Tn [w.heap.size] V2 ((V2.setCell ⟨w.heap.size, 0, none⟩ (.int .i64 0)).setCell ⟨w.heap.size, 1, none⟩ (.int .i64 0)) := ((Tn.refl _ _).setCell (p := ⟨w.heap.size, 0, none⟩) (by simp) _).setCell (p := ⟨w.heap.size, 1, none⟩) (by simp) _
  have hlt := HR.out.lt
  refine ⟨rfl, f, rfl, ⟨pA, pc, tA, tc, HR2.out.tn hT3 (fun k hk hm => ?_) (fun a ha hm => ?_) (fun a ha hb hm => ?_)⟩, fun k hk => .inl hk, ?_⟩
  · have h7 := hlt k hk; have h6 := List.mem_singleton.1 hm; omega
  · have h7 := (HR.out.op a ha).1; have h6 := List.mem_singleton.1 hm; omega
  · have h7 := (HR.out.ot a ha (fun e => by have h9 := HBp.out; rw [e] at h9; exact absurd h9 (Nat.lt_irrefl 0))).1; have h6 := List.mem_singleton.1 hm; omega
  · have hgq : g ∈ qL f s := mem_qL.2 (.inr (.inr (.inl ⟨_, HG.out, rfl⟩)))
    have t1 : Tn (qL f s) w V := ⟨HBV.out.os, HBV.out.tape, HBV.out.output, HBV.out.size, fun k hk _ => HBV.out.block k hk⟩
    exact (t1.trans (HT2.out.mono (fun k hk => by rw [List.mem_singleton.1 hk]; exact hgq))).trans2 hT3 (fun b hb => .inr (by rw [List.mem_singleton.1 hb]; exact Nat.le_refl _))
end Go.Proofs.YtpncbkodhojicaaDoor

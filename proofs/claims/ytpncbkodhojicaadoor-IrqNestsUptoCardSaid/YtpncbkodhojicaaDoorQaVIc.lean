/- Package irq: the walk of Take. Conditions: lines' memory, the de Bruijn table. -/
import Derived.Test.YtpncbkodhojicaaDoorQaXIc
import Derived.Deep.LoopGhost
import Derived.Deep.RegionLaw
namespace Go.Proofs.YtpncbkodhojicaaDoor
open Go.RowKit Go.Shelf
variable {Bs : Nat → Prop}
attribute [local go_sem] Oper.semAt_some
/-- Where Take stands: the lines, what it will come to. -/
structure TkS (Bs : Nat → Prop) (f : IqF) (s : Qs) (n : Nat) (now : Int) (w wr : World) (k : Nat) (f' : IqF) (r : Qs) (R : Qs × Int × Bool) : Prop where
  run : takeS now k r = R
  fuel : r.open' < k
  qi : QI n r
  last : r.last = now
  mem : IqM Bs wr f' r
  p : f'.p = f.p
  new : ∀ b ∈ qL f' r, b ∈ qL f s ∨ w.heap.size ≤ b
  tn : Tn (qL f s) w wr
theorem Tab.tnq {F : List Nat} {w w' : World} (h : Tab w) (ht : Tn F w w') (hg : 0 ∉ F) : Tab w' := fun j hj => ht.cell (h j hj) hg
theorem sl_begun : SlK Tryd.prog 70 92 3 24 := SlK.mk' (z := .agg #[.int .i64 0, .int .i64 0, .int .i64 0]) Tryd.underlying70 (by kernel_rfl) rfl (by decide)
theorem pick_put {s : Qs} {i : Nat} {x : Lq} (hi : i < s.ls.length) (h1 : x.how = (s.ln i).how) (h2 : x.masked = (s.ln i).masked) (h3 : x.pending = (s.ln i).pending) : ∀ k, pickQ (s.put i x) k = pickQ s k
  | 0 => by
    have hm : (s.put i x).most = s.most := by
      unfold Qs.most
      show (if s.bs.length = 0 then 0 else (s.put i x).pr s.act.line) = _
      rw [put_pr hi h1]
    rw [pickQ, pickQ, hm]
  | k + 1 => by
    have hm : (s.put i x).may k = s.may k := by
      unfold Qs.may
      rw [put_ln hi]
      by_cases hk : k = i
      · subst hk; rw [if_pos rfl, h2, h3]; rfl
      · rw [if_neg hk]; rfl
    rw [pickQ, pickQ, pick_put hi h1 h2 h3 k, hm, put_pr hi h1]
theorem next_put {s : Qs} {i : Nat} {x : Lq} (hi : i < s.ls.length) (h1 : x.how = (s.ln i).how) (h2 : x.masked = (s.ln i).masked) (h3 : x.pending = (s.ln i).pending) : (s.put i x).next = s.next := by
  unfold Qs.next
  rw [put_len, pick_put hi h1 h2 h3]
theorem enter_same (x : Lq) (now : Int) : (x.enter now).how = x.how ∧ (x.enter now).masked = x.masked ∧ (x.enter now).pending = x.pending ∧ (x.enter now).top = x.top ∧ (x.enter now).bottom = x.bottom ∧ (x.enter now).served = x.served ∧ (x.enter now).mb = x.mb ∧ (x.enter now).mg = x.mg := by
  unfold Lq.enter; split <;> exact ⟨rfl, rfl, rfl, rfl, rfl, rfl, rfl, rfl⟩
theorem iqAck {f : IqF} {s : Qs} {n i : Nat} {w : World} {pA : Option Addr} {pc : Nat} {tA : Option Addr} {tc : Nat} (h : IqR Bs w f s pA pc tA tc) (hI : QI n s) (hi : i < s.ls.length) (hn : s.next = (i : Int)) (hT : Tab w) :
    Calls Tryd.prog 42 #[.agg #[.int .u64 (qIC s).p, .int .u64 (qIC s).e, .int .u64 (qIC s).r, .int .u64 (qIC s).g, .slice pA (qIC s).prio.length pc, .int .i64 (qIC s).t, .slice tA (qIC s).stack.length tc]] w fun e w' =>
      ∃ pA' pc' sA' sc', e = .returned (.tuple #[.agg #[.int .u64 ((setB (qIC s).p i false : Nat) : Int), .int .u64 (qIC s).e, .int .u64 (qIC s).r, .int .u64 (qIC s).g, .slice pA' (qIC s).prio.length pc', .int .i64 (qIC s).t, .slice sA' ((qIC s).stack.length + 1) sc'], .int .i64 (i : Int), .int .i64 0]) ∧
        Rd w' pA' ((qIC s).prio.map (.int .i64)) ∧ Rd w' sA' (((qIC s).stack ++ [(i : Int)]).map (.int .i64)) ∧ Below w.heap.size w w' ∧ New w.heap.size pA' sA' := by
  refine (ack_any (qIC s) hI.fits pA pc tA tc w h.rp h.rt hT).mono fun e w' hq => ?_
  rw [q_ack hI hi hn] at hq
  obtain ⟨pA', pc', sA', sc', rfl, h1, h2, h3, h4⟩ := hq
  refine ⟨pA', pc', sA', sc', ?_, h1, h2, h3, h4⟩
  unfold icv
  dsimp only
  rw [List.length_append]
  rfl
theorem countP_le {α : Type} (p : α → Bool) (l : List α) : l.countP p ≤ l.length := List.countP_le_length
theorem iqNext {f : IqF} {s : Qs} {n : Nat} {w : World} {pA : Option Addr} {pc : Nat} {tA : Option Addr} {tc : Nat} (h : IqR Bs w f s pA pc tA tc) (hI : QI n s) (hT : Tab w) :
    Calls Tryd.prog 39 #[.agg #[.int .u64 (qIC s).p, .int .u64 (qIC s).e, .int .u64 (qIC s).r, .int .u64 (qIC s).g, .slice pA (qIC s).prio.length pc, .int .i64 (qIC s).t, .slice tA (qIC s).stack.length tc]] w fun e w' => e = .returned (.tuple #[.int .i64 (if s.next = -1 then 0 else s.next), .int .i64 (if s.next = -1 then 3 else 0)]) ∧ Below w.heap.size w w' := by
  refine (nextC_any (qIC s) hI.fits pA pc tA tc w h.rp h.rt hT).mono fun e w' hq => ?_
  rw [q_next hI] at hq
  obtain ⟨rfl, hb⟩ := hq
  refine ⟨?_, hb⟩
  split <;> rfl
set_option maxHeartbeats 16000000 in
set_option maxRecDepth 100000 in
theorem itake_ok (f : IqF) (s : Qs) (n : Nat) (now : Int) (w : World) (h : IqM Bs w f s) (hI : QI n s) (hc : timeC s now = true) (hn : n ≤ 1048576) (hT : Tab w) (hg : 0 ∉ qL f s) :
    Calls Tryd.prog 21 #[.pointer (some ⟨f.p, 0, none⟩), .int .i64 now] w (RetIq Bs f s (takeS now (s.ls.length + 1) (s.at' now)).1 (.tuple #[.int .i64 (takeS now (s.ls.length + 1) (s.at' now)).2.1, .bool (takeS now (s.ls.length + 1) (s.at' now)).2.2, .int .i64 0]) w) := by
  have fT := Lib.hid (itell_ok f s n now w h hI hc)
  obtain ⟨R, hR⟩ : ∃ R, takeS now (s.ls.length + 1) (s.at' now) = R := ⟨_, rfl⟩
  have hI2 := hI.at hc
  have HS0 : Hid (∀ wr f', IqM Bs wr f' (s.at' now) → f'.p = f.p → (∀ b ∈ qL f' (s.at' now), b ∈ qL f s ∨ w.heap.size ≤ b) → Tn (qL f s) w wr → TkS Bs f s n now w wr (s.ls.length + 1) f' (s.at' now) R) := Lib.hid (fun wr f' a b c d => ⟨hR, Nat.lt_succ_of_le (List.countP_le_length), hI2, rfl, a, b, c, d⟩)
  have HTb : Hid (∀ wr, Tn (qL f s) w wr → Tab wr) := Lib.hid (fun wr ht => hT.tnq ht hg)
  rw [hR]
  have HNb := Lib.hid hn
  clear hR hI2 hI hc hT hg h hn
  unfold RetIq at fT
  go_enter Tryd.func21, Tryd.ntmps21
  go_wp2
  go_step3
  go_wp2_with (go_at_call 38; (with_reducible refine fT.out.mono ?_); rintro e w1 ⟨rfl, f1, hf1, hm1, hn1, ht1⟩; have HS1 := Lib.hid (HS0.out w1 f1 hm1 hf1 hn1 ht1); clear hf1 hm1 hn1 ht1)
  go_step3
  clear HS0 fT
  go_wp2_with fail
  go_loopg [8, 9] (s.ls.length + 1) (fun k _ _ wr => ∃ f' r, Hid (TkS Bs f s n now w wr k f' r R))
  case atStart => exact ⟨f1, _, HS1⟩
  case round =>
    obtain ⟨f', r, HR⟩ := hrel
    obtain ⟨pA, pc, tA, tc, hM⟩ := HR.out.mem
    have HM := Lib.hid hM
    have HP := Lib.hid HR.out.p
    have fN := Lib.hid (iqNext hM HR.out.qi (HTb.out _ HR.out.tn))
    obtain ⟨x, y⟩ := box_rules hM.box
    have l := box_lt hM.box
    rw [HR.out.p] at x y l
    clear hM
    rcases next_or r with hx | ⟨i, hi, hx, hmay, hmost⟩
    · have HRr : Hid (R = (r, 0, false)) := Lib.hid (by
        obtain ⟨k', hk'⟩ : ∃ k', gk = k' + 1 := ⟨gk - 1, by have := HR.out.fuel; omega⟩
        have h9 := HR.out.run
        rw [hk', takeS, if_pos (by omega)] at h9
        exact h9.symm)
      simp only [hx, if_pos] at fN
      clear hx
      go_wp2_with (go_at_call 39; (with_reducible refine fN.out.mono ?_); rintro e w2 ⟨rfl, hb2⟩; have HB2 := Lib.hid hb2; clear hb2)
      rw [Exit.noGoto_ret]
      refine bodyPost_ret (v := .tuple #[.int .i64 0, .bool false, .int .i64 0]) (by simp [results, Tryd.f21, go_sem]) rfl ?_
      rw [HRr.out]
      exact ⟨rfl, f', HR.out.p, HR.out.mem.below HB2.out, HR.out.new, HR.out.tn.below HB2.out⟩
    · have hnn : ¬ ((i : Int) = -1) := by omega
      rw [hx] at fN
      simp only [if_neg hnn] at fN
      have HX := Lib.hid hx; have HIi := Lib.hid hi; have HMy := Lib.hid hmay; have HMo := Lib.hid hmost
      clear hx hi hmay hmost hnn
      obtain ⟨g, hg, hgp, _⟩ := HM.out.line HIi.out
      have HG := Lib.hid hg
      have hlen : (i : Int) < (r.ls.length : Int) := by have := HIi.out; omega
      rw [hg] at x
      clear hg hgp
      go_upto_region 7 with (go_at_call 39; (with_reducible refine fN.out.mono ?_); rintro e w2 ⟨rfl, hb2⟩; have HM2 := Lib.hid (HM.out.below hb2); have HMm2 := Lib.hid (HR.out.mem.below hb2); have HT2 := Lib.hid (HR.out.tn.below hb2); clear hb2 x y l; obtain ⟨x, y⟩ := box_rules HM2.out.box; have l := box_lt HM2.out.box; rw [HP.out] at x y l; rw [HG.out] at x)
      obtain ⟨_, c0, c1, c2, c3, c4, fz, lg⟩ := HM2.out.lineg HIi.out HG.out
      have fE := Lib.hid (ienter_any f' r n i w2 HMm2.out HR.out.qi HIi.out)
      rw [HR.out.last] at fE
      unfold RetIe at fE
      rw [HR.out.last] at fE
      obtain ⟨k', hk'⟩ : ∃ k', gk = k' + 1 := ⟨gk - 1, by have := HR.out.fuel; omega⟩
      have hrun := HR.out.run
      rw [hk', takeS, HX.out, if_neg (by omega), Int.toNat_natCast] at hrun
      by_cases hf : ((r.ln i).look now).full = true
      · simp only [if_pos hf] at fE
        rw [if_pos hf] at hrun
        have HRun := Lib.hid hrun
        have HQ1 : Hid (QI n (r.put i ((r.ln i).look now))) := Lib.hid (HR.out.qi.put HIi.out ((HR.out.qi.line HIi.out).look now) rfl)
        have HQ2 : Hid (QI n (r.put i { (r.ln i).look now with masked := true })) := Lib.hid (by have h7 := HR.out.qi.masks HIi.out; rw [HR.out.last] at h7; exact h7)
        have HOp : Hid ((r.put i { (r.ln i).look now with masked := true }).open' < k') := Lib.hid (by
          have h7 : (r.ln i).masked = false := by
            have h6 := HMy.out
            unfold Qs.may at h6
            cases hm : (r.ln i).masked with
            | false => rfl
            | true => rw [hm] at h6; simp at h6
          have h5 := open_put (x := { (r.ln i).look now with masked := true }) HIi.out h7 rfl
          have h4 := HR.out.fuel
          omega)
        have HKk := Lib.hid hk'
        clear hf hrun hk'
        have hpp : ∀ X, IqM Bs X f' (r.put i ((r.ln i).look now)) → Calls Tryd.prog 41 #[.pointer (some ⟨f'.p, 0, none⟩), .int .i64 i, .bool true] X (RetIq Bs f' (r.put i ((r.ln i).look now)) (r.put i { (r.ln i).look now with masked := true }) (.tuple #[]) X) := fun X hX => by
          have h7 := imask_any f' (r.put i ((r.ln i).look now)) n i true X hX HQ1.out (by rw [put_len]; exact HIi.out)
          rw [put_ln HIi.out, if_pos rfl] at h7
          have h6 : (r.put i ((r.ln i).look now)).put i { (r.ln i).look now with masked := true } = r.put i { (r.ln i).look now with masked := true } := by
            unfold Qs.put; dsimp only; rw [List.set_set]
          rw [h6] at h7
          exact h7
        have fM := Lib.hid hpp
        rw [HP.out] at fM
        unfold RetIq at fM
        clear hpp
        go_wp2_with (first
          | (go_at_call 40; (with_reducible refine fE.out.mono ?_); rintro e w3 ⟨rfl, hm3, ht3, hq3⟩; have HM3 := Lib.hid hm3; have HT3 := Lib.hid ht3; have HQ3 := Lib.hid hq3; clear hm3 ht3 hq3)
          | (go_at_call 41; (with_reducible refine (fM.out _ HM3.out).mono ?_); rintro e w4 ⟨rfl, f4, hf4, hm4, hn4, ht4⟩; have HF4 := Lib.hid hf4; have HM4 := Lib.hid hm4; have HN4 := Lib.hid hn4; have HT4 := Lib.hid ht4; clear hf4 hm4 hn4 ht4))
        go_roundg k'
        case measure => have := HKk.out; omega
        case rel =>
          refine ⟨f4, _, Lib.hid ⟨HRun.out, HOp.out, HQ2.out, HR.out.last, HM4.out, HF4.out.trans HP.out, fun b hb => ?_, ?_⟩⟩
          · rcases HN4.out b hb with h7 | h7
            · exact HR.out.new b (HQ3.out ▸ h7)
            · exact .inr (Nat.le_trans HT2.out.size (Nat.le_trans HT3.out.size h7))
          · refine (HT2.out.trans2 HT3.out (fun b hb => HR.out.new b hb)).trans2 HT4.out (fun b hb => HR.out.new b (HQ3.out ▸ hb))
      · simp only [if_neg hf] at fE
        rw [if_neg hf] at hrun
        have HRun := Lib.hid hrun
        have HTk : Hid (QI (n + 1) { r.put i { (r.ln i).enter now with pending := false, served := (r.ln i).served + 1 } with bs := r.bs ++ [⟨i, (r.ln i).top, (r.ln i).bottom⟩] }) := Lib.hid (by have h7 := HR.out.qi.takes HIi.out HMo.out; rw [HR.out.last] at h7; exact h7)
        have HQ1 : Hid (QI n (r.put i ((r.ln i).enter now))) := Lib.hid (HR.out.qi.put HIi.out (by have h7 := (HR.out.qi.line HIi.out).enter HR.out.qi.last.1; rw [HR.out.last] at h7 ⊢; exact h7) (by unfold Lq.enter; split <;> rfl))
        clear hf hrun hk'
        go_upto_region 9 with (go_at_call 40; (with_reducible refine fE.out.mono ?_); rintro e w3 ⟨rfl, hm3, ht3, hq3⟩; have HM3 := Lib.hid hm3; have HT3 := Lib.hid ht3; have HQ3 := Lib.hid hq3; clear hm3 ht3 hq3)
        obtain ⟨s1, hs1⟩ : ∃ s1, r.put i ((r.ln i).enter now) = s1 := ⟨_, rfl⟩
        have hes := enter_same (r.ln i) now
        have hi1 : i < s1.ls.length := by rw [← hs1, put_len]; exact HIi.out
        have hx1 : s1.next = (i : Int) := by rw [← hs1, next_put HIi.out hes.1 hes.2.1 hes.2.2.1]; exact HX.out
        have hl1 : s1.ln i = (r.ln i).enter now := by rw [← hs1, put_ln HIi.out, if_pos rfl]
        have hbs1 : s1.bs = r.bs := by rw [← hs1]; rfl
        have hll1 : s1.last = now := by rw [← hs1]; exact HR.out.last
        have HS1e := Lib.hid hs1
        rw [hs1] at HM3 HQ3 HQ1
        obtain ⟨pA3, pc3, tA3, tc3, hM3⟩ := HM3.out
        have HMx := Lib.hid hM3
        have HI1 := Lib.hid hi1; have HX1 := Lib.hid hx1; have HL1 := Lib.hid hl1; have HBs1 := Lib.hid hbs1; have HLa1 := Lib.hid hll1
        have HTw3 : Hid (Tab w3) := Lib.hid (HTb.out _ (HT2.out.trans2 HT3.out (fun b hb => HR.out.new b hb)))
        have fAk := Lib.hid (iqAck hM3 HQ1.out hi1 hx1 HTw3.out)
        clear hs1 hes hi1 hx1 hl1 hbs1 hll1 x y l c0 c1 c2 c3 c4 fz lg fE fN
        obtain ⟨x, y⟩ := box_rules hM3.box
        have l := box_lt hM3.box
        rw [HP.out] at x y l
        clear hM3
        go_upto_region 10 with (go_at_call 42; (with_reducible refine fAk.out.mono ?_); rintro e w4 ⟨pA4, pc4, sA4, sc4, rfl, hp4, hs4, hb4, hn4⟩; have HP4 := Lib.hid hp4; have HS4 := Lib.hid hs4; have HB4 := Lib.hid hb4; have HN4 := Lib.hid hn4; have HM4 := Lib.hid (HMx.out.below hb4); clear hp4 hs4 hb4 hn4 x y l; obtain ⟨x, y⟩ := box_rules HM4.out.box; have l := box_lt HM4.out.box; rw [HP.out] at x y l)
        refine name_world fun V4 hV4 => ?_
        have hbx := HM4.out.box
        rw [HP.out] at hbx
        obtain ⟨hE7, hT7⟩ := set7 hbx (.int .u64 ((setB (qIC s1).p i false : Nat) : Int)) (.int .u64 (qIC s1).e) (.int .u64 (qIC s1).r) (.int .u64 (qIC s1).g) (.slice pA4 (qIC s1).prio.length pc4) (.int .i64 (qIC s1).t) (.slice sA4 ((qIC s1).stack.length + 1) sc4)
        rw [← hV4] at hE7 hT7
        have hrows := HM4.out.rows
        rw [HP.out] at hrows
        have hgp : g ≠ f.p := hrows.1 _ HG.out
        have hll := HM4.out.ll
        rw [HG.out] at hll
        have hll4 := own_tnq hll hT7 (fun b hb hm => by injection hb with hb; exact hgp (hb.trans (List.mem_singleton.1 hm)))
        have hsl4 := own_tnq HM4.out.sl hT7 (fun b hb hm => by
          cases ha : f'.sA with
          | none => rw [ha] at hb; cases hb
          | some a => rw [ha] at hb; injection hb with hb; exact (hrows.2.1 a ha) (hb.trans (List.mem_singleton.1 hm)))
        obtain ⟨c4, fz⟩ := own_get (j := 4) hll4 (fun _ => rfl) lq0 HI1.out (by decide) (v := .int .i64 (s1.ln i).served) rfl
        have HE7 := Lib.hid hE7; have HT7 := Lib.hid hT7; have HLl4 := Lib.hid hll4; have HSl4 := Lib.hid hsl4; have HRows := Lib.hid hrows; have HGp := Lib.hid hgp
        have hsv := (HQ1.out.line HI1.out).served
        obtain ⟨sv, hsv0⟩ : ∃ sv, (s1.ln i).served = sv := ⟨_, rfl⟩
        rw [hsv0] at c4 hsv
        have HSv := Lib.hid hsv0
        have hnb := HNb.out
        have e1 : wrap64 (sv + 1) = sv + 1 := Go.IntWalk.wrap64_in _ (by omega)
        have lg4 : g < V4.heap.size := by
          obtain ⟨_, h7, _⟩ := own_blockK hll4 rfl
          exact h7
        clear hV4 hbx hE7 hT7 hrows hgp hll hll4 hsl4 hsv0 x y l fAk
        go_upto_region 11 with fail
        refine name_world fun V5 hV5 => ?_
        have hT5 : Tn [g] V4 V5 := by rw [hV5]; exact (Tn.refl _ _).setCell (p := ⟨g, i * 5 + 4, none⟩) (by simp) _
        have HE5 := Lib.hid (hT5.box HE7.out (fun hm => HGp.out (List.mem_singleton.1 hm).symm))
        have hl5 := line_set (x := { s1.ln i with served := sv + 1 }) (v := .int .i64 (sv + 1)) (j := 4) HLl4.out HI1.out (by decide) rfl
        rw [← hV5] at hl5
        have HSl5 := Lib.hid (own_tnq HSl4.out hT5 (fun b hb hm => by
          cases ha : f'.sA with
          | none => rw [ha] at hb; cases hb
          | some a => rw [ha] at hb; injection hb with hb; exact (HRows.out.2.2 _ a HG.out ha) ((List.mem_singleton.1 hm).symm.trans hb.symm)))
        have HL5 := Lib.hid hl5
        have HT5 := Lib.hid hT5
        have hi5 : i < (s1.ls.set i { s1.ln i with served := sv + 1 }).length := by rw [List.length_set]; exact HI1.out
        have hgd : (s1.ls.set i { s1.ln i with served := sv + 1 }).getD i lq0 = { s1.ln i with served := sv + 1 } := by
          rw [List.getD_eq_getElem?_getD, List.getElem?_set_self HI1.out]; rfl
        obtain ⟨c1, f1'⟩ := own_get (j := 1) hl5 (fun _ => rfl) lq0 hi5 (by decide) (v := .int .i64 (s1.ln i).top) (by rw [hgd]; rfl)
        obtain ⟨c2, f2'⟩ := own_get (j := 2) hl5 (fun _ => rfl) lq0 hi5 (by decide) (v := .int .i64 (s1.ln i).bottom) (by rw [hgd]; rfl)
        have lg5 : g < V5.heap.size := by
          obtain ⟨_, h7, _⟩ := own_blockK hl5 rfl
          exact h7
        clear hV5 hT5 hl5 hi5 hgd c4 fz e1 lg4
        obtain ⟨x, y⟩ := box_rules HE5.out
        have l := box_lt HE5.out
        have hbl : s1.bs.length ≤ 15 := HQ1.out.blen
        have HSn : Hid ((Value.slice f'.sA s1.bs.length f'.sc).ownBlock ≠ some f.p) := Lib.hid (fun hb => by
          cases ha : f'.sA with
          | none => rw [ha] at hb; cases hb
          | some a => rw [ha] at hb; injection hb with hb; exact HRows.out.2.1 a ha hb)
        go_region_law ((refine step_appK rfl _ _ sl_begun (by decide) rfl (own_drewK (own_allocK HSl5.out _)) rfl (by omega) (Nat.zero_le _) V5.heap.size [.int .i64 (i : Int), .int .i64 (s1.ln i).top, .int .i64 (s1.ln i).bottom] rfl rfl (fun j u hu => new_cell hu) rfl ?_; intro A6 c6 w6 ho6 hg6 hat6; have HO6 := Lib.hid ho6; have HG6 := Lib.hid hg6; have HAt6 := Lib.hid hat6; have HE6 := Lib.hid (box_grownK hg6 (bdrq (box_alloc HE5.out _)) HSn.out); clear ho6 hg6 hat6 x y l; obtain ⟨x, y⟩ := box_rules HE6.out; have l := box_lt HE6.out))
        all_goals have HFin := Lib.hid (begin_end (sv := sv) HMx.out HQ1.out HI1.out HG.out HB4.out HP4.out HS4.out HN4.out (by rw [HP.out]; exact HT7.out) HT5.out HSv.out HL5.out HG6.out HAt6.out HO6.out (by rw [HP.out]; exact HE6.out))
        all_goals
          go_wp2
          try rw [Exit.noGoto_ret]
          refine bodyPost_ret (v := .tuple #[.int .i64 (i : Int), .bool true, .int .i64 0]) (by simp [results, Tryd.f21, go_sem]) rfl ?_
          rw [← HRun.out]
          rw [HP.out] at HFin
          obtain ⟨q1, q2, q3⟩ := HFin.out
          have hsx : beginS s1 i = { r.put i { (r.ln i).enter now with pending := false, served := (r.ln i).served + 1 } with bs := r.bs ++ [⟨i, (r.ln i).top, (r.ln i).bottom⟩] } := by rw [← HS1e.out]; exact begin_enter HIi.out
          rw [hsx] at q1 q2
          have t2 := (HT2.out.trans2 HT3.out (fun b hb => HR.out.new b hb)).trans2 q3 (fun b hb => HR.out.new b (HQ3.out ▸ hb))
          refine ⟨rfl, ⟨f.p, f'.lA, f'.lc, A6, c6⟩, rfl, q1, fun b hb => ?_, t2⟩
          rcases q2 b hb with h7 | h7
          · exact HR.out.new b (HQ3.out ▸ h7)
          · exact .inr (Nat.le_trans HT2.out.size (Nat.le_trans HT3.out.size h7))
end Go.Proofs.YtpncbkodhojicaaDoor

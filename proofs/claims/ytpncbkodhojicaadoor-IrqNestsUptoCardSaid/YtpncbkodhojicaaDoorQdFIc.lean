/- Package irq: the walk of Unmask. Conditions: lines' memory that lies beyond the de Bruijn table. -/
import Derived.Test.YtpncbkodhojicaaDoorQdEIc
import Derived.Test.YtpncbkodhojicaaDoorMid
import Derived.Sort.CutIn
namespace Go.Proofs.YtpncbkodhojicaaDoor
open Go.RowKit Go.Shelf
variable {Bs : Nat → Prop}
attribute [local go_sem] Oper.semAt_some
/-- What Unmask leaves. -/
def RetUm (Bs : Nat → Prop) (f : IqF) (s s' : Qs) (out : List Int) (w : World) (e : Ending) (w' : World) : Prop :=
  ∃ OA oc, e = .returned (.tuple #[.slice OA out.length oc, .int .i64 0]) ∧ IqM (fun b => Bs b ∨ ∃ a, OA = some a ∧ a.block = b) w' f s' ∧ (∀ k ∈ qL f s', k ∈ qL f s) ∧ Tn (qL f s) w w' ∧ Rd w' OA (out.map (.int .i64)) ∧ (∀ a, OA = some a → w.heap.size ≤ a.block ∧ a.block < w'.heap.size)
theorem put_put (s : Qs) (i : Nat) (x y : Lq) : (s.put i x).put i y = s.put i y := by unfold Qs.put; dsimp only; rw [List.set_set]
theorem held_tn {bs : List (Nat × List Value)} {W W' : World} {F : List Nat} (h : Held bs W) (ht : Tn F W W') (hb : ∀ x ∈ bs, x.1 ∉ F) : Held bs W' := fun x hx i u hu => by
  obtain ⟨h1, h2⟩ := h x hx i u hu
  have hl : x.1 < W.heap.size := World.block_lt_of_cell? W _ h1
  have e := ht.block x.1 hl (hb x hx)
  exact ⟨(World.cell?_of_block (a := ⟨x.1, i, none⟩) e).trans h1, (World.frozen?_of_block (a := ⟨x.1, i, none⟩) e).trans h2⟩
theorem tn_put {W : World} {D : Nat} (o : Obj) : Tn [D] W (W.putObj D o) :=
  have h := grownBy_putObj' W D o
  ⟨h.os, h.tape, h.output, h.size, fun k hk hm => h.block k hk (fun e => hm (by injection e with e; rw [e]; simp))⟩
set_option maxHeartbeats 8000000 in
set_option maxRecDepth 100000 in
theorem iunmask_ok (f : IqF) (s : Qs) (n : Nat) (now : Int) (w : World) (h : IqM Bs w f s) (hI : QI n s) (hc : timeC s now = true) (hT : Tab w) (hg : ∀ k ∈ qL f s, 0 < k) :
    Calls Tryd.prog 22 #[.pointer (some ⟨f.p, 0, none⟩), .int .i64 now] w (RetUm Bs f s (unmaskS s now) ((freed s now s.ls.length).map fun i : Nat => (i : Int)) w) := by
  obtain ⟨pA, pc, tA, tc, hR⟩ := h
  have HLT := Lib.hid hR.lt
  have hps := (mem_qL (f := f) (s := s)).2 (.inl rfl)
  have hpl := box_lt hR.box
  have HOP := Lib.hid hR.op
  have HOT := Lib.hid hR.ot
  have fT := Lib.hid (fun X (hb : Below w.heap.size w X) => itellR_ok f s n now X pA pc tA tc (hR.below hb) hI hc)
  have HI1 := Lib.hid (hI.at hc)
  have HF := Lib.hid (unm_all hI.len now)
  have HL64 := Lib.hid hI.len
  have HT := Lib.hid hT
  have HG := Lib.hid hg
  have HPs := Lib.hid hps
  have hmb : mB s < 18446744073709551616 := mk_lt _
  obtain ⟨bm, hbm⟩ : ∃ bm, mB s = bm := ⟨_, rfl⟩
  have HMb : Hid (∀ i, bm.testBit i = (s.ln i).masked) := Lib.hid (fun i => by rw [← hbm]; exact mB_any hI.len i)
  have HBM := Lib.hid hbm
  rw [hbm] at hmb HF
  clear hR hI hT hg hps hc hbm
  refine calls_marks Tryd.func22 rfl ?_
  simp only [Tryd.ntmps22, List.size_toArray, List.length_cons, List.length_nil, Nat.reduceAdd, Nat.reduceSub, Array.replicate_succ, Array.replicate_zero, List.push_toArray, List.append_toArray, List.nil_append, List.cons_append]
  have hp1 : f.p < w.heap.size + 1 := by omega
  go_upto_region 4 with (go_at_call 38; refine (fT.out _ (((Below.refl _ _).alloc (Nat.le_refl _) _).alloc (by simp) _)).mono ?_; rintro e w1 ⟨rfl, hq1, ht1⟩; have HQ1 := Lib.hid hq1; have HT1 := Lib.hid ht1; clear hq1 ht1)
  have hN0 : w.heap.size ∉ [f.p] := by simp; omega
  have hN1 : w.heap.size + 1 ∉ [f.p] := by simp; omega
  have HB0 := Lib.hid (HT1.out.box (box_alloc (heap_alloc_new w _) _) hN0)
  have HB1 := Lib.hid (HT1.out.box (heap_new_at _ (by simp)) hN1)
  have hz1 : w.heap.size + 2 ≤ w1.heap.size := by have := HT1.out.size; simp at this; omega
  have HTw : Hid (Tn (qL f s) w w1) := Lib.hid ((((Tn.refl _ w).alloc _).alloc _).trans (HT1.out.mono (fun k hk => by rw [List.mem_singleton.1 hk]; exact HPs.out)))
  have hbx := HQ1.out.box
  rw [show mB (s.at' now) = bm from HBM.out] at hbx
  obtain ⟨xr, yr⟩ := box_rules hbx
  obtain ⟨x0, y0⟩ := box_rules HB0.out
  have hp2 : f.p < w1.heap.size := by omega
  have hp3 : w.heap.size < w1.heap.size := by omega
  clear hN0 hN1 hbx fT HT1
  go_wp2_with (go_at_call 33; refine (each_any _ _).mono ?_; rintro e w' ⟨rfl, rfl⟩)
  refine name_world fun W6 hW6 => ?_
  have hz6 : W6.heap.size = w1.heap.size + 2 := by rw [hW6]; simp
  have hB6 : Below w1.heap.size w1 W6 := by rw [hW6]; exact ((Below.refl _ _).alloc (Nat.le_refl _) _).alloc (by simp) _
  have e2 : W6.heap[w1.heap.size]? = some (.cells #[.slice none 0 0] 53 (0, 0)) := by rw [hW6]; exact box_alloc (heap_alloc_new w1 _) _
  have e3 : W6.heap[w1.heap.size + 1]? = some (.cells #[.int .u64 bm] 66 (0, 0)) := by rw [hW6]; exact heap_new_at _ (by simp)
  clear hW6 xr yr x0 y0 hp1
  have e0 := box_keep HB0.out hB6
  have e1 := box_keep HB1.out hB6
  obtain ⟨b2, hb2⟩ : ∃ b2, w1.heap.size = b2 := ⟨_, rfl⟩
  have hgl : 0 < w.heap.size := Nat.lt_trans (HG.out _ HPs.out) hpl
  have HT6 : Hid (Tn (qL f s) w W6) := Lib.hid (HTw.out.below hB6)
  have hit : Iter Tryd.prog 54 #[.pointer (some ⟨w1.heap.size + 1, 0, none⟩)] (fun i : Bit bm => #[.int .i64 (i.1 : Nat)]) (0 + 1) (fun xs => bv xs = bitsOf bm) (fun pre => bv pre <+: bitsOf bm) 64 W6 :=
    each_iter bm (w1.heap.size + 1) (0 + 1) W6 hmb (fun j hj => HT6.out.cell (HT.out j hj) (fun hm => Nat.lt_irrefl _ (HG.out _ hm))) (Nat.lt_succ_self _) (by omega) (by rw [(box_rules e3).1]; rfl)
  have hI0 : UmI Bs w b2 f (s.at' now) now (s.at' now, []) W6 := ⟨none, 0, pA, pc, tA, tc, {
    held := Held.one (by rw [(box_rules e0).1]; rfl) ((box_rules e0).2 0) (Held.one (by rw [(box_rules e1).1]; rfl) ((box_rules e1).2 0) (Held.nil _))
    box := by rw [← hb2]; exact e2
    iq := HQ1.out.below hB6
    sub := fun k hk => hk
    tn := HT6.out
    own := own_nilK _ _ _ _
    pa := fun a ha => ⟨by have := (HOP.out a ha).1; omega, fun o ho => by cases ho⟩
    ta := fun a ha hb => ⟨by have := (HOT.out a ha hb).1; omega, fun o ho => by cases ho⟩ }⟩
  rw [hb2] at hz1 hz6 hp2 hp3 hit
  clear hB6 e0 e1 e2 e3 HB0 HB1 HTw HQ1
  rw [hb2]
  refine wp_rangeF (w0 := w) (n₀ := 0 + 1) rfl (enters_of Tryd.func54 (by kernel_rfl) rfl) hit (fun _ => rfl) hgl (HT6.out.toBelow (fun k hk => HG.out k hk) hgl)
    (fun pre (_ : Unit) W => UmI Bs w b2 f (s.at' now) now ((bv pre).foldl (stepU now) (s.at' now, [])) W) (fun _ => UmI.from (by omega) _) () hI0 ?a1 ?assign ?body ?done
  case assign =>
    intro l x W K hK
    gi_wp2
    exact hK
  case body =>
    rintro l pre ⟨x, hx1, hx2⟩ u W hI0 hB hz hl
    have hxl : x < s.ls.length := by
      apply Classical.byContradiction
      intro hn
      have h1 := HMb.out x
      rw [hx2, ln_out hn] at h1
      cases h1
    have hlin : ∀ i ∈ bv pre, i < (s.at' now).ls.length := by
      intro i hi
      obtain ⟨⟨j, h1, h2⟩, hj, rfl⟩ := List.mem_map.1 hi
      apply Classical.byContradiction
      intro hn
      have h3 := HMb.out j
      rw [h2] at h3
      rw [show s.ln j = lq0 from ln_out hn] at h3
      cases h3
    have HUg := Lib.hid (UmG.fold (n := n) (s1 := s.at' now) (bv pre) (s.at' now, []) ⟨HI1.out, rfl, rfl⟩ hlin)
    have hol := stepU_len now (bv pre) (s.at' now, [])
    have hps : Hid ((bv (pre ++ [⟨x, hx1, hx2⟩])).foldl (stepU now) (s.at' now, []) = stepU now ((bv pre).foldl (stepU now) (s.at' now, [])) x) := Lib.hid (by
      rw [show bv (pre ++ [(⟨x, hx1, hx2⟩ : Bit bm)]) = bv pre ++ [x] by simp [bv], List.foldl_append]; rfl)
    have hbl : (bv pre).length = pre.length := List.length_map ..
    have hlast : (s.at' now).last = now := rfl
    rw [hlast] at HUg
    generalize (bv pre).foldl (stepU now) (s.at' now, []) = R at *
    have hol : R.2.length ≤ 64 := by
      rw [hbl] at hol
      have : ([] : List Int).length = 0 := rfl
      dsimp only at hol
      omega
    obtain ⟨OA, oc, pA2, pc2, tA2, tc2, hU⟩ := hI0
    have hxR : x < R.1.ls.length := by rw [HUg.out.len]; exact hxl
    obtain ⟨g, hg, hgp, q0, q1, q2, q3, q4, qf, hglt⟩ := hU.iq.line hxR
    rw [Nat.add_zero] at q0
    have hbx := hU.iq.box
    obtain ⟨xr, yr⟩ := box_rules hbx
    have hpw := box_lt hbx
    rw [hg] at xr
    obtain ⟨k0, _⟩ := hU.held.head
    obtain ⟨k1, _⟩ := hU.held.tail.head
    have hlw : w.heap.size + 1 < W.heap.size := by omega
    have hlw0 : w.heap.size < W.heap.size := by omega
    have hrl : R.1.last = now := HUg.out.last
    have fM := Lib.hid (fun X (ht : Tn [] W X) => immasked_ok f R.1 n x X pA2 pc2 tA2 tc2 (hU.iq.tn ht (fun _ _ => by simp) (fun _ _ => by simp) (fun _ _ _ => by simp)) HUg.out.qi hxR)
    rw [hrl] at fM
    unfold RetImk at fM
    rw [hrl] at fM
    have z4 : (x : Int) < (R.1.ls.length : Int) := by omega
    have z5 : (0 : Int) ≤ (x : Int) := by omega
    have HU := Lib.hid hU
    have HGl := Lib.hid hg
    have HxR := Lib.hid hxR
    have HOl := Lib.hid hol
    obtain ⟨fb, hfb⟩ : ∃ fb, ((R.1.ln x).look now).full = fb := ⟨_, rfl⟩
    rw [hfb] at fM
    have HFb := Lib.hid hfb
    clear hU hg hgp hbx hxR hit hol hbl hlin hlast hfb hrl
    gi_wp2_with fail
    refine round_mid 9 _ rfl (by repeat (first | exact letsOut_range | refine letsOut_then ?_ | refine letsOut_block ?_)) (by kernel_rfl) (by kernel_rfl) (by kernel_rfl) ?_
    simp only [List.take_succ_cons, List.take_zero, List.drop_succ_cons, List.drop_zero]
    repeat still_step
    refine wpStill_nil ?_
    intro K hK
    refine ⟨by rfl, ?_⟩
    go_simp
    refine (fM.out _ ((Tn.refl _ _).drew)).mono ?_
    rintro e w2 ⟨rfl, hm2, ht2, hq2⟩
    refine hK _ _ ?_
    clear hK K
    unfold midK
    repeat (quiet_step (fail))
    refine wpQuiet_nil ?_
    rintro _ ⟨n2, rfl⟩
    have hT2 : Tn [(R.1.ln x).mb] W (w2.drewN n2) := (((Tn.refl _ W).drew).trans ht2).drewN n2
    have hmbq : (R.1.ln x).mb ∈ qL f (s.at' now) := HU.out.sub _ (mem_qL.2 (.inr (.inr (.inr (.inl ⟨_, ln_mem HxR.out, rfl⟩)))))
    have hmbl : (R.1.ln x).mb < w.heap.size := HLT.out _ hmbq
    have HS2 : Hid (UmS Bs w b2 f (s.at' now) now (R.1.put x ((R.1.ln x).look now), R.2) (w2.drewN n2) OA oc pA2 pc2 tA2 tc2) := Lib.hid {
      held := held_tn HU.out.held hT2 (fun y hy hm => by
        have hm := List.mem_singleton.1 hm
        rcases List.mem_cons.1 hy with rfl | hy
        · dsimp only at hm; omega
        · rw [List.mem_singleton.1 hy] at hm; dsimp only at hm; omega)
      box := hT2.box HU.out.box (fun hm => by have := List.mem_singleton.1 hm; omega)
      iq := hm2.tn ((Tn.refl [] w2).drewN n2) (fun _ _ => by simp) (fun _ _ => by simp) (fun _ _ _ => by simp)
      sub := fun k hk => HU.out.sub k (by rw [← hq2]; exact hk)
      tn := HU.out.tn.trans (hT2.mono (fun k hk => by rw [List.mem_singleton.1 hk]; exact hmbq))
      own := own_tnq HU.out.own hT2 (fun g' hg' hm => by
        have h7 := (own_blockK HU.out.own hg').1
        have := List.mem_singleton.1 hm
        omega)
      pa := HU.out.pa
      ta := HU.out.ta }
    have HK2 : Hid (KeepsOthers W (w2.drewN n2)) := Lib.hid (ko_tn hT2 (fun k hk => by
      rw [List.mem_singleton.1 hk]
      exact HU.out.iq.cells _ (mem_qL.2 (.inr (.inr (.inr (.inl ⟨_, ln_mem HxR.out, rfl⟩)))))))
    have HB2 : Hid (Below (0 + 1) W (w2.drewN n2)) := Lib.hid (hT2.toBelow (fun k hk => by
      rw [List.mem_singleton.1 hk]; exact HG.out _ hmbq) (by omega))
    cases fb with
    | true =>
      gi_wp2
      refine ⟨HK2.out, HB2.out, (), ?_⟩
      rw [hps.out]
      unfold stepU
      rw [if_pos HFb.out]
      exact ⟨OA, oc, pA2, pc2, tA2, tc2, HS2.out⟩
    | false =>
      have HUl : Hid (UmG n (s.at' now) (R.1.put x ((R.1.ln x).look now))) := Lib.hid (HUg.out.look hxl)
      have hlx : (R.1.put x ((R.1.ln x).look now)).ln x = (R.1.ln x).look now := by rw [put_ln HxR.out, if_pos rfl]
      have fK := Lib.hid (imaskN_any f (R.1.put x ((R.1.ln x).look now)) n x false (w2.drewN n2) pA2 pc2 tA2 tc2 HS2.out.iq HUl.out.qi (by rw [HUl.out.len]; exact hxl))
      rw [hlx, put_put] at fK
      have hst : Hid (stepU now R x = (R.1.put x { (R.1.ln x).look now with masked := false }, R.2 ++ [(x : Int)])) := Lib.hid (by unfold stepU; rw [if_neg (by rw [HFb.out]; decide)])
      have HZ2 : Hid (W.heap.size ≤ (w2.drewN n2).heap.size) := Lib.hid hT2.size
      generalize w2.drewN n2 = V at *
      generalize R.1.put x ((R.1.ln x).look now) = s2 at *
      generalize R.1.put x { (R.1.ln x).look now with masked := false } = s3 at *
      unfold RetIqN at fK
      obtain ⟨k0, _⟩ := HS2.out.held.head
      have hlv : w.heap.size < V.heap.size := by have := HZ2.out; omega
      have hbs2 : b2 < V.heap.size := box_lt HS2.out.box
      have hol := HOl.out
      have HBl : Hid (b2 < V.heap.size ∧ w.heap.size + 2 ≤ b2) := Lib.hid ⟨hbs2, hz1⟩
      clear hT2 hmbq hmbl hm2 ht2 hq2 fM hlx
      gi_upto_region 10 with (refine ⟨trivial, ?_⟩; gi_at_call 41; refine (callsIn_round fK.out).mono ?_; rintro e w3 ⟨rfl, pA3, pc3, tA3, tc3, h3, hn3, hs3, ht3⟩)
      have HS3 := Lib.hid hs3
      have H3 := Lib.hid h3
      have HN3 := Lib.hid hn3
      have HT3 := Lib.hid ht3
      have HLq : Hid (∀ k ∈ qL f s2, k < w.heap.size) := Lib.hid (fun k hk => HLT.out k (HS2.out.sub k hk))
      have HB3 := Lib.hid (HT3.out.box HS2.out.box (fun hm => by have := HLq.out _ hm; have := HBl.out.2; omega))
      have HO3 := Lib.hid (own_tnq HS2.out.own HT3.out (fun g' hg' hm => by have := (own_blockK HS2.out.own hg').1; have := HLq.out _ hm; have := HBl.out.2; omega))
      have HZ3 := Lib.hid HT3.out.size
      obtain ⟨xb, yb⟩ := box_rules HB3.out
      have lb := box_lt HB3.out
      have HLb := Lib.hid lb
      clear h3 hn3 hs3 ht3
      gi_wp2_with (gi_at_builtin; go_loud (refine wpI_appAt (n := R.2.length) rfl _ _ sk_intq (by decide) rfl (own_allocK HO3.out _) rfl (by omega) (by simp; omega) w3.heap.size [.int .i64 (x : Int)] rfl rfl ?_ rfl ?_); (intro j u hu; exact new_cell (w := w3) hu); intro A4 c4 w4 ho4 hg4 hat4; have G4 := Lib.hid (grown_step HO3.out hg4); have HO4 := Lib.hid ho4; have HG4 := Lib.hid hg4; have HAt := Lib.hid hat4; have HB4 := Lib.hid (G4.out.low HB3.out (Nat.lt_succ_self _)); clear ho4 hg4 hat4 xb yb lb; obtain ⟨xb, yb⟩ := box_rules HB4.out; have lb := box_lt HB4.out)
      have hOl : ∀ g', (Value.slice OA R.2.length oc).ownBlock = some g' → b2 + 1 ≤ g' ∧ g' < V.heap.size := fun g' hg' => ⟨(own_blockK HS2.out.own hg').1, (own_blockK HS2.out.own hg').2.1⟩
      have hF4 : ∀ k ∈ b2 :: (Value.slice OA R.2.length oc).ownBlock.toList, b2 ≤ k ∧ k < V.heap.size := fun k hk => by
        have := HBl.out
        rcases List.mem_cons.1 hk with rfl | hk
        · omega
        · have := hOl k (by simpa using hk); omega
      have hBl := HBl.out
      have T4 : Tn (b2 :: (Value.slice OA R.2.length oc).ownBlock.toList) w3 (w4.setCell ⟨b2, 0, none⟩ (.slice A4 (R.2.length + 1) c4)) :=
        (((Tn.refl _ w3).alloc _).grown HG4.out (fun k e => .inl (by rw [e]; simp))).setCell (p := ⟨b2, 0, none⟩) (by simp) _
      have hk4 : ∀ k ∈ b2 :: (Value.slice OA R.2.length oc).ownBlock.toList, ∃ cs t, w3.heap[k]? = some (.cells cs t (0, 0)) := fun k hk => by
        rcases List.mem_cons.1 hk with rfl | hk
        · exact ⟨_, _, HB3.out⟩
        · obtain ⟨_, _, cur, hc⟩ := own_blockK HO3.out (g := k) (by simpa using hk)
          exact ⟨_, _, hc⟩
      have hA4 : ∀ o, A4 = some o → o.block < V.heap.size ∨ o.block = w3.heap.size + 1 := fun o ho => by
        rcases HAt.out with h7 | h7
        · rw [ho] at h7
          exact .inl (hOl o.block h7.symm).2
        · rw [ho] at h7
          injection h7 with h7
          simp at h7
          have := HZ3.out
          omega
      have hgw := HG.out
      refine ⟨(HK2.out.trans (ko_tn HT3.out (fun k hk => HS2.out.iq.cells k hk))).trans (ko_tn T4 hk4),
        (HB2.out.trans (HT3.out.toBelow (fun k hk => HG.out _ (HS2.out.sub k hk)) (by omega))).trans (T4.toBelow (fun k hk => by have := (hF4 k hk).1; omega) (by have := HZ3.out; omega)), ?_⟩
      show UmI Bs w b2 f (s.at' now) now ((bv (pre ++ [⟨x, hx1, hx2⟩])).foldl (stepU now) (s.at' now, [])) _
      rw [hps.out, hst.out]
      refine ⟨A4, c4, pA3, pc3, tA3, tc3, {
        held := held_tn (held_tn HS2.out.held HT3.out (fun y hy hm => ?_)) T4 (fun y hy hm => ?_)
        box := ?_
        iq := H3.out.tn T4 (fun k hk hm => ?_) (fun a ha hm => ?_) (fun a ha hb hm => ?_)
        sub := fun k hk => HS2.out.sub k (HS3.out k hk)
        tn := (HS2.out.tn.trans (HT3.out.mono (fun k hk => HS2.out.sub k hk))).trans2 T4 (fun k hk => .inr (by have := (hF4 k hk).1; omega))
        own := ?_
        pa := fun a ha => ⟨?_, fun o ho => ?_⟩
        ta := fun a ha hb => ⟨?_, fun o ho => ?_⟩ }⟩
      · have h7 := HLq.out _ hm
        rcases List.mem_cons.1 hy with rfl | hy
        · dsimp only at h7; omega
        · rw [List.mem_singleton.1 hy] at h7; dsimp only at h7; omega
      · have h7 := (hF4 _ hm).1
        rcases List.mem_cons.1 hy with rfl | hy
        · dsimp only at h7; omega
        · rw [List.mem_singleton.1 hy] at h7; dsimp only at h7; omega
      · rw [List.length_append]
        exact box_set (t := 53) (cs := #[.slice OA R.2.length oc]) (i := 0) HB4.out _
      · have := (hF4 k hm).1; have := HLq.out k (HS3.out k hk); omega
      · have := (hF4 _ hm).2; have := HN3.out.1 a ha; omega
      · have := (hF4 _ hm).2; have := HN3.out.2 a ha; omega
      · rw [List.length_append, List.map_append]
        exact own_setK HO4.out (own_low HO4.out (by show b2 < b2 + 1; omega)) _
      · have := HN3.out.1 a ha; omega
      · have := HN3.out.1 a ha; have := hA4 o ho; have := (H3.out.op a ha).1; omega
      · have := HN3.out.2 a ha; omega
      · have := HN3.out.2 a ha; have := hA4 o ho; have := (H3.out.ot a ha hb).1; omega
  case done =>
    rintro D' xs u W hD hS hI hB hK
    rw [show bv xs = bitsOf bm from hS, HF.out] at hI
    obtain ⟨OA, oc, pA2, pc2, tA2, tc2, hU⟩ := hI
    obtain ⟨out, hout⟩ : ∃ out, ((freed s now s.ls.length).map fun i : Nat => (i : Int)) = out := ⟨_, rfl⟩
    rw [hout] at hU
    have HOut := Lib.hid hout
    have HU := Lib.hid hU
    have HK := Lib.hid hK
    have HSz := Lib.hid hB.size
    obtain ⟨xb, yb⟩ := box_rules hU.box
    have lb := box_lt hU.box
    dsimp only at xb
    clear hU hout hS hB
    go_wp2
    refine post_mark (v := .tuple #[.slice OA out.length oc, .int .i64 0]) HK.out (by simp [results, Tryd.f22, go_sem]) ?_
    unfold RetUm
    rw [HOut.out]
    have hD2 : w.heap.size ≤ D' := by omega
    have hTp : Tn [D'] W (W.putObj D' (.deferred none)) := tn_put _
    have hnc : ∀ k, (∃ cs t, W.heap[k]? = some (.cells cs t (0, 0))) → k ∉ [D'] := fun k ⟨cs, t, hc⟩ hm => by
      rw [List.mem_singleton.1 hm, HK.out] at hc; cases hc
    have h2 := HU.out.iq
    have hq : IqR (fun b => Bs b ∨ ∃ a, OA = some a ∧ a.block = b) W f (unmaskS s now) pA2 pc2 tA2 tc2 := { box := h2.box, rp := h2.rp, rt := h2.rt, op := h2.op, ot := h2.ot, ll := h2.ll, sl := h2.sl, ms := h2.ms, nb := h2.nb, ng := h2.ng, bp := fun a ha hx => ?_, bt := fun a ha hs hx => ?_, bl := fun b hx => ?_ }
    rotate_left
    · rcases hx with hx | ⟨o, ho, e⟩
      · exact h2.bp a ha hx
      · exact (HU.out.pa a ha).2 o ho e.symm
    · rcases hx with hx | ⟨o, ho, e⟩
      · exact h2.bt a ha hs hx
      · exact (HU.out.ta a ha hs).2 o ho e.symm
    · rcases hx with hx | ⟨o, ho, rfl⟩
      · exact h2.bl b hx
      · exact (own_blockK HU.out.own (g := o.block) (by rw [ho]; rfl)).2.1
    refine ⟨OA, oc, rfl, IqM.mark ⟨pA2, pc2, tA2, tc2, hq⟩ hTp HK.out rfl, HU.out.sub, HU.out.tn.trans2 hTp (fun k hk => .inr (by rw [List.mem_singleton.1 hk]; exact hD2)), (own_rdK HU.out.own).tn hTp (fun a ha => hnc _ ?_), fun a ha => ?_⟩
    · obtain ⟨_, _, cur, hc⟩ := own_blockK HU.out.own (g := a.block) (by rw [ha]; rfl)
      exact ⟨_, _, hc⟩
    · obtain ⟨h1, h2, _⟩ := own_blockK HU.out.own (g := a.block) (by rw [ha]; rfl)
      exact ⟨by omega, Nat.lt_of_lt_of_le h2 hTp.size⟩
set_option maxHeartbeats 4000000 in
set_option maxRecDepth 100000 in
theorem iunmask_bad (f : IqF) (s : Qs) (n : Nat) (now : Int) (w : World) (h : IqM Bs w f s) (hI : QI n s) (hc : timeC s now = false) :
    Calls Tryd.prog 22 #[.pointer (some ⟨f.p, 0, none⟩), .int .i64 now] w (RetIq Bs f s s (.tuple #[.slice none 0 0, .int .i64 1]) w) := by
  have fT := Lib.hid (fun X (hb : Below w.heap.size w X) => itell_bad f s n now X (h.below hb) hI hc)
  unfold RetIq at fT
  have H := Lib.hid h
  have HPs : Hid (f.p < w.heap.size) := Lib.hid (h.lt _ (mem_qL.2 (.inl rfl)))
  have HLt := Lib.hid h.lt
  clear h hI hc
  refine calls_marks Tryd.func22 rfl ?_
  simp only [Tryd.ntmps22, List.size_toArray, List.length_cons, List.length_nil, Nat.reduceAdd, Nat.reduceSub, Array.replicate_succ, Array.replicate_zero, List.push_toArray, List.append_toArray, List.nil_append, List.cons_append]
  have hp0 := HPs.out
  have hp1 : f.p < w.heap.size + 1 := by omega
  go_wp2_with (go_at_call 38; refine (fT.out _ (((Below.refl _ _).alloc (Nat.le_refl _) _).alloc (by simp) _)).mono ?_; rintro e w1 ⟨rfl, f1, hf1, hm1, hn1, ht1⟩)
  refine post_plain (v := .tuple #[.slice none 0 0, .int .i64 1]) (by simp [results, Tryd.f22, go_sem]) ?_
  exact ⟨rfl, f1, hf1, hm1, fun k hk => (hn1 k hk).imp id (fun h => by simp at h; omega), (((Tn.refl _ w).alloc _).alloc _).trans ht1⟩
end Go.Proofs.YtpncbkodhojicaaDoor

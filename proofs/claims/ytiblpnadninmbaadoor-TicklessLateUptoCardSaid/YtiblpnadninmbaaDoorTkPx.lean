/- Package vergelaw10: the walk of TicklessLate. Conditions: a list that reads, the de Bruijn table. -/
import Derived.Test.YtiblpnadninmbaaDoorTkX4
namespace Go.Proofs.YtiblpnadninmbaaDoor
open Go.RowKit Go.Shelf
attribute [local go_sem] Oper.semAt_some
/-- A call of a service. -/
structure Kt where
  kind : Int
  id : Int
  at' : Int
  per : Int
def ktc (x : Kt) : List Value := [.int .i64 x.kind, .int .i64 x.id, .int .i64 x.at', .int .i64 x.per]
def kt0 : Kt := ⟨0, 0, 0, 0⟩
theorem Rd.ktAt {w : World} {A : Option Addr} {ts : List Kt} (h : Rd w A (ts.flatMap ktc)) {k : Nat} (hk : k < ts.length) : ∃ a x, A = some a ∧ ts.getD k kt0 = x ∧
    w.cell? (a.add (k * 4)) = some (.int .i64 x.kind) ∧ w.cell? ⟨(a.add (k * 4)).block, (a.add (k * 4)).off + 1, none⟩ = some (.int .i64 x.id) ∧ w.cell? ⟨(a.add (k * 4)).block, (a.add (k * 4)).off + 2, none⟩ = some (.int .i64 x.at') ∧ w.cell? ⟨(a.add (k * 4)).block, (a.add (k * 4)).off + 3, none⟩ = some (.int .i64 x.per) := by
  have g := flat_get (f := ktc) (k := 4) (fun _ => rfl) kt0 ts k hk
  generalize ts.getD k kt0 = x at *
  obtain ⟨a, rfl, h0⟩ := h _ _ (g 0 (by omega))
  obtain ⟨_, ha1, h1⟩ := h _ _ (g 1 (by omega)); cases ha1
  obtain ⟨_, ha2, h2⟩ := h _ _ (g 2 (by omega)); cases ha2
  obtain ⟨_, ha3, h3⟩ := h _ _ (g 3 (by omega)); cases ha3
  refine ⟨a, x, rfl, rfl, h0, ?_, ?_, ?_⟩
  · rw [← add_plus2 a (k * 4) 1 (by omega)]; exact h1
  · rw [← add_plus2 a (k * 4) 2 (by omega)]; exact h2
  · rw [← add_plus2 a (k * 4) 3 (by omega)]; exact h3
theorem by10_ok (t n : Int) : t ≤ by10 t n ∨ by10 t n < 0 := by
  unfold by10
  split
  · exact .inr (by omega)
  · rename_i h
    exact .inl (by omega)
theorem adv_len {mn mx endT : Int} {room : Nat} : ∀ (k : Nat) {s : Sst} {out : List Fi}, (advS room mn mx endT k s out).2.length ≤ out.length + 1024 * k
  | 0, _, _ => Nat.le_refl _
  | k + 1, s, out => by
    rw [advS]
    by_cases hg : goesS endT s out.length = true
    · rw [if_pos hg]
      have h1 := adv_len (mn := mn) (mx := mx) (endT := endT) (room := room) k (s := (ringS room mn mx s).2) (out := out ++ (ringS room mn mx s).1)
      have h2 : (ringS room mn mx s).1.length ≤ 1024 := runs_len 1024
      rw [List.length_append] at h1
      omega
    · rw [if_neg hg]
      show out.length ≤ _
      omega
theorem start_now (room : Nat) (mn mx : Int) (s : Sst) (id a : Int) : (startS room mn mx s id a).now = s.now := by
  unfold startS
  split
  · exact (look_now mn mx _).1
  · rfl
theorem every_now (room : Nat) (mn mx : Int) (s : Sst) (id a p : Int) : (everyS room mn mx s id a p).now = s.now := by
  unfold everyS
  split
  · exact (look_now mn mx _).1
  · rfl
theorem stop_now (mn mx : Int) (s : Sst) (id : Int) : (stopS mn mx s id).now = s.now := by
  unfold stopS
  split
  · exact (look_now mn mx _).1
  · rfl
theorem Tab.drew1 {w : World} (h : Tab w) : Tab w.drew := h
set_option maxHeartbeats 16000000 in
set_option maxRecDepth 100000 in
theorem ticklessLate_any (start mn mx room : Int) (l : List Kt) (A : Option Addr) (ca : Nat) (w : World) (hr : Rd w A (l.flatMap ktc)) (hid : ∀ x ∈ l, I64N x.id) (hx : I64N mx) (hT : Tab w) :
    Calls Tryd.prog 6 #[.int .i64 start, .agg #[.int .i64 mn, .int .i64 mx], .int .i64 room, .slice A l.length ca] w fun e w' => e = .returned (.bool true) ∧ Below w.heap.size w w' := by
  have HT := Lib.hid hT; have HR := Lib.hid hr; have HI := Lib.hid hid
  have Hlt := Lib.hid hT.lt
  have f1 := Lib.hid (fun X (hX : Tab X) => lives10_any X hX)
  by_cases hok : TmOk mn mx
  · by_cases hg : 0 ≤ start ∧ start ≤ 4503599627370496 ∧ 1 ≤ room ∧ room ≤ 4096
    · obtain ⟨h0, h1, h2, h3⟩ := hg
      obtain ⟨r, rfl⟩ : ∃ r : Nat, room = (r : Int) := ⟨room.toNat, by omega⟩
      have f2 := Lib.hid (fun X => snew_ok start mn mx r X hok h0 h1 (by omega) (by omega))
      unfold RetSv at f2
      have HOk := Lib.hid hok
      have HJ0 : Hid (JL mn ⟨[], [], start, false, 0, 0⟩ ∧ JB ⟨[], [], start, false, 0, 0⟩) := Lib.hid ⟨JL.zero h0 h1, JB.zero h0 h1⟩
      clear hr hid hT hx hok h0 h1 h2 h3
      go_enter Tryd.func6, Tryd.ntmps6
      go_upto_region 1 with fail
      refine name_world fun V hV => ?_
      have H0 : Hid (V.heap[w.heap.size]? = some (.cells #[.int .i64 mn, .int .i64 mx] 70 (0, 0))) := Lib.hid (by rw [hV]; exact heap_alloc_new _ _)
      have HB : Hid (Below w.heap.size w V) := Lib.hid (by rw [hV]; exact (Below.refl _ _).alloc (Nat.le_refl _) _)
      clear hV
      have HTV := Lib.hid (HT.out.below HB.out Hlt.out)
      go_upto_region 3 with (go_at_call 31; (with_reducible refine (f1.out _ HTV.out).mono ?_); rintro e w1 ⟨rfl, hb1⟩; have H1 := Lib.hid (box_keep H0.out hb1); have HB1 := Lib.hid (HB.out.trans (hb1.mono HB.out.size)); clear hb1)
      obtain ⟨x0, y0⟩ := box_rules H1.out
      have l0 := box_lt H1.out
      go_upto_region 4 with (go_at_call 32; (with_reducible refine (f2.out w1).mono ?_); rintro e w2 ⟨g, rfl, hf, hs2, hb2⟩; have HF := Lib.hid hf; have HS2 := Lib.hid hs2; have H2 := Lib.hid (box_keep H1.out hb2); have HB2 := Lib.hid (HB1.out.trans (hb2.mono HB1.out.size)); clear hf hs2 hb2)
      clear x0 y0 l0
      have HG : Hid (0 ∉ g.l) := Lib.hid (fun hm => by have h1 := HF.out _ hm; have h2 := Hlt.out; have h3 := HB1.out.size; omega)
      have HT2 := Lib.hid (HT.out.below HB2.out Hlt.out)
      have HFg : Hid (∀ b ∈ g.l, w.heap.size < b) := Lib.hid (fun b hb => by have h1 := HF.out _ hb; have h2 := box_lt H1.out; omega)
      by_cases c1 : l.length ≤ 30
      · have c1' : decide (30 < l.length) = false := decide_eq_false (by omega)
        clear f1 f2 H0 HB H1 HB1 HF HTV
        go_wp2
        go_loopw [48] (fun i wr => ∃ (k : Nat) (s : Sst), i = .int .i64 k ∧ k ≤ l.length ∧ Hid (JL mn s ∧ JB s) ∧ Hid (SvS wr g r mn mx s.now s (4195328 * k)) ∧ Hid (Tn g.l w2 wr)) (fun i _ => l.length - (intOf i).toNat)
        case atStart => exact ⟨0, _, rfl, by omega, HJ0, HS2, Lib.hid (Tn.refl _ _)⟩
        case round =>
          as_aux_lemma =>
          obtain ⟨k, s, rfl, hk, HJj, HSj, HTj⟩ := hrel
          by_cases hlt : k < l.length
          · have HBj := Lib.hid (HTj.out.base HB2.out (fun b hb => Nat.le_of_lt (HFg.out b hb)) HB2.out.size)
            obtain ⟨a0, x, rfl, hx, g0, g1, g2, g3⟩ := (HR.out.below HBj.out).ktAt hlt
            have HId : Hid (I64N x.id) := Lib.hid (HI.out x (by rw [← hx, getD_lt hlt]; exact List.getElem_mem _))
            obtain ⟨kd, id, at1, e2⟩ := x
            dsimp only at *
            clear hx
            go_upto_region 9 with fail
            refine name_world fun U hU => ?_
            have hbU : Below wr.heap.size wr U := by rw [hU]; exact (Below.refl _ _).alloc (Nat.le_refl _) _
            have HXu : Hid (U.heap[wr.heap.size]? = some (.cells #[.int .i64 kd, .int .i64 id, .int .i64 at1, .int .i64 e2] 75 (0, 0))) := Lib.hid (by rw [hU]; exact heap_alloc_new _ _)
            have HSu := Lib.hid (HSj.out.below hbU)
            have HTu := Lib.hid (HTj.out.below hbU)
            have hbg : wr.heap.size ∉ g.l := fun hm => by have := HSj.out.lt _ hm; omega
            have HBg := Lib.hid hbg
            have HTb : Hid (Tab U) := Lib.hid (HT2.out.tn HTu.out HG.out)
            have hj := HJj.out.2.now0
            have hj1 := HJj.out.2.now1
            clear hU hbU g0 g1 g2 g3 hbg
            generalize wr.heap.size = b12 at *
            obtain ⟨xx, xy⟩ := box_rules HXu.out
            have lx := box_lt HXu.out
            go_upto_region 10 with (go_at_call 33; (with_reducible refine (HSu.out.nowc).mono ?_); rintro e w9 ⟨rfl, rfl⟩)
            by_cases k0 : kd = 0
            · as_aux_lemma =>
              subst k0
              have fB := Lib.hid (fun X => by10_any s.now at1 X hj hj1)
              have fA := Lib.hid (fun X (hX : SvS X g r mn mx s.now s (4195328 * k)) hTX => sstart_any g r mn mx s id (by10 s.now at1) (4195328 * k) X hX HId.out (by omega) HOk.out hj hj1 hTX HG.out)
              have HJn : Hid (JL mn (startS r mn mx s id (by10 s.now at1)) ∧ JB (startS r mn mx s id (by10 s.now at1))) := Lib.hid ⟨HJj.out.1.start HOk.out _ _ (by10_ok _ _), HJj.out.2.start HOk.out _ _⟩
              have HNn : Hid ((startS r mn mx s id (by10 s.now at1)).now = s.now) := Lib.hid (start_now r mn mx s id _)
              generalize startS r mn mx s id (by10 s.now at1) = s2 at *
              generalize insC r s.L id (by10 s.now at1) = cc at *
              generalize by10 s.now at1 = bt at *
              go_upto_region 12 with fail
              go_region_with ((first
                | (go_at_call 35; (with_reducible refine (fB.out _).mono ?_); rintro e w7 ⟨rfl, rfl⟩)
                | (go_at_call 34; (with_reducible refine (fA.out _ HSu.out.drew1 (Tab.drew1 HTb.out)).mono ?_); rintro e w8 ⟨rfl, hs8, ht8⟩; have HS8 := Lib.hid hs8; have HT8 := Lib.hid (HTu.out.drew.trans ht8); clear hs8 ht8)))
              all_goals
                as_aux_lemma =>
                go_wp2
                refine ⟨⟨k + 1, s2, by go_num, by omega, HJn, (by rw [HNn.out]; exact Lib.hid (HS8.out.mono (by omega))), HT8⟩, by simp [intOf]; omega⟩
            · by_cases k1 : kd = 1
              · as_aux_lemma =>
                subst k1
                have fB := Lib.hid (fun X => by10_any s.now at1 X hj hj1)
                have fA := Lib.hid (fun X (hX : SvS X g r mn mx s.now s (4195328 * k)) hTX => severy_any g r mn mx s id (by10 s.now at1) e2 (4195328 * k) X hX HJj.out.2.pi HId.out (by omega) HOk.out hj hj1 hTX HG.out)
                have HJn : Hid (JL mn (everyS r mn mx s id (by10 s.now at1) e2) ∧ JB (everyS r mn mx s id (by10 s.now at1) e2)) := Lib.hid ⟨HJj.out.1.every HOk.out _ _ _ (by10_ok _ _), HJj.out.2.every HOk.out _ _ _⟩
                have HNn : Hid ((everyS r mn mx s id (by10 s.now at1) e2).now = s.now) := Lib.hid (every_now r mn mx s id _ _)
                generalize everyS r mn mx s id (by10 s.now at1) e2 = s2 at *
                generalize everyC r s.L id (by10 s.now at1) e2 = cc at *
                generalize by10 s.now at1 = bt at *
                go_upto_region 14 with fail
                go_region_with ((first
                  | (go_at_call 35; (with_reducible refine (fB.out _).mono ?_); rintro e w7 ⟨rfl, rfl⟩)
                  | (go_at_call 36; (with_reducible refine (fA.out _ HSu.out.drew1 (Tab.drew1 HTb.out)).mono ?_); rintro e w8 ⟨rfl, hs8, ht8⟩; have HS8 := Lib.hid hs8; have HT8 := Lib.hid (HTu.out.drew.trans ht8); clear hs8 ht8)))
                all_goals
                  as_aux_lemma =>
                  go_wp2
                  refine ⟨⟨k + 1, s2, by go_num, by omega, HJn, (by rw [HNn.out]; exact Lib.hid (HS8.out.mono (by omega))), HT8⟩, by simp [intOf]; omega⟩
              · by_cases k2 : kd = 2
                · as_aux_lemma =>
                  subst k2
                  have fA := Lib.hid (fun X (hX : SvS X g r mn mx s.now s (4195328 * k)) hTX => sstop_any g r mn mx s id (4195328 * k) X hX HJj.out.2.pi HId.out HOk.out hj hj1 hTX HG.out)
                  have HJn : Hid (JL mn (stopS mn mx s id) ∧ JB (stopS mn mx s id)) := Lib.hid ⟨HJj.out.1.stop HOk.out _, HJj.out.2.stop HOk.out _⟩
                  have HNn : Hid ((stopS mn mx s id).now = s.now) := Lib.hid (stop_now mn mx s id)
                  generalize stopS mn mx s id = s2 at *
                  generalize canC s.L id = cc at *
                  go_wp2_with (go_at_call 37; (with_reducible refine (fA.out _ HSu.out HTb.out).mono ?_); rintro e w8 ⟨rfl, hs8, ht8⟩; have HS8 := Lib.hid hs8; have HT8 := Lib.hid (HTu.out.trans ht8); clear hs8 ht8)
                  refine ⟨⟨k + 1, s2, by go_num, by omega, HJn, (by rw [HNn.out]; exact Lib.hid (HS8.out.mono (by omega))), HT8⟩, by simp [intOf]; omega⟩
                · by_cases k3 : kd = 3
                  · as_aux_lemma =>
                    subst k3
                    by_cases n0 : at1 < 0
                    · as_aux_lemma =>
                      have fA := Lib.hid (sadv_neg g r mn mx s.now s (4195328 * k) at1 U HSu.out n0)
                      go_wp2_with (go_at_call 38; (with_reducible refine fA.out.mono ?_); rintro e w8 ⟨rfl, rfl⟩)
                      refine ⟨⟨k + 1, s, by go_num, by omega, HJj, (Lib.hid (HSu.out.mono (by omega))), HTu⟩, by simp [intOf]; omega⟩
                    · by_cases n1 : 4503599627370496 - s.now < at1
                      · as_aux_lemma =>
                        have fA := Lib.hid (sadv_far g r mn mx s.now s (4195328 * k) at1 U HSu.out n0 hj hj1 n1)
                        go_wp2_with (go_at_call 38; (with_reducible refine fA.out.mono ?_); rintro e w8 ⟨rfl, rfl⟩)
                        refine ⟨⟨k + 1, s, by go_num, by omega, HJj, (Lib.hid (HSu.out.mono (by omega))), HTu⟩, by simp [intOf]; omega⟩
                      · as_aux_lemma =>
                        have fA := Lib.hid (sadv_ok g r mn mx s (4195328 * k) at1 U HSu.out HJj.out.2 HOk.out (by omega) (by omega) HTb.out HG.out (by omega))
                        obtain ⟨q1, q2, q3⟩ := adv_keep (room := r) (endT := s.now + at1) HOk.out 4096 HJj.out.1 (by omega) (show FiO mn s.now [] s.now from Int.le_refl _)
                        obtain ⟨q4, q5⟩ := adv_jb (room := r) (endT := s.now + at1) (out := []) HOk.out 4096 HJj.out.2 (by omega)
                        have hML := adv_len (room := r) (mn := mn) (mx := mx) (endT := s.now + at1) 4096 (s := s) (out := [])
                        generalize advS r mn mx (s.now + at1) 4096 s [] = RR at *
                        obtain ⟨s1, M⟩ := RR
                        dsimp only at q1 q2 q3 q4 q5 fA hML
                        have hM4 : M.length ≤ 4194304 := by simpa using hML
                        clear hML
                        obtain ⟨q6, q7, q8⟩ := q1.done q2 (by omega)
                        have HJn : Hid (JL mn (doneS (s.now + at1) s1) ∧ JB (doneS (s.now + at1) s1)) := Lib.hid ⟨q6, (q4.done q2 (by omega)).1⟩
                        have HFi : Hid (FiO mn s.now M (doneS (s.now + at1) s1).now) := Lib.hid (q3.up q7)
                        have hle9 := q3.le
                        generalize doneS (s.now + at1) s1 = s2 at *
                        obtain ⟨nw, hnw⟩ : ∃ nw, s2.now = nw := ⟨_, rfl⟩
                        unfold RetAv at fA
                        rw [hnw] at fA HFi q7 q8
                        obtain ⟨gn, hgn⟩ : ∃ gn, nw - s.now = gn := ⟨_, rfl⟩
                        rw [hgn] at fA
                        have HNw := Lib.hid hnw
                        have e5 : wrap64 (s.now + gn) = nw := by rw [show s.now + gn = nw by omega]; exact Go.IntWalk.wrap64_in _ (by omega)
                        have e5' : IntKind.i64.wrap (s.now + gn) = nw := by rw [show s.now + gn = nw by omega]; exact IntWalk.i64_in _ (by omega)
                        have b1 : ¬ gn < 0 := by omega
                        have b2 : ¬ at1 < gn := by omega
                        have b3 : nw ≤ 4503599627370496 := by omega
                        have HNb := Lib.hid b3
                        clear q1 q2 q3 q4 q5 q6 q7 q8 hle9 hnw hgn b3 n0 n1
                        have HKL : Hid (k + 1 ≤ l.length) := Lib.hid hlt
                        go_upto_region 19 with (go_at_call 38; (with_reducible refine fA.out.mono ?_); rintro e w5 ⟨A5, c5, rfl, hr5, ha5, hs5, ht5⟩; have HR5 := Lib.hid hr5; have HS5 := Lib.hid hs5; have HT5 := Lib.hid (HTu.out.trans ht5); have HX5 := Lib.hid (ht5.box HXu.out HBg.out); clear hr5 ha5 hs5 ht5)
                        have HM5 : Hid (w5.heap[w.heap.size]? = some (.cells #[.int .i64 mn, .int .i64 mx] 70 (0, 0))) := Lib.hid (HT5.out.box H2.out (fun hm => by have := HFg.out _ hm; omega))
                        as_aux_lemma =>
                        clear xx xy lx fA
                        go_wp2
                        go_loopw [17, 99] (fun la i wr => ∃ (j : Nat) (lo : Int), j ≤ M.length ∧ i = .int .i64 j ∧ la = .int .i64 lo ∧ s.now ≤ lo ∧ Hid (FiO mn lo (M.drop j) nw) ∧ Hid (Below w5.heap.size w5 wr)) (fun _ i _ => M.length - (intOf i).toNat)
                        case atStart => exact ⟨0, s.now, by omega, rfl, rfl, Int.le_refl _, HFi, Lib.hid (Below.refl _ _)⟩
                        case round =>
                          as_aux_lemma =>
                          obtain ⟨j, lo, hj9, rfl, rfl, hlo, HFj, HBq⟩ := hrel
                          by_cases hlt2 : j < M.length
                          · as_aux_lemma =>
                            obtain ⟨a5, y, rfl, hy, g0, g1, g2⟩ := (HR5.out.below HBq.out).fiAt hlt2
                            have hd : M.drop j = y :: M.drop (j + 1) := by
                              rw [List.drop_eq_getElem_cons hlt2, ← hy, getD_lt hlt2]
                            obtain ⟨p1, p2, p3, p4⟩ : FiO mn lo (y :: M.drop (j + 1)) nw := hd ▸ HFj.out
                            have p5 := p4.le
                            have p6 := HNb.out
                            obtain ⟨i0, i1, i2⟩ := y
                            dsimp only at *
                            obtain ⟨v3, hv3⟩ : ∃ v3, i1 + i2 = v3 := ⟨_, rfl⟩
                            rw [hv3] at p3 p4 p5
                            have HF9 := Lib.hid p4
                            have e6 : wrap64 (i1 + i2) = v3 := by rw [hv3]; exact Go.IntWalk.wrap64_in _ (by omega)
                            have e6' : IntKind.i64.wrap (i1 + i2) = v3 := by rw [hv3]; exact IntWalk.i64_in _ (by omega)
                            have r1 : ¬ i2 < 0 := by omega
                            have r2 : ¬ mn ≤ i2 := by omega
                            have r3 : ¬ v3 < lo := by omega
                            have r4 : ¬ nw < v3 := by omega
                            have HLo : Hid (s.now ≤ v3) := Lib.hid (by omega)
                            have HL2 : Hid (j + 1 ≤ M.length) := Lib.hid hlt2
                            clear hy hd p1 p2 p3 p4 p5 p6 hv3
                            go_upto_region 24 with fail
                            refine name_world fun U2 hU2 => ?_
                            have hbU2 : Below wr.heap.size wr U2 := by rw [hU2]; exact (Below.refl _ _).alloc (Nat.le_refl _) _
                            have HY : Hid (U2.heap[wr.heap.size]? = some (.cells #[.int .i64 i0, .int .i64 i1, .int .i64 i2] 66 (0, 0))) := Lib.hid (by rw [hU2]; exact heap_alloc_new _ _)
                            have HBz := Lib.hid (HBq.out.trans (hbU2.mono HBq.out.size))
                            have HMz := Lib.hid (box_keep HM5.out HBz.out)
                            clear hU2 hbU2 g0 g1 g2
                            generalize wr.heap.size = b19 at *
                            obtain ⟨yx, yy⟩ := box_rules HY.out
                            have ly := box_lt HY.out
                            obtain ⟨mx9, my9⟩ := box_rules HMz.out
                            have lm9 := box_lt HMz.out
                            as_aux_lemma =>
                            go_wp2
                            refine ⟨⟨j + 1, v3, HL2.out, by go_num, rfl, HLo.out, HF9, HBz⟩, by have h7 := HL2.out; simp [intOf]; omega⟩
                          · as_aux_lemma =>
                            have HSq := Lib.hid (HS5.out.below HBq.out)
                            have HTq := Lib.hid (HT5.out.below HBq.out)
                            have HXq := Lib.hid (box_keep HX5.out HBq.out)
                            have fN := Lib.hid (HSq.out.nowc)
                            rw [HNw.out] at fN
                            obtain ⟨xx, xy⟩ := box_rules HXq.out
                            have lx := box_lt HXq.out
                            go_wp2_with (go_at_call 33; (with_reducible refine fN.out.mono ?_); rintro e w8 ⟨rfl, rfl⟩)
                            refine ⟨⟨k + 1, s2, by go_num, HKL.out, HJn, (by rw [HNw.out]; exact Lib.hid (HSq.out.mono (by omega))), HTq⟩, by have h7 := HKL.out; simp [intOf]; omega⟩
                  · go_wp2
                    refine ⟨⟨k + 1, s, by go_num, by omega, HJj, (Lib.hid (HSu.out.mono (by omega))), HTu⟩, by simp [intOf]; omega⟩
          · go_wp2
            go_ret
            exact ⟨rfl, HTj.out.base HB2.out (fun b hb => Nat.le_of_lt (HFg.out b hb)) HB2.out.size⟩
      · have c1' : decide (30 < l.length) = true := decide_eq_true (by omega)
        go_wp2
        go_ret
        exact ⟨rfl, HB2.out⟩
    · have f2 := Lib.hid (fun X => snew_bad start mn mx room X hok hg)
      clear hr hid hT hx hok hg
      go_enter Tryd.func6, Tryd.ntmps6
      go_upto_region 1 with fail
      refine name_world fun V hV => ?_
      have H0 : Hid (V.heap[w.heap.size]? = some (.cells #[.int .i64 mn, .int .i64 mx] 70 (0, 0))) := Lib.hid (by rw [hV]; exact heap_alloc_new _ _)
      have HB : Hid (Below w.heap.size w V) := Lib.hid (by rw [hV]; exact (Below.refl _ _).alloc (Nat.le_refl _) _)
      clear hV
      have HTV := Lib.hid (HT.out.below HB.out Hlt.out)
      go_upto_region 3 with (go_at_call 31; (with_reducible refine (f1.out _ HTV.out).mono ?_); rintro e w1 ⟨rfl, hb1⟩; have H1 := Lib.hid (box_keep H0.out hb1); have HB1 := Lib.hid (HB.out.trans (hb1.mono HB.out.size)); clear hb1)
      obtain ⟨x0, y0⟩ := box_rules H1.out
      have l0 := box_lt H1.out
      go_wp2_with (go_at_call 32; (with_reducible refine (f2.out w1).mono ?_); rintro e w2 ⟨rfl, hb2⟩; have HB2 := Lib.hid (HB1.out.trans (hb2.mono HB1.out.size)); clear hb2)
      go_ret
      exact ⟨rfl, HB2.out⟩
  · have f2 := Lib.hid (fun X => snew_form start mn mx room X hok hx)
    clear hr hid hT hx hok
    go_enter Tryd.func6, Tryd.ntmps6
    go_upto_region 1 with fail
    refine name_world fun V hV => ?_
    have H0 : Hid (V.heap[w.heap.size]? = some (.cells #[.int .i64 mn, .int .i64 mx] 70 (0, 0))) := Lib.hid (by rw [hV]; exact heap_alloc_new _ _)
    have HB : Hid (Below w.heap.size w V) := Lib.hid (by rw [hV]; exact (Below.refl _ _).alloc (Nat.le_refl _) _)
    clear hV
    have HTV := Lib.hid (HT.out.below HB.out Hlt.out)
    go_upto_region 3 with (go_at_call 31; (with_reducible refine (f1.out _ HTV.out).mono ?_); rintro e w1 ⟨rfl, hb1⟩; have H1 := Lib.hid (box_keep H0.out hb1); have HB1 := Lib.hid (HB.out.trans (hb1.mono HB.out.size)); clear hb1)
    obtain ⟨x0, y0⟩ := box_rules H1.out
    have l0 := box_lt H1.out
    go_wp2_with (go_at_call 32; (with_reducible refine (f2.out w1).mono ?_); rintro e w2 ⟨rfl, hb2⟩; have HB2 := Lib.hid (HB1.out.trans (hb2.mono HB1.out.size)); clear hb2)
    go_ret
    exact ⟨rfl, HB2.out⟩
end Go.Proofs.YtiblpnadninmbaaDoor

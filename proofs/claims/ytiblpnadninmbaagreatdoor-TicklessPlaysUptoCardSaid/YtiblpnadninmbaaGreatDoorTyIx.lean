/- Package vergelaw10: the walk of plays, Advance; plays whatever the act. Conditions: a service's memory, lists that read, the de Bruijn table. -/
import Derived.Test.YtiblpnadninmbaaGreatDoorTyGx
namespace Go.Proofs.YtiblpnadninmbaaGreatDoor
open Go.RowKit Go.Shelf
attribute [local go_sem] Oper.semAt_some

theorem adv_small {mn mx endT : Int} {room : Nat} : ∀ (k : Nat) {s : Sst} {out : List Fi}, out.length ≤ 2047 → (advS room mn mx endT k s out).2.length ≤ 2047
  | 0, _, _, h => h
  | k + 1, s, out, h => by
    rw [advS]
    by_cases hg : goesS endT s out.length = true
    · rw [if_pos hg]
      refine adv_small k ?_
      obtain ⟨_, _, hl⟩ := goes_iff.1 hg
      have h2 : (ringS room mn mx s).1.length ≤ 1024 := runs_len 1024
      rw [List.length_append]; omega
    · rw [if_neg hg]; exact h
theorem adv_bd {mn mx endT : Int} {room : Nat} (hr : room ≤ 4096) : ∀ (k : Nat) {s : Sst} {out : List Fi}, Bd s → Bd (advS room mn mx endT k s out).1 ∧ (advS room mn mx endT k s out).1.P.length ≤ s.P.length
  | 0, _, _, h => ⟨h, Nat.le_refl _⟩
  | k + 1, s, out, h => by
    rw [advS]
    by_cases hg : goesS endT s out.length = true
    · rw [if_pos hg]
      have h1 := h.ring (mn := mn) (mx := mx) hr
      obtain ⟨q1, q2⟩ := adv_bd hr k (out := out ++ (ringS room mn mx s).1) h1
      refine ⟨q1, Nat.le_trans q2 ?_⟩
      unfold ringS ranS
      rw [(look_now mn mx _).2.2]
      exact (runs_bd (now := s.wake) hr 1024 (P := s.P) h.1 h.2.2).2.1
    · rw [if_neg hg]; exact ⟨h, Nat.le_refl _⟩
theorem done_bd {endT : Int} {s : Sst} (h : Bd s) : Bd (doneS endT s) ∧ (doneS endT s).P.length = s.P.length := by
  unfold doneS; split
  · exact ⟨h, rfl⟩
  · exact ⟨h, rfl⟩
/-- What Advance of the document's hands back, whatever it is. -/
def RefAd (room : Nat) (mn mx : Int) (s2 : Sst) (M : List Fi) (gone code : Int) (A Q : Option Addr) (w : World) (e : Ending) (w' : World) : Prop :=
  ∃ A' c' Q' d' B cb, e = .returned (.tuple #[rsv s2.now room A' s2.L.length c' Q' s2.P.length d' mn mx s2.armed s2.goal s2.wake, .slice B M.length cb, .int .i64 gone, .int .i64 code]) ∧ Rd w' A' (s2.L.flatMap duc) ∧ Rd w' Q' (s2.P.flatMap pec) ∧ Rd w' B (M.flatMap fic) ∧
    (∀ a, A' = some a → A = some a ∨ (w.heap.size ≤ a.block ∧ a.block < w'.heap.size)) ∧ (∀ a, Q' = some a → Q = some a ∨ (w.heap.size ≤ a.block ∧ a.block < w'.heap.size)) ∧ (∀ a, B = some a → w.heap.size ≤ a.block) ∧ Below w.heap.size w w'
/-- What Advance hands back, whatever it is. -/
def RealAd (g : SvF) (room : Nat) (mn mx : Int) (s2 : Sst) (M : List Fi) (gone code : Int) (tn : Nat) (w : World) (e : Ending) (w' : World) : Prop :=
  ∃ A c, e = .returned (.tuple #[.slice A M.length c, .int .i64 gone, .int .i64 code]) ∧ Rd w' A (M.flatMap fic) ∧ SvS w' g room mn mx s2.now s2 tn ∧ Tn g.l w w'
theorem adv_both (g : SvF) (room : Nat) (mn mx : Int) (s : Sst) (tn : Nat) (A : Option Addr) (c : Nat) (Q : Option Addr) (d : Nat) (k : Int) (w : World) (h : PlIn w g room mn mx s tn A Q) :
    ∃ s2 M gone code, (JB s2 ∧ Bd s2 ∧ s2.P.length ≤ s.P.length ∧ M.length ≤ 2047) ∧
      (∀ X, Rd X A (s.L.flatMap duc) → Rd X Q (s.P.flatMap pec) → (∀ a, A = some a → a.block < X.heap.size) → (∀ a, Q = some a → a.block < X.heap.size) → Calls Tryz.prog 25 #[rsS room mn mx s A c Q d, .int .i64 k] X (RefAd room mn mx s2 M gone code A Q X)) ∧
      (∀ X, SvS X g room mn mx s.now s tn → Tab X → Calls Tryz.prog 12 #[.pointer (some ⟨g.ps, 0, none⟩), .int .i64 k] X (RealAd g room mn mx s2 M gone code (tn + 4195328) X)) := by
  have h0 := h.jb.now0
  have h1 := h.jb.now1
  by_cases hk : k < 0
  · refine ⟨s, [], 0, 1, ⟨h.jb, h.bd, Nat.le_refl _, by simp⟩, fun X hX hY hA hQ => ?_, fun X hX hT => ?_⟩
    · refine (rsadv_neg room mn mx s A c Q d k X hk).mono fun e w' hq => ?_
      obtain ⟨rfl, hb⟩ := hq
      exact ⟨A, c, Q, d, none, 0, rfl, hX.below hb, hY.below hb, Rd.nil _ _, fun a ha => .inl ha, fun a ha => .inl ha, fun a ha => (by cases ha), hb⟩
    · refine (sadv_neg g room mn mx s.now s tn k X hX hk).mono fun e w' hq => ?_
      obtain ⟨rfl, rfl⟩ := hq
      exact ⟨none, 0, rfl, Rd.nil _ _, hX.mono (by omega), Tn.refl _ _⟩
  · by_cases hf : 4503599627370496 - s.now < k
    · refine ⟨s, [], 0, 6, ⟨h.jb, h.bd, Nat.le_refl _, by simp⟩, fun X hX hY hA hQ => ?_, fun X hX hT => ?_⟩
      · refine (rsadv_far room mn mx s A c Q d k X hk h0 h1 hf).mono fun e w' hq => ?_
        obtain ⟨rfl, hb⟩ := hq
        exact ⟨A, c, Q, d, none, 0, rfl, hX.below hb, hY.below hb, Rd.nil _ _, fun a ha => .inl ha, fun a ha => .inl ha, fun a ha => (by cases ha), hb⟩
      · refine (sadv_far g room mn mx s.now s tn k X hX hk h0 h1 hf).mono fun e w' hq => ?_
        obtain ⟨rfl, rfl⟩ := hq
        exact ⟨none, 0, rfl, Rd.nil _ _, hX.mono (by omega), Tn.refl _ _⟩
    · have hen : s.now + k ≤ 4503599627370496 := by omega
      obtain ⟨j1, j2⟩ := adv_jb (room := room) (out := []) h.ok 4096 h.jb (show s.now ≤ s.now + k by omega)
      obtain ⟨b1, b2⟩ := adv_bd (mn := mn) (mx := mx) (endT := s.now + k) (out := []) h.rm 4096 h.bd
      refine ⟨doneS (s.now + k) (advS room mn mx (s.now + k) 4096 s []).1, (advS room mn mx (s.now + k) 4096 s []).2, (doneS (s.now + k) (advS room mn mx (s.now + k) 4096 s []).1).now - s.now, 0, ⟨(j1.done j2 hen).1, (done_bd b1).1, by rw [(done_bd b1).2]; exact b2, adv_small 4096 (by simp)⟩, fun X hX hY hA hQ => ?_, fun X hX hT => ?_⟩
      · refine (rsadv_ok room mn mx s A c Q d k X h.jb h.bd h.ok h.rm (by omega) hen hX hY hA hQ).mono fun e w' hq => ?_
        obtain ⟨A', c', Q', d', B, cb, rfl, q1, q2, q3, q4, q5, q6, q7⟩ := hq
        exact ⟨A', c', Q', d', B, cb, rfl, q1, q2, q3, q4, q5, q6, q7⟩
      · refine (sadv_ok g room mn mx s tn k X hX h.jb h.ok (by omega) hen hT h.tg (by have := h.tn; omega)).mono fun e w' hq => ?_
        obtain ⟨A', c', rfl, q1, q2, q3, q4⟩ := hq
        exact ⟨A', c', rfl, q1, q3, q4⟩
theorem bdrwN {w : World} {b : Nat} {o : Obj} (h : w.heap[b]? = some o) (n : Nat) : (w.drewN n).heap[b]? = some o := h
/-- What plays hands back, whatever the act is. -/
def RetPls (g : SvF) (room : Nat) (mn mx : Int) (s : Sst) (tn : Nat) (A Q : Option Addr) (w : World) (e : Ending) (w' : World) : Prop :=
  ∃ s2 : Sst, JB s2 ∧ Bd s2 ∧ s2.P.length ≤ s.P.length + 1 ∧ RetPl g room mn mx s2 tn A Q w e w'
set_option maxHeartbeats 16000000 in
set_option maxRecDepth 100000 in
theorem plays_3 (g : SvF) (room : Nat) (mn mx : Int) (s : Sst) (tn : Nat) (A : Option Addr) (c : Nat) (Q : Option Addr) (d : Nat) (id at1 e2 : Int) (w : World) (h : PlIn w g room mn mx s tn A Q) :
    Calls Tryz.prog 7 #[.pointer (some ⟨g.ps, 0, none⟩), rsS room mn mx s A c Q d, .agg #[.int .i64 3, .int .i64 id, .int .i64 at1, .int .i64 e2]] w (RetPls g room mn mx s (tn + 4195328) A Q w) := by
  have HS := Lib.hid h.sv; have HRa := Lib.hid h.ra; have HRq := Lib.hid h.rq; have HA := Lib.hid h.ha; have HQ := Lib.hid h.hq; have HT := Lib.hid h.tab; have HTg := Lib.hid h.tg; have HOk := Lib.hid h.ok; have HJ := Lib.hid h.jb; have HBd := Lib.hid h.bd; have HRm := Lib.hid h.rm; have HTn := Lib.hid h.tn
  have HGl : Hid (∀ k ∈ g.l, k < w.heap.size) := Lib.hid h.sv.lt
  have h0 := h.jb.now0
  have h1 := h.jb.now1
  obtain ⟨s2, M, gone, cc, hfa, hfr, hfe⟩ := adv_both g room mn mx s tn A c Q d at1 w h
  have HFa := Lib.hid hfa
  have fR := Lib.hid hfr
  have fA := Lib.hid hfe
  have HPl : Hid (∀ e w', RetPl g room mn mx s2 (tn + 4195328) A Q w e w' → RetPls g room mn mx s (tn + 4195328) A Q w e w') := Lib.hid (fun e w' q => ⟨s2, HFa.out.1, HFa.out.2.1, Nat.le_succ_of_le HFa.out.2.2.1, q⟩)
  clear hfa hfr hfe h
  obtain ⟨L, P, now, ar, goal, wk⟩ := s
  obtain ⟨L2, P2, n2, a2, g2, k2⟩ := s2
  unfold rsS at fR ⊢
  unfold RefAd at fR
  unfold RealAd at fA
  unfold rsv at fR ⊢
  dsimp only at *
  go_enter Tryz.func7, Tryz.ntmps7
  go_upto_region 1 with fail
  refine name_world fun V hV => ?_
  have HP1 : Hid (PlV w V #[.int .i64 now, .int .i64 (room : Int), .slice A L.length c, .slice Q P.length d, .int .i64 mn, .int .i64 mx, .bool ar, .int .i64 goal, .int .i64 wk] #[.int .i64 3, .int .i64 id, .int .i64 at1, .int .i64 e2]) := Lib.hid (by rw [hV]; exact PlV.mk0 ..)
  clear hV
  obtain ⟨x0, y0⟩ := box_rules (HP1.out).b0
  have l0 := box_lt (HP1.out).b0
  obtain ⟨x1, y1⟩ := box_rules (HP1.out).b1
  have l1 := box_lt (HP1.out).b1
  obtain ⟨x2, y2⟩ := box_rules (HP1.out).b2
  have l2 := box_lt (HP1.out).b2
  have HB1 := HP1.out.bel
  have hlow := HB1.size
  have frr := Lib.hid (fR.out V (HRa.out.below HB1) (HRq.out.below HB1) (fun a ha => Nat.lt_of_lt_of_le (HA.out a ha).1 hlow) (fun a ha => Nat.lt_of_lt_of_le (HQ.out a ha).1 hlow))
  clear fR HB1 hlow
  go_upto_region 17 with (go_at_call 25; (with_reducible refine frr.out.mono ?_); rintro e w5 ⟨A5, c5, Q5, d5, B5, cb5, rfl, hr5, hq5, hbb5, ho5, hp5, hob5, hb5⟩; have HR5 := Lib.hid hr5; have HQ5 := Lib.hid hq5; have HBB5 := Lib.hid hbb5; have HO5 := Lib.hid ho5; have HP5 := Lib.hid hp5; have HOb5 := Lib.hid hob5; have HB5 := Lib.hid hb5; have HPw := Lib.hid (HP1.out.below hb5); clear hr5 hq5 hbb5 ho5 hp5 hob5 hb5 x0 y0 l0 x1 y1 l1 x2 y2 l2)
  refine name_world fun U hU => ?_
  have hbU : Below w5.heap.size w5 U := by
    rw [hU]; first | exact (Below.refl _ _).alloc (Nat.le_refl _) _ | exact (((Tn.refl [] w5).alloc _).new (set9 (heap_alloc_new _ _) _ _ _ _ _ _ _ _ _).2 (fun b hb => by simp at hb; omega)).base (Below.refl _ _) (fun b hb => by cases hb) (Nat.le_refl _)
  have HU : Hid (U.heap[w5.heap.size]? = some (.cells #[.int .i64 n2, .int .i64 (room : Int), .slice A5 L2.length c5, .slice Q5 P2.length d5, .int .i64 mn, .int .i64 mx, .bool a2, .int .i64 g2, .int .i64 k2] 37 (0, 0))) := Lib.hid (by
    rw [hU]; first | exact heap_alloc_new _ _ | exact (set9 (heap_alloc_new _ _) _ _ _ _ _ _ _ _ _).1)
  have HPu := Lib.hid (HPw.out.below hbU)
  have HBU := Lib.hid (HPu.out.bel)
  have HRu := Lib.hid (HR5.out.below hbU)
  have HQu := Lib.hid (HQ5.out.below hbU)
  have HBu := Lib.hid (HBB5.out.below hbU)
  have hsU := hbU.size
  have hs5 := HB5.out.size
  have hsw := HP1.out.sz
  clear hU hbU frr HPw HP1 HR5 HQ5 HBB5 HB5
  have HSu := Lib.hid (HS.out.turn (Tn.of_below [] ((HBU.out))) (fun _ _ => by simp))
  have HTu : Hid (Tab U) := Lib.hid (HT.out.below HBU.out HT.out.lt)
  have HAu : Hid (∀ a, A5 = some a → a.block ∉ g.l) := Lib.hid (fun a ha hm => by
    have h7 := HGl.out _ hm
    rcases HO5.out a ha with q | q
    · exact (HA.out a q).2 hm
    · omega)
  have HQu2 : Hid (∀ a, Q5 = some a → a.block ∉ g.l) := Lib.hid (fun a ha hm => by
    have h7 := HGl.out _ hm
    rcases HP5.out a ha with q | q
    · exact (HQ.out a q).2 hm
    · omega)
  have HBu2 : Hid (∀ a, B5 = some a → a.block ∉ g.l) := Lib.hid (fun a ha hm => by
    have h7 := HGl.out _ hm
    have h6 := HOb5.out a ha
    omega)
  obtain ⟨x0, y0⟩ := box_rules (HPu.out).b0
  have l0 := box_lt (HPu.out).b0
  obtain ⟨x1, y1⟩ := box_rules (HPu.out).b1
  have l1 := box_lt (HPu.out).b1
  obtain ⟨x2, y2⟩ := box_rules (HPu.out).b2
  have l2 := box_lt (HPu.out).b2
  obtain ⟨x8, y8⟩ := box_rules HU.out
  have l8 := box_lt HU.out
  go_upto_region 18 with (go_at_call 12; (with_reducible refine (fA.out _ HSu.out HTu.out).mono ?_); rintro e w8 ⟨A8, c8, rfl, hr8, hs8, ht8⟩; have HR8 := Lib.hid hr8; have HS8 := Lib.hid hs8; have HT8 := Lib.hid ht8; clear hr8 hs8 ht8; have HPb := Lib.hid (HPu.out.tn HT8.out HGl.out); have HU8 := Lib.hid (HT8.out.box HU.out (fun hm => by have := HGl.out _ hm; omega)); have HB8 := Lib.hid (HBu.out.tn HT8.out HBu2.out); clear x0 y0 l0 x1 y1 l1 x2 y2 l2 x8 y8 l8)
  obtain ⟨x0, y0⟩ := box_rules HPb.out.1
  obtain ⟨x1, y1⟩ := box_rules HPb.out.2.1
  obtain ⟨x2, y2⟩ := box_rules HPb.out.2.2
  have l2 := box_lt HPb.out.2.2
  obtain ⟨x8, y8⟩ := box_rules HU8.out
  have l8 := box_lt HU8.out
  have fS := Lib.hid (fun X (hx : Rd X A8 (M.flatMap fic)) (hy : Rd X B5 (M.flatMap fic)) => rtsame_one M (by have := HFa.out.2.2.2; omega) A8 c8 B5 cb5 X hx hy)
  have z1 : (cc == cc) = true := by simp
  have z2 : (gone == gone) = true := by simp
  have z3 : decide (cc = cc) = true := by simp
  have z4 : decide (gone = gone) = true := by simp
  have hb2m : w.heap.size + 2 ∈ [w.heap.size + 2] := by simp
  have hRule : ∀ w', Hid (Tn [w.heap.size + 2] w8 w') → ∀ i, w'.cell? ⟨w5.heap.size, i, none⟩ = (#[.int .i64 n2, .int .i64 (room : Int), .slice A5 L2.length c5, .slice Q5 P2.length d5, .int .i64 mn, .int .i64 mx, .bool a2, .int .i64 g2, .int .i64 k2] : Array Value)[i]? := fun w' ht => (box_rules (ht.out.box HU8.out (fun hm => by have h7 := List.mem_singleton.1 hm; omega))).1
  clear x8 y8 x0 y0 x1 y1
  go_region_held3 (fun w' => Hid (Tn [w.heap.size + 2] w8 w')) ((refine Lib.hid ?_; repeat (with_reducible first | exact Tn.refl _ _ | refine tsetR ?_ hb2m _ | refine Tn.drew ?_ | refine Tn.drewN ?_ _))) ((first | (go_at_call 15; (with_reducible refine (fS.out _ HR8.out.drew HB8.out.drew).mono ?_); rintro e w9 ⟨rfl, n9, rfl⟩)))
  all_goals
    go_wp2
    refine name_post fun V4 hV4 => ?_
    obtain ⟨hE4, hT4⟩ := set9 (bdrwN HPb.out.2.2 (1 + n9)) (.int .i64 n2) (.int .i64 (room : Int)) (.slice A5 L2.length c5) (.slice Q5 P2.length d5) (.int .i64 mn) (.int .i64 mx) (.bool a2) (.int .i64 g2) (.int .i64 k2)
    have hT4 := (((Tn.refl _ _).drewN (1 + n9)).trans hT4)
    rw [← hV4] at hE4 hT4
    obtain ⟨vx, vy⟩ := box_rules hE4
    clear hV4 hRule
    refine bodyPost_ret (v := .tuple #[.agg #[.int .i64 n2, .int .i64 (room : Int), .slice A5 L2.length c5, .slice Q5 P2.length d5, .int .i64 mn, .int .i64 mx, .bool a2, .int .i64 g2, .int .i64 k2], .bool true]) (by simp [results, Tryz.f7, go_sem, vx]) rfl ?_
    exact HPl.out _ _ (pl_end (s2 := ⟨L2, P2, n2, a2, g2, k2⟩) HGl.out HBU.out (Below.refl _ _) HT8.out hT4 HS8.out HRu.out HQu.out HO5.out HP5.out HAu.out HQu2.out HA.out HQ.out hsw hsU)
set_option maxHeartbeats 4000000 in
set_option maxRecDepth 100000 in
theorem plays_n (g : SvF) (room : Nat) (mn mx : Int) (s : Sst) (tn : Nat) (A : Option Addr) (c : Nat) (Q : Option Addr) (d : Nat) (kd id at1 e2 : Int) (w : World) (h : PlIn w g room mn mx s tn A Q) (hk : ¬ (0 ≤ kd ∧ kd ≤ 5)) :
    Calls Tryz.prog 7 #[.pointer (some ⟨g.ps, 0, none⟩), rsS room mn mx s A c Q d, .agg #[.int .i64 kd, .int .i64 id, .int .i64 at1, .int .i64 e2]] w (RetPls g room mn mx s (tn + 4195328) A Q w) := by
  have HS := Lib.hid h.sv; have HRa := Lib.hid h.ra; have HRq := Lib.hid h.rq; have HA := Lib.hid h.ha; have HQ := Lib.hid h.hq; have HT := Lib.hid h.tab; have HTg := Lib.hid h.tg; have HOk := Lib.hid h.ok; have HJ := Lib.hid h.jb; have HBd := Lib.hid h.bd; have HRm := Lib.hid h.rm; have HTn := Lib.hid h.tn
  have HGl : Hid (∀ k ∈ g.l, k < w.heap.size) := Lib.hid h.sv.lt
  have h0 := h.jb.now0
  have h1 := h.jb.now1
  clear h
  have k0 : (kd == 0) = false := beq_eq_false_iff_ne.2 (by omega)
  have k1 : (kd == 1) = false := beq_eq_false_iff_ne.2 (by omega)
  have k2 : (kd == 2) = false := beq_eq_false_iff_ne.2 (by omega)
  have k3 : (kd == 3) = false := beq_eq_false_iff_ne.2 (by omega)
  have k4 : (kd == 4) = false := beq_eq_false_iff_ne.2 (by omega)
  have k5 : (kd == 5) = false := beq_eq_false_iff_ne.2 (by omega)
  have HPl : Hid (∀ e w', RetPl g room mn mx s (tn + 4195328) A Q w e w' → RetPls g room mn mx s (tn + 4195328) A Q w e w') := Lib.hid (fun e w' q => ⟨s, HJ.out, HBd.out, Nat.le_succ _, q⟩)
  clear hk
  obtain ⟨L, P, now, ar, goal, wk⟩ := s
  unfold rsS
  unfold rsv
  dsimp only at *
  go_enter Tryz.func7, Tryz.ntmps7
  go_upto_region 1 with fail
  refine name_world fun V hV => ?_
  have HP1 : Hid (PlV w V #[.int .i64 now, .int .i64 (room : Int), .slice A L.length c, .slice Q P.length d, .int .i64 mn, .int .i64 mx, .bool ar, .int .i64 goal, .int .i64 wk] #[.int .i64 kd, .int .i64 id, .int .i64 at1, .int .i64 e2]) := Lib.hid (by rw [hV]; exact PlV.mk0 ..)
  clear hV
  obtain ⟨x0, y0⟩ := box_rules (HP1.out).b0
  have l0 := box_lt (HP1.out).b0
  obtain ⟨x1, y1⟩ := box_rules (HP1.out).b1
  have l1 := box_lt (HP1.out).b1
  obtain ⟨x2, y2⟩ := box_rules (HP1.out).b2
  have l2 := box_lt (HP1.out).b2
  go_wp2
  refine name_post fun V4 hV4 => ?_
  obtain ⟨hE4, hT4⟩ := set9 HP1.out.b2 (.int .i64 now) (.int .i64 (room : Int)) (.slice A L.length c) (.slice Q P.length d) (.int .i64 mn) (.int .i64 mx) (.bool ar) (.int .i64 goal) (.int .i64 wk)
  rw [← hV4] at hE4 hT4
  obtain ⟨vx, vy⟩ := box_rules hE4
  clear hV4
  refine bodyPost_ret (v := .tuple #[.agg #[.int .i64 now, .int .i64 (room : Int), .slice A L.length c, .slice Q P.length d, .int .i64 mn, .int .i64 mx, .bool ar, .int .i64 goal, .int .i64 wk], .bool true]) (by simp [results, Tryz.f7, go_sem, vx]) rfl ?_
  have hBV := HP1.out.bel
  have hsv := HP1.out.sz
  exact HPl.out _ _ (pl_end (n1 := V.heap.size) (n5 := V.heap.size) (s2 := ⟨L, P, now, ar, goal, wk⟩) HGl.out hBV (Below.refl _ _) (Tn.refl _ _) hT4 ((HS.out.mono (by omega)).turn (Tn.of_below [] hBV) (fun _ _ => by simp)) (HRa.out.below hBV) (HRq.out.below hBV) (fun a ha => .inl ha) (fun a ha => .inl ha) (fun a ha => (HA.out a ha).2) (fun a ha => (HQ.out a ha).2) HA.out HQ.out hsv (Nat.le_refl _))
end Go.Proofs.YtiblpnadninmbaaGreatDoor

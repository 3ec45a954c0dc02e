/- Package vergelaw10: the walk of plays. Conditions: a service's memory, lists that read, the de Bruijn table. -/
import Derived.Test.YtiblpnadninmbaaGreatDoorTyFx
namespace Go.Proofs.YtiblpnadninmbaaGreatDoor
open Go.RowKit Go.Shelf
attribute [local go_sem] Oper.semAt_some

/-- The call's boxes: the document's service, the act, the result. -/
structure PlV (w V : World) (sv av : Array Value) : Prop where
  b0 : V.heap[w.heap.size]? = some (.cells sv 37 (0, 0))
  b1 : V.heap[w.heap.size + 1]? = some (.cells av 41 (0, 0))
  b2 : V.heap[w.heap.size + 2]? = some (.cells #[.int .i64 0, .int .i64 0, .slice none 0 0, .slice none 0 0, .int .i64 0, .int .i64 0, .bool false, .int .i64 0, .int .i64 0] 37 (0, 0))
  bel : Below w.heap.size w V
  sz : w.heap.size + 3 ≤ V.heap.size
theorem PlV.below {w V X : World} {sv av : Array Value} (h : PlV w V sv av) (hb : Below V.heap.size V X) : PlV w X sv av :=
  ⟨box_keep h.b0 hb, box_keep h.b1 hb, box_keep h.b2 hb, h.bel.trans (hb.mono h.bel.size), Nat.le_trans h.sz hb.size⟩
theorem PlV.tn {F : List Nat} {w V X : World} {sv av : Array Value} (h : PlV w V sv av) (ht : Tn F V X) (hF : ∀ k ∈ F, k < w.heap.size) : X.heap[w.heap.size]? = some (.cells sv 37 (0, 0)) ∧ X.heap[w.heap.size + 1]? = some (.cells av 41 (0, 0)) ∧ X.heap[w.heap.size + 2]? = some (.cells #[.int .i64 0, .int .i64 0, .slice none 0 0, .slice none 0 0, .int .i64 0, .int .i64 0, .bool false, .int .i64 0, .int .i64 0] 37 (0, 0)) :=
  ⟨ht.box h.b0 (fun hm => by have := hF _ hm; omega), ht.box h.b1 (fun hm => by have := hF _ hm; omega), ht.box h.b2 (fun hm => by have := hF _ hm; omega)⟩
theorem PlV.mk0 (w : World) (sv av : Array Value) :
    PlV w (((w.alloc (.cells sv 37 (0, 0))).alloc (.cells av 41 (0, 0))).alloc (.cells #[.int .i64 0, .int .i64 0, .slice none 0 0, .slice none 0 0, .int .i64 0, .int .i64 0, .bool false, .int .i64 0, .int .i64 0] 37 (0, 0))) sv av :=
  ⟨box_alloc (box_alloc (heap_alloc_new _ _) _) _, box_alloc (heap_new_at _ (by simp)) _, heap_new_at _ (by simp), (((Below.refl _ _).alloc (Nat.le_refl _) _).alloc (by simp) _).alloc (by simp; omega) _, by simp⟩
/-- What plays hands back. -/
def RetPl (g : SvF) (room : Nat) (mn mx : Int) (s2 : Sst) (tn : Nat) (A Q : Option Addr) (w : World) (e : Ending) (w' : World) : Prop :=
  ∃ A' c' Q' d', e = .returned (.tuple #[rsS room mn mx s2 A' c' Q' d', .bool true]) ∧ Rd w' A' (s2.L.flatMap duc) ∧ Rd w' Q' (s2.P.flatMap pec) ∧
    (∀ a, A' = some a → A = some a ∨ (w.heap.size ≤ a.block ∧ a.block < w'.heap.size)) ∧ (∀ a, Q' = some a → Q = some a ∨ (w.heap.size ≤ a.block ∧ a.block < w'.heap.size)) ∧ SvS w' g room mn mx s2.now s2 tn ∧ Tn g.l w w'
/-- What plays is given. -/
structure PlIn (w : World) (g : SvF) (room : Nat) (mn mx : Int) (s : Sst) (tn : Nat) (A Q : Option Addr) : Prop where
  sv : SvS w g room mn mx s.now s tn
  jb : JB s
  bd : Bd s
  ok : TmOk mn mx
  rm : room ≤ 4096
  tn : tn ≤ 1125899906842624
  ra : Rd w A (s.L.flatMap duc)
  rq : Rd w Q (s.P.flatMap pec)
  ha : ∀ a, A = some a → a.block < w.heap.size ∧ a.block ∉ g.l
  hq : ∀ a, Q = some a → a.block < w.heap.size ∧ a.block ∉ g.l
  tab : Tab w
  tg : 0 ∉ g.l
theorem rs_start (room : Nat) (mn mx : Int) (s : Sst) (id a : Int) : RsCall mn mx s (insL room s.L id a) (sameP s.P) (insC room s.L id a) = startS room mn mx s id a := rfl
theorem rs_every (room : Nat) (mn mx : Int) (s : Sst) (id a p : Int) : RsCall mn mx s (everyL room s.L id a p) (everyP room s.L s.P id a p) (everyC room s.L id a p) = everyS room mn mx s id a p := rfl
theorem rs_stop (mn mx : Int) (s : Sst) (id : Int) : RsCall mn mx s (canL s.L id) (woD s.P id) (canC s.L id) = stopS mn mx s id := rfl
theorem SvS.drew2 {w : World} {g : SvF} {room : Nat} {mn mx T : Int} {s : Sst} {tn : Nat} (h : SvS w g room mn mx T s tn) (n : Nat) : SvS (w.drewN n) g room mn mx T s tn := h.turn (F := []) ((Tn.refl _ _).drewN n) (fun _ _ => by simp)
theorem TabD {w : World} (h : Tab w) : Tab w.drew := h
theorem start_now' (room : Nat) (mn mx : Int) (s : Sst) (id a : Int) : (startS room mn mx s id a).now = s.now := by
  unfold startS
  split
  · exact (look_now mn mx _).1
  · rfl
theorem every_now' (room : Nat) (mn mx : Int) (s : Sst) (id a p : Int) : (everyS room mn mx s id a p).now = s.now := by
  unfold everyS
  split
  · exact (look_now mn mx _).1
  · rfl
theorem stop_now' (mn mx : Int) (s : Sst) (id : Int) : (stopS mn mx s id).now = s.now := by
  unfold stopS
  split
  · exact (look_now mn mx _).1
  · rfl
theorem pl_end {g : SvF} {room : Nat} {mn mx : Int} {s2 : Sst} {tn : Nat} {A Q A5 : Option Addr} {c5 : Nat} {Q5 : Option Addr} {d5 : Nat} {w U U' w8 V4 : World} {n1 n5 : Nat} (hgl : ∀ k ∈ g.l, k < w.heap.size) (hBU : Below w.heap.size w U) (hUU : Below U.heap.size U U') (h8 : Tn g.l U' w8) (h4 : Tn [w.heap.size + 2] w8 V4) (hs : SvS w8 g room mn mx s2.now s2 tn)
    (hr : Rd U A5 (s2.L.flatMap duc)) (hq : Rd U Q5 (s2.P.flatMap pec)) (ho : ∀ a, A5 = some a → A = some a ∨ (n1 ≤ a.block ∧ a.block < n5)) (hp : ∀ a, Q5 = some a → Q = some a ∨ (n1 ≤ a.block ∧ a.block < n5))
    (ha : ∀ a, A5 = some a → a.block ∉ g.l) (ha' : ∀ a, Q5 = some a → a.block ∉ g.l) (hA : ∀ a, A = some a → a.block < w.heap.size ∧ a.block ∉ g.l) (hQ : ∀ a, Q = some a → a.block < w.heap.size ∧ a.block ∉ g.l) (h1 : w.heap.size + 3 ≤ n1) (h5 : n5 ≤ U.heap.size) :
    RetPl g room mn mx s2 tn A Q w (.returned (.tuple #[.agg #[.int .i64 s2.now, .int .i64 (room : Int), .slice A5 s2.L.length c5, .slice Q5 s2.P.length d5, .int .i64 mn, .int .i64 mx, .bool s2.armed, .int .i64 s2.goal, .int .i64 s2.wake], .bool true])) V4 := by
  have z1 := h8.size
  have z2 := h4.size
  have z3 := hUU.size
  refine ⟨A5, c5, Q5, d5, rfl, ((hr.below hUU).tn h8 ha).tn h4 (fun a e hm => ?_), ((hq.below hUU).tn h8 ha').tn h4 (fun a e hm => ?_), fun a e => ?_, fun a e => ?_, hs.turn h4 (fun b hb hm => ?_), ?_⟩
  · have q := List.mem_singleton.1 hm
    rcases ho a e with p | p
    · have := (hA a p).1; omega
    · omega
  · have q := List.mem_singleton.1 hm
    rcases hp a e with p | p
    · have := (hQ a p).1; omega
    · omega
  · rcases ho a e with p | p
    · exact .inl p
    · exact .inr ⟨by omega, by omega⟩
  · rcases hp a e with p | p
    · exact .inl p
    · exact .inr ⟨by omega, by omega⟩
  · have q := List.mem_singleton.1 hm
    have := hgl b hb; omega
  · have s0 := hBU.size
    have b1 : Tn g.l w U := ⟨hBU.os, hBU.tape, hBU.output, hBU.size, fun k hk _ => hBU.block k hk⟩
    exact (((b1.trans (Tn.of_below g.l hUU)).trans h8)).new h4 (fun b hb => by have := List.mem_singleton.1 hb; omega)
theorem insL_le (room : Nat) (L : List Du) (id a : Int) : (insL room L id a).length ≤ L.length + 1 := by
  unfold insL; split
  · rw [List.length_append]; simp
  · omega
theorem everyL_le (room : Nat) (L : List Du) (id a p : Int) : (everyL room L id a p).length ≤ L.length + 1 := by
  unfold everyL; split
  · exact insL_le ..
  · omega
theorem canL_le (L : List Du) (id : Int) : (canL L id).length ≤ L.length := List.length_filter_le _ _
theorem every_at {L : List Du} (h : AtOk L) (room : Nat) (id a p : Int) : AtOk (everyL room L id a p) := by
  unfold everyL; split
  · exact h.ins room id a
  · exact h
set_option maxHeartbeats 16000000 in
set_option maxRecDepth 100000 in
theorem plays_4 (g : SvF) (room : Nat) (mn mx : Int) (s : Sst) (tn : Nat) (A : Option Addr) (c : Nat) (Q : Option Addr) (d : Nat) (id at1 e2 : Int) (w : World) (h : PlIn w g room mn mx s tn A Q) (hid : I64N id) :
    Calls Tryz.prog 7 #[.pointer (some ⟨g.ps, 0, none⟩), rsS room mn mx s A c Q d, .agg #[.int .i64 4, .int .i64 id, .int .i64 at1, .int .i64 e2]] w (RetPl g room mn mx (startS room mn mx s id at1) (tn + 1) A Q w) := by
  have HS := Lib.hid h.sv; have HRa := Lib.hid h.ra; have HRq := Lib.hid h.rq; have HA := Lib.hid h.ha; have HQ := Lib.hid h.hq; have HT := Lib.hid h.tab; have HTg := Lib.hid h.tg; have HOk := Lib.hid h.ok; have HJ := Lib.hid h.jb; have HBd := Lib.hid h.bd; have HRm := Lib.hid h.rm; have HTn := Lib.hid h.tn
  have HGl : Hid (∀ k ∈ g.l, k < w.heap.size) := Lib.hid h.sv.lt
  have h0 := h.jb.now0
  have h1 := h.jb.now1
  have HId := Lib.hid hid
  skip
  have fR := Lib.hid (fun X (hX : Rd X A (s.L.flatMap duc)) (hY : Rd X Q (s.P.flatMap pec)) (hA : ∀ a, A = some a → a.block < X.heap.size) (hQ : ∀ a, Q = some a → a.block < X.heap.size) => rsstart_any room mn mx s id at1 A c Q d X HBd.out.1 HBd.out.2.1 HJ.out (by have h7 := insL_le room s.L id at1; have h8 := HBd.out.1; omega) (HBd.out.2.2.ins room id at1) HOk.out hX hY hA hQ)
  rw [rs_start] at fR
  have fA := Lib.hid (fun X (hX : SvS X g room mn mx s.now s tn) (hTX : Tab X) => sstart_any g room mn mx s id at1 tn X hX HId.out (by have := HTn.out; omega) HOk.out h0 h1 hTX HTg.out)
  have hnw := start_now' room mn mx s id at1
  obtain ⟨s2, hs2⟩ : ∃ s2, startS room mn mx s id at1 = s2 := ⟨_, rfl⟩
  rw [hs2] at fR fA hnw
  rw [hs2]
  clear hs2
  obtain ⟨cc, hcc⟩ : ∃ cc, insC room s.L id at1 = cc := ⟨_, rfl⟩
  rw [hcc] at fR fA
  clear hcc h hid
  obtain ⟨L, P, now, ar, goal, wk⟩ := s
  obtain ⟨L2, P2, n2, a2, g2, k2⟩ := s2
  unfold rsS at fR ⊢
  unfold RetRs RetRv at fR
  unfold rsv at fR ⊢
  dsimp only at *
  have HNw := Lib.hid hnw
  clear hnw
  go_enter Tryz.func7, Tryz.ntmps7
  go_upto_region 1 with fail
  refine name_world fun V hV => ?_
  have HP0 : Hid (PlV w V #[.int .i64 now, .int .i64 (room : Int), .slice A L.length c, .slice Q P.length d, .int .i64 mn, .int .i64 mx, .bool ar, .int .i64 goal, .int .i64 wk] #[.int .i64 4, .int .i64 id, .int .i64 at1, .int .i64 e2]) := Lib.hid (by rw [hV]; exact PlV.mk0 ..)
  clear hV
  obtain ⟨x0, y0⟩ := box_rules (HP0.out).b0
  have l0 := box_lt (HP0.out).b0
  obtain ⟨x1, y1⟩ := box_rules (HP0.out).b1
  have l1 := box_lt (HP0.out).b1
  obtain ⟨x2, y2⟩ := box_rules (HP0.out).b2
  have l2 := box_lt (HP0.out).b2
  go_upto_region 3 with fail
  have HP1 := HP0
  have HB1 := HP1.out.bel
  have hlow := HB1.size
  have frr := Lib.hid (fR.out V (HRa.out.below HB1) (HRq.out.below HB1) (fun a ha => Nat.lt_of_lt_of_le (HA.out a ha).1 hlow) (fun a ha => Nat.lt_of_lt_of_le (HQ.out a ha).1 hlow))
  clear fR HB1 hlow
  go_upto_region 7 with (go_at_call 22; (with_reducible refine frr.out.mono ?_); rintro e w5 ⟨A5, c5, Q5, d5, rfl, hr5, hq5, ho5, hp5, hb5⟩; have HR5 := Lib.hid hr5; have HQ5 := Lib.hid hq5; have HO5 := Lib.hid ho5; have HP5 := Lib.hid hp5; have HB5 := Lib.hid hb5; have HPw := Lib.hid (HP1.out.below hb5); clear hr5 hq5 ho5 hp5 hb5 x0 y0 l0 x1 y1 l1 x2 y2 l2)
  refine name_world fun U hU => ?_
  have hbU : Below w5.heap.size w5 U := by
    rw [hU]; first | exact (Below.refl _ _).alloc (Nat.le_refl _) _ | exact (((Tn.refl [] w5).alloc _).new (set9 (heap_alloc_new _ _) _ _ _ _ _ _ _ _ _).2 (fun b hb => by simp at hb; omega)).base (Below.refl _ _) (fun b hb => by cases hb) (Nat.le_refl _)
  have HU : Hid (U.heap[w5.heap.size]? = some (.cells #[.int .i64 n2, .int .i64 (room : Int), .slice A5 L2.length c5, .slice Q5 P2.length d5, .int .i64 mn, .int .i64 mx, .bool a2, .int .i64 g2, .int .i64 k2] 37 (0, 0))) := Lib.hid (by
    rw [hU]; first | exact heap_alloc_new _ _ | exact (set9 (heap_alloc_new _ _) _ _ _ _ _ _ _ _ _).1)
  have HPu := Lib.hid (HPw.out.below hbU)
  have HBU := Lib.hid (HPu.out.bel)
  have HB5u := Lib.hid (HB5.out.trans (hbU.mono HB5.out.size))
  have HRu := Lib.hid (HR5.out.below hbU)
  have HQu := Lib.hid (HQ5.out.below hbU)
  have hsU := hbU.size
  have hs5 := HB5.out.size
  have hsw := HP1.out.sz
  clear hU hbU frr HPw HP1 HR5 HQ5 HB5
  have HSu := Lib.hid (HS.out.turn (Tn.of_below [] ((HBU.out))) (fun _ _ => by simp))
  have HTu : Hid (Tab U) := Lib.hid (HT.out.below HBU.out HT.out.lt)
  have HAu : Hid (∀ a, A5 = some a → a.block ∉ g.l) := Lib.hid (fun a ha hm => by
    have h7 := HGl.out _ hm
    rcases HO5.out a ha with q | q
    · exact (HA.out a q).2 hm
    · omega)
  have HQu2 : Hid (∀ a, Q5 = some a → a.block ∉ g.l) := Lib.hid (fun a ha hm => by
    have h7 := HGl.out _ hm
    rcases HP5.out a ha with q | q
    · exact (HQ.out a q).2 hm
    · omega)
  obtain ⟨x0, y0⟩ := box_rules (HPu.out).b0
  have l0 := box_lt (HPu.out).b0
  obtain ⟨x1, y1⟩ := box_rules (HPu.out).b1
  have l1 := box_lt (HPu.out).b1
  obtain ⟨x2, y2⟩ := box_rules (HPu.out).b2
  have l2 := box_lt (HPu.out).b2
  obtain ⟨x8, y8⟩ := box_rules HU.out
  have l8 := box_lt HU.out
  go_region_with ((go_at_call 11; (with_reducible refine (fA.out _ HSu.out.drew1 (TabD HTu.out)).mono ?_); rintro e w8 ⟨rfl, hs8, ht8⟩; have HS8 := Lib.hid hs8; have HT8 := Lib.hid ht8; clear hs8 ht8; have HPb := Lib.hid (HPu.out.tn ((Tn.refl g.l U).drew.trans HT8.out) HGl.out); have HU8 := Lib.hid (((Tn.refl g.l U).drew.trans HT8.out).box HU.out (fun hm => by have := HGl.out _ hm; omega)); clear x0 y0 l0 x1 y1 l1 x2 y2 l2 x8 y8 l8; obtain ⟨x0, y0⟩ := box_rules HPb.out.1; obtain ⟨x1, y1⟩ := box_rules HPb.out.2.1; obtain ⟨x2, y2⟩ := box_rules HPb.out.2.2; have l2 := box_lt HPb.out.2.2; obtain ⟨x8, y8⟩ := box_rules HU8.out; have l8 := box_lt HU8.out))
  all_goals
    go_wp2
    refine name_post fun V4 hV4 => ?_
    obtain ⟨hE4, hT4⟩ := set9 HPb.out.2.2 (.int .i64 n2) (.int .i64 (room : Int)) (.slice A5 L2.length c5) (.slice Q5 P2.length d5) (.int .i64 mn) (.int .i64 mx) (.bool a2) (.int .i64 g2) (.int .i64 k2)
    first
      | (rw [← hV4] at hE4 hT4)
      | (have hE4 := bdrw hE4; have hT4 := hT4.drew; rw [← hV4] at hE4 hT4)
    obtain ⟨vx, vy⟩ := box_rules hE4
    clear hV4
    refine bodyPost_ret (v := .tuple #[.agg #[.int .i64 n2, .int .i64 (room : Int), .slice A5 L2.length c5, .slice Q5 P2.length d5, .int .i64 mn, .int .i64 mx, .bool a2, .int .i64 g2, .int .i64 k2], .bool true]) (by simp [results, Tryz.f7, go_sem, vx]) rfl ?_
    exact pl_end (s2 := ⟨L2, P2, n2, a2, g2, k2⟩) HGl.out HBU.out ((Below.refl _ _).drew) HT8.out hT4 (by have h7 := HS8.out; rw [← HNw.out] at h7; exact h7) HRu.out HQu.out HO5.out HP5.out HAu.out HQu2.out HA.out HQ.out hsw hsU
set_option maxHeartbeats 16000000 in
set_option maxRecDepth 100000 in
theorem plays_0 (g : SvF) (room : Nat) (mn mx : Int) (s : Sst) (tn : Nat) (A : Option Addr) (c : Nat) (Q : Option Addr) (d : Nat) (id at1 e2 : Int) (w : World) (h : PlIn w g room mn mx s tn A Q) (hid : I64N id) :
    Calls Tryz.prog 7 #[.pointer (some ⟨g.ps, 0, none⟩), rsS room mn mx s A c Q d, .agg #[.int .i64 0, .int .i64 id, .int .i64 at1, .int .i64 e2]] w (RetPl g room mn mx (startS room mn mx s id (by10 s.now at1)) (tn + 1) A Q w) := by
  have HS := Lib.hid h.sv; have HRa := Lib.hid h.ra; have HRq := Lib.hid h.rq; have HA := Lib.hid h.ha; have HQ := Lib.hid h.hq; have HT := Lib.hid h.tab; have HTg := Lib.hid h.tg; have HOk := Lib.hid h.ok; have HJ := Lib.hid h.jb; have HBd := Lib.hid h.bd; have HRm := Lib.hid h.rm; have HTn := Lib.hid h.tn
  have HGl : Hid (∀ k ∈ g.l, k < w.heap.size) := Lib.hid h.sv.lt
  have h0 := h.jb.now0
  have h1 := h.jb.now1
  have HId := Lib.hid hid
  obtain ⟨bt, hbt⟩ : ∃ bt, by10 s.now at1 = bt := ⟨_, rfl⟩; have fB := Lib.hid (fun X => by10_any s.now at1 X h0 h1); rw [hbt] at fB; rw [hbt]; clear hbt
  have fR := Lib.hid (fun X (hX : Rd X A (s.L.flatMap duc)) (hY : Rd X Q (s.P.flatMap pec)) (hA : ∀ a, A = some a → a.block < X.heap.size) (hQ : ∀ a, Q = some a → a.block < X.heap.size) => rsstart_any room mn mx s id bt A c Q d X HBd.out.1 HBd.out.2.1 HJ.out (by have h7 := insL_le room s.L id bt; have h8 := HBd.out.1; omega) (HBd.out.2.2.ins room id bt) HOk.out hX hY hA hQ)
  rw [rs_start] at fR
  have fA := Lib.hid (fun X (hX : SvS X g room mn mx s.now s tn) (hTX : Tab X) => sstart_any g room mn mx s id bt tn X hX HId.out (by have := HTn.out; omega) HOk.out h0 h1 hTX HTg.out)
  have hnw := start_now' room mn mx s id bt
  obtain ⟨s2, hs2⟩ : ∃ s2, startS room mn mx s id bt = s2 := ⟨_, rfl⟩
  rw [hs2] at fR fA hnw
  rw [hs2]
  clear hs2
  obtain ⟨cc, hcc⟩ : ∃ cc, insC room s.L id bt = cc := ⟨_, rfl⟩
  rw [hcc] at fR fA
  clear hcc h hid
  obtain ⟨L, P, now, ar, goal, wk⟩ := s
  obtain ⟨L2, P2, n2, a2, g2, k2⟩ := s2
  unfold rsS at fR ⊢
  unfold RetRs RetRv at fR
  unfold rsv at fR ⊢
  dsimp only at *
  have HNw := Lib.hid hnw
  clear hnw
  go_enter Tryz.func7, Tryz.ntmps7
  go_upto_region 1 with fail
  refine name_world fun V hV => ?_
  have HP0 : Hid (PlV w V #[.int .i64 now, .int .i64 (room : Int), .slice A L.length c, .slice Q P.length d, .int .i64 mn, .int .i64 mx, .bool ar, .int .i64 goal, .int .i64 wk] #[.int .i64 0, .int .i64 id, .int .i64 at1, .int .i64 e2]) := Lib.hid (by rw [hV]; exact PlV.mk0 ..)
  clear hV
  obtain ⟨x0, y0⟩ := box_rules (HP0.out).b0
  have l0 := box_lt (HP0.out).b0
  obtain ⟨x1, y1⟩ := box_rules (HP0.out).b1
  have l1 := box_lt (HP0.out).b1
  obtain ⟨x2, y2⟩ := box_rules (HP0.out).b2
  have l2 := box_lt (HP0.out).b2
  go_upto_region 3 with (go_at_call 21; (with_reducible refine (fB.out _).mono ?_); rintro e w7 ⟨rfl, rfl⟩)
  refine name_world fun V2 hV2 => ?_
  have HP1 : Hid (PlV w V2 #[.int .i64 now, .int .i64 (room : Int), .slice A L.length c, .slice Q P.length d, .int .i64 mn, .int .i64 mx, .bool ar, .int .i64 goal, .int .i64 wk] #[.int .i64 0, .int .i64 id, .int .i64 bt, .int .i64 e2]) := Lib.hid (by
    have hT : Tn [w.heap.size + 1] V V2 := by rw [hV2]; exact tsetR (i := 2) (Tn.refl _ _) (by simp) _
    exact ⟨hT.box HP0.out.b0 (by simp), by rw [hV2]; exact box_set (i := 2) HP0.out.b1 _, hT.box HP0.out.b2 (by simp), hT.base HP0.out.bel (fun k hk => by have := List.mem_singleton.1 hk; omega) HP0.out.bel.size, Nat.le_trans HP0.out.sz hT.size⟩)
  clear hV2 x0 y0 l0 x1 y1 l1 x2 y2 l2 HP0 fB
  obtain ⟨x0, y0⟩ := box_rules (HP1.out).b0
  have l0 := box_lt (HP1.out).b0
  obtain ⟨x1, y1⟩ := box_rules (HP1.out).b1
  have l1 := box_lt (HP1.out).b1
  obtain ⟨x2, y2⟩ := box_rules (HP1.out).b2
  have l2 := box_lt (HP1.out).b2
  have HB1 := HP1.out.bel
  have hlow := HB1.size
  have frr := Lib.hid (fR.out V2 (HRa.out.below HB1) (HRq.out.below HB1) (fun a ha => Nat.lt_of_lt_of_le (HA.out a ha).1 hlow) (fun a ha => Nat.lt_of_lt_of_le (HQ.out a ha).1 hlow))
  clear fR HB1 hlow
  go_upto_region 7 with (go_at_call 22; (with_reducible refine frr.out.mono ?_); rintro e w5 ⟨A5, c5, Q5, d5, rfl, hr5, hq5, ho5, hp5, hb5⟩; have HR5 := Lib.hid hr5; have HQ5 := Lib.hid hq5; have HO5 := Lib.hid ho5; have HP5 := Lib.hid hp5; have HB5 := Lib.hid hb5; have HPw := Lib.hid (HP1.out.below hb5); clear hr5 hq5 ho5 hp5 hb5 x0 y0 l0 x1 y1 l1 x2 y2 l2)
  refine name_world fun U hU => ?_
  have hbU : Below w5.heap.size w5 U := by
    rw [hU]; first | exact (Below.refl _ _).alloc (Nat.le_refl _) _ | exact (((Tn.refl [] w5).alloc _).new (set9 (heap_alloc_new _ _) _ _ _ _ _ _ _ _ _).2 (fun b hb => by simp at hb; omega)).base (Below.refl _ _) (fun b hb => by cases hb) (Nat.le_refl _)
  have HU : Hid (U.heap[w5.heap.size]? = some (.cells #[.int .i64 n2, .int .i64 (room : Int), .slice A5 L2.length c5, .slice Q5 P2.length d5, .int .i64 mn, .int .i64 mx, .bool a2, .int .i64 g2, .int .i64 k2] 37 (0, 0))) := Lib.hid (by
    rw [hU]; first | exact heap_alloc_new _ _ | exact (set9 (heap_alloc_new _ _) _ _ _ _ _ _ _ _ _).1)
  have HPu := Lib.hid (HPw.out.below hbU)
  have HBU := Lib.hid (HPu.out.bel)
  have HB5u := Lib.hid (HB5.out.trans (hbU.mono HB5.out.size))
  have HRu := Lib.hid (HR5.out.below hbU)
  have HQu := Lib.hid (HQ5.out.below hbU)
  have hsU := hbU.size
  have hs5 := HB5.out.size
  have hsw := HP1.out.sz
  clear hU hbU frr HPw HP1 HR5 HQ5 HB5
  have HSu := Lib.hid (HS.out.turn (Tn.of_below [] ((HBU.out))) (fun _ _ => by simp))
  have HTu : Hid (Tab U) := Lib.hid (HT.out.below HBU.out HT.out.lt)
  have HAu : Hid (∀ a, A5 = some a → a.block ∉ g.l) := Lib.hid (fun a ha hm => by
    have h7 := HGl.out _ hm
    rcases HO5.out a ha with q | q
    · exact (HA.out a q).2 hm
    · omega)
  have HQu2 : Hid (∀ a, Q5 = some a → a.block ∉ g.l) := Lib.hid (fun a ha hm => by
    have h7 := HGl.out _ hm
    rcases HP5.out a ha with q | q
    · exact (HQ.out a q).2 hm
    · omega)
  obtain ⟨x0, y0⟩ := box_rules (HPu.out).b0
  have l0 := box_lt (HPu.out).b0
  obtain ⟨x1, y1⟩ := box_rules (HPu.out).b1
  have l1 := box_lt (HPu.out).b1
  obtain ⟨x2, y2⟩ := box_rules (HPu.out).b2
  have l2 := box_lt (HPu.out).b2
  obtain ⟨x8, y8⟩ := box_rules HU.out
  have l8 := box_lt HU.out
  go_region_with ((go_at_call 11; (with_reducible refine (fA.out _ HSu.out.drew1 (TabD HTu.out)).mono ?_); rintro e w8 ⟨rfl, hs8, ht8⟩; have HS8 := Lib.hid hs8; have HT8 := Lib.hid ht8; clear hs8 ht8; have HPb := Lib.hid (HPu.out.tn ((Tn.refl g.l U).drew.trans HT8.out) HGl.out); have HU8 := Lib.hid (((Tn.refl g.l U).drew.trans HT8.out).box HU.out (fun hm => by have := HGl.out _ hm; omega)); clear x0 y0 l0 x1 y1 l1 x2 y2 l2 x8 y8 l8; obtain ⟨x0, y0⟩ := box_rules HPb.out.1; obtain ⟨x1, y1⟩ := box_rules HPb.out.2.1; obtain ⟨x2, y2⟩ := box_rules HPb.out.2.2; have l2 := box_lt HPb.out.2.2; obtain ⟨x8, y8⟩ := box_rules HU8.out; have l8 := box_lt HU8.out))
  all_goals
    go_wp2
    refine name_post fun V4 hV4 => ?_
    obtain ⟨hE4, hT4⟩ := set9 HPb.out.2.2 (.int .i64 n2) (.int .i64 (room : Int)) (.slice A5 L2.length c5) (.slice Q5 P2.length d5) (.int .i64 mn) (.int .i64 mx) (.bool a2) (.int .i64 g2) (.int .i64 k2)
    first
      | (rw [← hV4] at hE4 hT4)
      | (have hE4 := bdrw hE4; have hT4 := hT4.drew; rw [← hV4] at hE4 hT4)
    obtain ⟨vx, vy⟩ := box_rules hE4
    clear hV4
    refine bodyPost_ret (v := .tuple #[.agg #[.int .i64 n2, .int .i64 (room : Int), .slice A5 L2.length c5, .slice Q5 P2.length d5, .int .i64 mn, .int .i64 mx, .bool a2, .int .i64 g2, .int .i64 k2], .bool true]) (by simp [results, Tryz.f7, go_sem, vx]) rfl ?_
    exact pl_end (s2 := ⟨L2, P2, n2, a2, g2, k2⟩) HGl.out HBU.out ((Below.refl _ _).drew) HT8.out hT4 (by have h7 := HS8.out; rw [← HNw.out] at h7; exact h7) HRu.out HQu.out HO5.out HP5.out HAu.out HQu2.out HA.out HQ.out hsw hsU
end Go.Proofs.YtiblpnadninmbaaGreatDoor

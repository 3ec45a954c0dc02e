/- Package wheel: what Pop and New answer, of a wheel as a list of timers. Conditions: a wheel's memory. -/
import Derived.Test.YtiblpnadninmbaaGreatDoorWhNY
namespace Go.Proofs.YtiblpnadninmbaaGreatDoor
open Go.RowKit Go.Shelf
attribute [local go_sem] Oper.semAt_some

theorem bef_iff (a b : Tm) : befF a b < 0 ↔ a.at' < b.at' ∨ (a.at' = b.at' ∧ a.turn < b.turn) := by
  unfold befF orI cmpI
  repeat' split
  all_goals omega
theorem bestG_min (ts : List Tm) : ∀ (l : List Nat) (b i : Nat), (i = b ∨ i ∈ l) → ¬ befF (ts.getD i tm0) (ts.getD (bestG ts b l) tm0) < 0
  | [], b, i, h => by
    rcases h with rfl | h
    · show ¬ befF (ts.getD i tm0) (ts.getD i tm0) < 0
      rw [bef_iff]; omega
    · cases h
  | x :: l, b, i, h => by
    show ¬ befF (ts.getD i tm0) (ts.getD (bestG ts (if befF (ts.getD x tm0) (ts.getD b tm0) < 0 then x else b) l) tm0) < 0
    by_cases hx : befF (ts.getD x tm0) (ts.getD b tm0) < 0
    · rw [if_pos hx]
      have g1 := bestG_min ts l x x (.inl rfl)
      rcases h with rfl | h
      · rw [bef_iff] at hx g1 ⊢; omega
      · rcases List.mem_cons.1 h with rfl | h
        · exact g1
        · exact bestG_min ts l x i (.inr h)
    · rw [if_neg hx]
      have g1 := bestG_min ts l b b (.inl rfl)
      rcases h with rfl | h
      · exact g1
      · rcases List.mem_cons.1 h with rfl | h
        · rw [bef_iff] at hx g1 ⊢; omega
        · exact bestG_min ts l b i (.inr h)
theorem popG_spec : ∀ (E : List Ent) (b : Du), E.Pairwise (fun a b => a.turn < b.turn) →
    (popG b (E.map duOf) = b ∧ ∀ e ∈ E, ¬ e.at' < b.at') ∨ (∃ e ∈ E, popG b (E.map duOf) = duOf e ∧ e.at' < b.at' ∧ (∀ e' ∈ E, ¬ e'.at' < e.at') ∧ ∀ e' ∈ E, e'.at' = e.at' → e.turn ≤ e'.turn)
  | [], b, _ => .inl ⟨rfl, fun e h => by cases h⟩
  | x :: E, b, hp => by
    obtain ⟨p1, p2⟩ := List.pairwise_cons.1 hp
    show (popG (if x.at' < b.at' then duOf x else b) (E.map duOf) = b ∧ _) ∨ (∃ e ∈ x :: E, popG (if x.at' < b.at' then duOf x else b) (E.map duOf) = duOf e ∧ _)
    by_cases hx : x.at' < b.at'
    · rw [if_pos hx]
      rcases popG_spec E (duOf x) p2 with ⟨h1, h2⟩ | ⟨e, he, h1, h2, h3, h4⟩
      · refine .inr ⟨x, by simp, h1, hx, fun e' he' => ?_, fun e' he' _ => ?_⟩
        · rcases List.mem_cons.1 he' with rfl | he'
          · omega
          · exact h2 e' he'
        · rcases List.mem_cons.1 he' with rfl | he'
          · exact Int.le_refl _
          · exact Int.le_of_lt (p1 e' he')
      · have h2' : e.at' < x.at' := h2
        refine .inr ⟨e, by simp [he], h1, by omega, fun e' he' => ?_, fun e' he' h9 => ?_⟩
        · rcases List.mem_cons.1 he' with rfl | he'
          · omega
          · exact h3 e' he'
        · rcases List.mem_cons.1 he' with rfl | he'
          · omega
          · exact h4 e' he' h9
    · rw [if_neg hx]
      rcases popG_spec E b p2 with ⟨h1, h2⟩ | ⟨e, he, h1, h2, h3, h4⟩
      · refine .inl ⟨h1, fun e' he' => ?_⟩
        rcases List.mem_cons.1 he' with rfl | he'
        · exact hx
        · exact h2 e' he'
      · refine .inr ⟨e, by simp [he], h1, h2, fun e' he' => ?_, fun e' he' h9 => ?_⟩
        · rcases List.mem_cons.1 he' with rfl | he'
          · omega
          · exact h3 e' he'
        · rcases List.mem_cons.1 he' with rfl | he'
          · omega
          · exact h4 e' he' h9
theorem turn_inj : ∀ {E : List Ent} {a b : Ent}, E.Pairwise (fun a b => a.turn < b.turn) → a ∈ E → b ∈ E → a.turn = b.turn → a = b
  | x :: E, a, b, hp, ha, hb, h => by
    obtain ⟨p1, p2⟩ := List.pairwise_cons.1 hp
    rcases List.mem_cons.1 ha with rfl | ha' <;> rcases List.mem_cons.1 hb with rfl | hb'
    · rfl
    · have := p1 b hb'; omega
    · have := p1 a ha'; omega
    · exact turn_inj p2 ha' hb' h
/-- What Pop tells. -/
def popR (now : Int) (L : List Du) : Du := popG ⟨0, now + 1⟩ L
theorem whl_pop (f : WhF) (room : Nat) (now : Int) (L : List Du) (tn : Nat) (w : World) (h : Whl w f room now L tn) :
    Calls Tryz.prog 74 #[.pointer (some ⟨f.pw, 0, none⟩)] w fun e w' =>
      e = .returned (if (popR now L).at' ≤ now then .tuple #[.agg #[.int .i64 (popR now L).id, .int .i64 (popR now L).at'], .bool true] else .tuple #[.agg #[.int .i64 0, .int .i64 0], .bool false]) ∧
      Whl w' f room now (if (popR now L).at' ≤ now then canL L (popR now L).id else L) tn ∧ Tn f.l w w' := by
  have h0 := h
  obtain ⟨E, s, h1, h2, hnow, t0, t1, hL⟩ := h
  have hsp := popG_spec E ⟨0, now + 1⟩ h2.turn
  rw [hL] at hsp
  by_cases hd : s.ls 257 = []
  · have hr : ¬ (popR now L).at' ≤ now := by
      rcases hsp with ⟨g1, g2⟩ | ⟨e, he, g1, g2, _⟩
      · unfold popR; rw [g1]; show ¬ now + 1 ≤ now; omega
      · have : homeF s.now e.at' = 257 := home_due (by rw [hnow]; have : e.at' < now + 1 := g2; omega)
        exact absurd this (h2.nil hd e he)
    rw [if_neg hr, if_neg hr]
    exact (pop_none f room s w h1 hd).mono fun e w' ⟨g1, g2⟩ => ⟨g1, h0.below g2, Tn.of_below _ g2⟩
  · obtain ⟨b0, r, hl⟩ := List.exists_cons_of_ne_nil hd
    obtain ⟨b, hb⟩ : ∃ b, bestG s.ts b0 (s.ls 257) = b := ⟨_, rfl⟩
    have hbm : b ∈ s.ls 257 := by
      rcases bestG_in s.ts (s.ls 257) b0 with h9 | h9
      · rw [← hb, h9, hl]; simp
      · rw [← hb]; exact h9
    obtain ⟨a, c, hab⟩ := List.append_of_mem hbm
    obtain ⟨e1, he1, hi1, hh1, ht1⟩ := h2.ent hbm
    have hdue := home_due_iff.1 hh1
    rw [hnow] at hdue
    rcases hsp with ⟨g1, g2⟩ | ⟨e, he, g1, g2, g3, g4⟩
    · have := g2 e1 he1
      exact absurd (show e1.at' < now + 1 by omega) this
    · have hen : e.at' ≤ now := by have : e.at' < now + 1 := g2; omega
      have hem := (h2.mem 257 e.i).2 ⟨e, he, rfl, home_due (by rw [hnow]; exact hen)⟩
      have hmin := bestG_min s.ts (s.ls 257) b0 e.i (.inr hem)
      rw [hb, ht1, h2.ts e he, bef_iff] at hmin
      have k1 := g3 e1 he1
      dsimp only at hmin
      have hat : e1.at' = e.at' := by omega
      have k2 := g4 e1 he1 hat
      have hee : e = e1 := turn_inj h2.turn he he1 (by omega)
      subst hee
      have hpr : popR now L = duOf e := g1
      rw [hpr]
      show Calls _ _ _ _ (fun x w' => x = .returned (if e.at' ≤ now then .tuple #[.agg #[.int .i64 e.id, .int .i64 e.at'], .bool true] else _) ∧ Whl w' f room now (if e.at' ≤ now then canL L e.id else L) tn ∧ Tn f.l w w')
      rw [if_pos hen, if_pos hen]
      have h9 := pop_some f room s w b0 b r a c h1 h2.fbl h2.rm hl hb hab (by rw [ht1]; exact h2.idr e he) (by rw [ht1, (h2.M e.id e.i).2 ⟨e, he, rfl, rfl⟩]; rfl)
      rw [ht1] at h9
      refine h9.mono fun x w' ⟨q1, q2, q3⟩ => ⟨q1, ?_, q3⟩
      have hrm := h2.remove (k := 257) (a := a) (b := c) he hh1 (by rw [hi1]; exact hab) (h1.nd (by omega)).1
      rw [hi1] at hrm
      rw [show noteS (outS s 257 b a c) 257 = outS s 257 b a c from if_neg (by omega)] at hrm
      exact ⟨_, _, q2, hrm, hnow, t0, t1, by rw [can_map, hL]⟩
/-- A new wheel. -/
def whS0 (room : Nat) (now : Int) : WhS := ⟨now, 0, rm room (fun _ => tm0), fun _ => none, 0, List.range room, fun _ => [], fun _ => 0⟩
theorem wi_new {room : Nat} {now : Int} (hr : room ≤ 4096) (h0 : 0 ≤ now) (h1 : now ≤ 4503599627370496) : WI room [] (whS0 room now) := by
  refine ⟨h0, h1, hr, List.nodup_nil, List.nodup_nil, fun e h => (by cases h), fun e h => (by cases h), fun id i => ?_, rfl, fun k i => ?_, by simp [whS0], List.Pairwise.nil, fun e h => (by cases h), fun e h => (by cases h), fun e h => (by cases h), fun L _ => by show 0 < _; omega, fun k _ => ?_⟩
  · show (none : Option Int) = some i ↔ _
    simp
  · show i ∈ ([] : List Nat) ↔ _
    simp
  · show (0 : Nat).testBit _ = !decide (([] : List Nat) = [])
    simp
theorem name_post {P : Program} {fn : Func} {R : Ending → World → Prop} {x : Exit} {a : Act} {w : World} (h : ∀ W, W = w → bodyPost P fn R x a W) : bodyPost P fn R x a w := h w rfl
def RetWhl (room : Nat) (now : Int) (w : World) (e : Ending) (w' : World) : Prop := ∃ f : WhF, e = .returned (.tuple #[.pointer (some ⟨f.pw, 0, none⟩), .int .i64 0]) ∧ (∀ b ∈ f.l, w.heap.size ≤ b) ∧ Whl w' f room now [] 0 ∧ Below w.heap.size w w'
set_option maxHeartbeats 4000000 in
set_option maxRecDepth 100000 in
theorem whl_new (now : Int) (room : Nat) (w : World) (h0 : 0 ≤ now) (h1 : now ≤ 4503599627370496) (h2 : 1 ≤ room) (h3 : room ≤ 4096) :
    Calls Tryz.prog 35 #[.int .i64 now, .int .i64 room] w (RetWhl room now w) := by
  have f1 : Hid (Calls Tryz.prog 56 #[.int .i64 room, .int .i64 258] w (RetPool room 258 w)) := Lib.hid (pool_new room 258 w h2 h3 (by omega) (by omega))
  have hmk1 := run_makeK (P := Tryz.prog) 105 150 (.agg #[.int .i64 0, .int .i64 0, .int .i64 0]) 3 24 Tryz.underlying105 (by kernel_rfl) room (by omega) (by omega)
  rw [made_flat (f := tmc) (d := tm0) (z := (Value.agg #[.int .i64 0, .int .i64 0, .int .i64 0]).cells) (fun _ => rfl) (by omega) rfl room] at hmk1
  have hmm := @run_makeMap Tryz.prog
  generalize hL0 : rm room (fun _ => tm0) = L0 at *
  have HL0 := Lib.hid hL0
  have HL1 : Hid (L0.length = room) := Lib.hid (by rw [← hL0]; exact rm_len)
  clear hL0
  unfold RetPool at f1
  go_enter Tryz.func35, Tryz.ntmps35
  go_upto_region 6 with (go_at_call 56; (with_reducible refine f1.out.mono ?_); rintro e w1 ⟨pp, bl, be, rfl, b1, b2, b3, hp, hb⟩; have HPool := Lib.hid hp; have HB := Lib.hid hb; have HB3 : Hid (w.heap.size ≤ pp ∧ w.heap.size ≤ bl ∧ w.heap.size ≤ be) := Lib.hid ⟨b1, b2, b3⟩; clear hp hb b1 b2 b3)
  go_wp2
  refine name_post (fun V hV => ?_)
  have hz := HB.out.size
  obtain ⟨q1, q2, q3⟩ := HB3.out
  have hbV : Below w1.heap.size w1 V := by rw [hV]; exact (((Below.refl _ _).alloc (Nat.le_refl _) _).alloc (by simp) _).alloc (by simp; omega) _
  have hM : WhM V ⟨w1.heap.size + 2, pp, bl, be, w1.heap.size, w1.heap.size + 1⟩ room (whS0 room now) := by
    refine ⟨by rw [hV]; exact heap_new_at _ (by simp), ?_, rm_len, ?_, HPool.out.below hbV⟩
    · rw [hV]
      show _ = some (Obj.cells ⟨(rm room (fun _ => tm0)).flatMap tmc⟩ 150 (0, 0))
      rw [HL0.out]
      exact box_alloc (box_alloc (heap_alloc_new _ _) _) _
    · rw [hV]
      refine MapN.alloc ?_ _
      have h9 := MapN.made Tryz.prog 3 3 (w1.alloc (Obj.cells ⟨L0.flatMap tmc⟩ 150 (0, 0)))
      rw [show (w1.alloc (Obj.cells ⟨L0.flatMap tmc⟩ 150 (0, 0))).heap.size = w1.heap.size + 1 by simp] at h9
      exact h9
  clear hV
  go_ret2
  refine ⟨⟨w1.heap.size + 2, pp, bl, be, w1.heap.size, w1.heap.size + 1⟩, rfl, fun b hb => ?_, ⟨[], _, hM, wi_new h3 h0 h1, rfl, Int.le_refl _, Int.le_refl _, rfl⟩, HB.out.trans (hbV.mono hz)⟩
  simp [WhF.l] at hb
  rcases hb with rfl | rfl | rfl | rfl | rfl | rfl <;> omega
theorem whl_bad (now room : Int) (w : World) (h : ¬ (0 ≤ now ∧ now ≤ 4503599627370496 ∧ 1 ≤ room ∧ room ≤ 4096)) :
    Calls Tryz.prog 35 #[.int .i64 now, .int .i64 room] w fun e w' => e = .returned (.tuple #[.pointer none, .int .i64 1]) ∧ w = w' := by
  by_cases h0 : now < 0
  · go_enter Tryz.func35, Tryz.ntmps35
    go_wp2
    go_ret2
    exact ⟨rfl, rfl⟩
  · by_cases h1 : 4503599627370496 < now
    · have h2 : 0 ≤ now := by omega
      clear h h0
      go_enter Tryz.func35, Tryz.ntmps35
      go_wp2
      go_ret2
      exact ⟨rfl, rfl⟩
    · have f1 : Hid (Calls Tryz.prog 56 #[.int .i64 room, .int .i64 258] w fun e w' => e = .returned (.tuple #[.pointer none, .int .i64 1]) ∧ w = w') := Lib.hid (pool_bad room 258 w (by omega))
      have h2 : 0 ≤ now := by omega
      have h3 : now ≤ 4503599627370496 := by omega
      clear h h0 h1
      go_enter Tryz.func35, Tryz.ntmps35
      go_wp2_with (go_at_call 56; (with_reducible refine f1.out.mono ?_); rintro e w1 ⟨rfl, rfl⟩)
      go_ret2
      exact ⟨rfl, rfl⟩
end Go.Proofs.YtiblpnadninmbaaGreatDoor

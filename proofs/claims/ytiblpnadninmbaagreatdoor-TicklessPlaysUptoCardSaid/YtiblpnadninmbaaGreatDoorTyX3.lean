/- Package vergelaw10: plays, whatever the act. Conditions: a service's memory, lists that read, the de Bruijn table. -/
import Derived.Test.YtiblpnadninmbaaGreatDoorTyHx
import Derived.Test.YtiblpnadninmbaaGreatDoorTyIx
namespace Go.Proofs.YtiblpnadninmbaaGreatDoor
open Go.RowKit Go.Shelf
attribute [local go_sem] Oper.semAt_some

theorem RetPl.up {g : SvF} {room : Nat} {mn mx : Int} {s2 : Sst} {tn tn' : Nat} {A Q : Option Addr} {w : World} {e : Ending} {w' : World} (h : RetPl g room mn mx s2 tn A Q w e w') (ht : tn ≤ tn') : RetPl g room mn mx s2 tn' A Q w e w' := by
  obtain ⟨A', c', Q', d', rfl, q1, q2, q3, q4, q5, q6⟩ := h
  exact ⟨A', c', Q', d', rfl, q1, q2, q3, q4, q5.mono ht, q6⟩
theorem look_bd {mn mx : Int} {s : Sst} (h : Bd s) : Bd (lookS mn mx s) := by
  unfold Bd
  rw [(look_now mn mx s).2.1, (look_now mn mx s).2.2]
  exact h
theorem start_bd {room : Nat} {mn mx : Int} {s : Sst} (hr : room ≤ 4096) (h : Bd s) (id a : Int) : Bd (startS room mn mx s id a) ∧ (startS room mn mx s id a).P.length ≤ s.P.length + 1 := by
  unfold startS; split
  · refine ⟨look_bd ⟨ins_le hr h.1, h.2.1, h.2.2.ins room id a⟩, ?_⟩
    rw [(look_now mn mx _).2.2]; exact Nat.le_succ _
  · exact ⟨h, Nat.le_succ _⟩
theorem everyL_small {room : Nat} {L : List Du} (hr : room ≤ 4096) (h : L.length ≤ 4096) (id a p : Int) : (everyL room L id a p).length ≤ 4096 := by
  unfold everyL; split
  · exact ins_le hr h
  · exact h
theorem everyP_le (room : Nat) (L : List Du) (P : List Pe) (id a p : Int) : (everyP room L P id a p).length ≤ P.length + 1 := by
  unfold everyP; split
  · rw [List.length_append]; simp
  · omega
theorem every_bd {room : Nat} {mn mx : Int} {s : Sst} (hr : room ≤ 4096) (h : Bd s) (hP : s.P.length ≤ 1048574) (id a p : Int) : Bd (everyS room mn mx s id a p) ∧ (everyS room mn mx s id a p).P.length ≤ s.P.length + 1 := by
  have h1 := everyP_le room s.L s.P id a p
  unfold everyS; split
  · refine ⟨look_bd ⟨everyL_small hr h.1 id a p, by show (everyP room s.L s.P id a p).length ≤ 1048575; omega, every_at h.2.2 room id a p⟩, ?_⟩
    rw [(look_now mn mx _).2.2]; exact h1
  · exact ⟨h, Nat.le_succ _⟩
theorem stop_bd {mn mx : Int} {s : Sst} (h : Bd s) (id : Int) : Bd (stopS mn mx s id) ∧ (stopS mn mx s id).P.length ≤ s.P.length + 1 := by
  have h1 : (woD s.P id).length ≤ s.P.length := List.length_filter_le _ _
  unfold stopS; split
  · refine ⟨look_bd ⟨Nat.le_trans (canL_le s.L id) h.1, Nat.le_trans h1 h.2.1, h.2.2.can id⟩, ?_⟩
    rw [(look_now mn mx _).2.2]; exact Nat.le_succ_of_le h1
  · exact ⟨h, Nat.le_succ _⟩
theorem plays_any (g : SvF) (room : Nat) (mn mx : Int) (s : Sst) (tn : Nat) (A : Option Addr) (c : Nat) (Q : Option Addr) (d : Nat) (kd id at1 e2 : Int) (w : World) (h : PlIn w g room mn mx s tn A Q) (hid : I64N id) (hP : s.P.length ≤ 1048574) :
    Calls Tryz.prog 7 #[.pointer (some ⟨g.ps, 0, none⟩), rsS room mn mx s A c Q d, .agg #[.int .i64 kd, .int .i64 id, .int .i64 at1, .int .i64 e2]] w (RetPls g room mn mx s (tn + 4195328) A Q w) := by
  by_cases h9 : 0 ≤ kd ∧ kd ≤ 5
  · have hk : kd = 0 ∨ kd = 1 ∨ kd = 2 ∨ kd = 3 ∨ kd = 4 ∨ kd = 5 := by omega
    rcases hk with rfl | rfl | rfl | rfl | rfl | rfl
    · obtain ⟨b1, b2⟩ := start_bd (mn := mn) (mx := mx) h.rm h.bd id (by10 s.now at1)
      exact (plays_0 g room mn mx s tn A c Q d id at1 e2 w h hid).mono fun e w' q => ⟨_, h.jb.start h.ok _ _, b1, b2, q.up (by omega)⟩
    · obtain ⟨b1, b2⟩ := every_bd (mn := mn) (mx := mx) h.rm h.bd hP id (by10 s.now at1) e2
      exact (plays_1 g room mn mx s tn A c Q d id at1 e2 w h hid).mono fun e w' q => ⟨_, h.jb.every h.ok _ _ _, b1, b2, q.up (by omega)⟩
    · obtain ⟨b1, b2⟩ := stop_bd (mn := mn) (mx := mx) h.bd id
      exact (plays_2 g room mn mx s tn A c Q d id at1 e2 w h hid).mono fun e w' q => ⟨_, h.jb.stop h.ok _, b1, b2, q.up (by omega)⟩
    · exact plays_3 g room mn mx s tn A c Q d id at1 e2 w h
    · obtain ⟨b1, b2⟩ := start_bd (mn := mn) (mx := mx) h.rm h.bd id at1
      exact (plays_4 g room mn mx s tn A c Q d id at1 e2 w h hid).mono fun e w' q => ⟨_, h.jb.start h.ok _ _, b1, b2, q.up (by omega)⟩
    · obtain ⟨b1, b2⟩ := every_bd (mn := mn) (mx := mx) h.rm h.bd hP id at1 e2
      exact (plays_5 g room mn mx s tn A c Q d id at1 e2 w h hid).mono fun e w' q => ⟨_, h.jb.every h.ok _ _ _, b1, b2, q.up (by omega)⟩
  · exact plays_n g room mn mx s tn A c Q d kd id at1 e2 w h h9
end Go.Proofs.YtiblpnadninmbaaGreatDoor
/- Package vergelaw10: the walk of TicklessPlays. Conditions: a list that reads, the de Bruijn table. -/
namespace Go.Proofs.YtiblpnadninmbaaGreatDoor
open Go.RowKit Go.Shelf
attribute [local go_sem] Oper.semAt_some

/-- A call of a service. -/
structure Kt where
  kind : Int
  id : Int
  at' : Int
  per : Int
def ktc (x : Kt) : List Value := [.int .i64 x.kind, .int .i64 x.id, .int .i64 x.at', .int .i64 x.per]
def kt0 : Kt := ⟨0, 0, 0, 0⟩
theorem Rd.ktAt {w : World} {A : Option Addr} {ts : List Kt} (h : Rd w A (ts.flatMap ktc)) {k : Nat} (hk : k < ts.length) : ∃ a x, A = some a ∧ ts.getD k kt0 = x ∧
    w.cell? (a.add (k * 4)) = some (.int .i64 x.kind) ∧ w.cell? ⟨(a.add (k * 4)).block, (a.add (k * 4)).off + 1, none⟩ = some (.int .i64 x.id) ∧ w.cell? ⟨(a.add (k * 4)).block, (a.add (k * 4)).off + 2, none⟩ = some (.int .i64 x.at') ∧ w.cell? ⟨(a.add (k * 4)).block, (a.add (k * 4)).off + 3, none⟩ = some (.int .i64 x.per) := by
  have g := flat_get (f := ktc) (k := 4) (fun _ => rfl) kt0 ts k hk
  generalize ts.getD k kt0 = x at *
  obtain ⟨a, rfl, h0⟩ := h _ _ (g 0 (by omega))
  obtain ⟨_, ha1, h1⟩ := h _ _ (g 1 (by omega)); cases ha1
  obtain ⟨_, ha2, h2⟩ := h _ _ (g 2 (by omega)); cases ha2
  obtain ⟨_, ha3, h3⟩ := h _ _ (g 3 (by omega)); cases ha3
  refine ⟨a, x, rfl, rfl, h0, ?_, ?_, ?_⟩
  · rw [← add_plus2 a (k * 4) 1 (by omega)]; exact h1
  · rw [← add_plus2 a (k * 4) 2 (by omega)]; exact h2
  · rw [← add_plus2 a (k * 4) 3 (by omega)]; exact h3
set_option maxHeartbeats 8000000 in
set_option maxRecDepth 100000 in
theorem rsnew_formZ (start mn mx room : Int) (w : World) (hok : ¬ TmOk mn mx) (hx : I64N mx) :
    Calls Tryz.prog 6 #[.int .i64 start, .agg #[.int .i64 mn, .int .i64 mx], .int .i64 room] w fun e w' => e = .returned (.tuple #[Value.agg #[.int .i64 0, .int .i64 0, .slice none 0 0, .slice none 0 0, .int .i64 0, .int .i64 0, .bool false, .int .i64 0, .int .i64 0], .int .i64 2]) ∧ Below w.heap.size w w' := by
  have f1 := Lib.hid (fun X => rcheck_bad mn mx X hok hx)
  clear hok hx
  go_enter Tryz.func6, Tryz.ntmps6
  go_upto_region 1 with fail
  refine name_world fun V hV => ?_
  have H0 : Hid (V.heap[w.heap.size]? = some (.cells #[.int .i64 mn, .int .i64 mx] 23 (0, 0))) := Lib.hid (by rw [hV]; exact box_alloc (heap_alloc_new _ _) _)
  have H1 : Hid (V.heap[w.heap.size + 1]? = some (.cells #[.int .i64 0, .int .i64 0, .slice none 0 0, .slice none 0 0, .int .i64 0, .int .i64 0, .bool false, .int .i64 0, .int .i64 0] 37 (0, 0))) := Lib.hid (by rw [hV]; exact heap_new_at _ (by simp))
  have HB : Hid (Below w.heap.size w V) := Lib.hid (by rw [hV]; exact ((Below.refl _ _).alloc (Nat.le_refl _) _).alloc (by simp) _)
  clear hV
  obtain ⟨x0, y0⟩ := box_rules H0.out
  have l0 := box_lt H0.out
  go_upto_region 2 with (go_at_call 19; (with_reducible refine (f1.out _).mono ?_); rintro e w1 ⟨rfl, hb1⟩; have K0 := Lib.hid (box_keep H0.out hb1); have K1 := Lib.hid (box_keep H1.out hb1); have KB := Lib.hid (HB.out.trans (hb1.mono HB.out.size)); clear hb1)
  clear x0 y0 l0
  obtain ⟨x1, y1⟩ := box_rules K1.out
  have l1 := box_lt K1.out
  go_wp2
  refine name_post fun V4 hV4 => ?_
  obtain ⟨hE4, hT4⟩ := set9 (K1.out) (.int .i64 0) (.int .i64 0) (.slice none 0 0) (.slice none 0 0) (.int .i64 0) (.int .i64 0) (.bool false) (.int .i64 0) (.int .i64 0)
  rw [← hV4] at hE4 hT4
  obtain ⟨vx, vy⟩ := box_rules hE4
  clear hV4
  refine bodyPost_ret (v := .tuple #[.agg #[.int .i64 0, .int .i64 0, .slice none 0 0, .slice none 0 0, .int .i64 0, .int .i64 0, .bool false, .int .i64 0, .int .i64 0], .int .i64 2]) (by simp [results, Tryz.f6, go_sem, vx]) rfl ?_
  exact ⟨rfl, hT4.base KB.out (fun k hk => by obtain rfl := List.mem_singleton.1 hk; omega) (KB.out).size⟩
set_option maxHeartbeats 8000000 in
set_option maxRecDepth 100000 in
theorem rsnew_badZ (start mn mx room : Int) (w : World) (hok : TmOk mn mx) (h : ¬ ((0 ≤ start ∧ start ≤ 4503599627370496) ∧ 1 ≤ room ∧ room ≤ 4096)) :
    Calls Tryz.prog 6 #[.int .i64 start, .agg #[.int .i64 mn, .int .i64 mx], .int .i64 room] w fun e w' => e = .returned (.tuple #[Value.agg #[.int .i64 0, .int .i64 0, .slice none 0 0, .slice none 0 0, .int .i64 0, .int .i64 0, .bool false, .int .i64 0, .int .i64 0], .int .i64 1]) ∧ Below w.heap.size w w' := by
  have f1 := Lib.hid (fun X => rcheck_any mn mx X hok)
  have f2 := Lib.hid (fun X => rtnew_bad start room X h)
  unfold rtv at f2
  clear hok h
  go_enter Tryz.func6, Tryz.ntmps6
  go_upto_region 1 with fail
  refine name_world fun V hV => ?_
  have H0 : Hid (V.heap[w.heap.size]? = some (.cells #[.int .i64 mn, .int .i64 mx] 23 (0, 0))) := Lib.hid (by rw [hV]; exact box_alloc (heap_alloc_new _ _) _)
  have H1 : Hid (V.heap[w.heap.size + 1]? = some (.cells #[.int .i64 0, .int .i64 0, .slice none 0 0, .slice none 0 0, .int .i64 0, .int .i64 0, .bool false, .int .i64 0, .int .i64 0] 37 (0, 0))) := Lib.hid (by rw [hV]; exact heap_new_at _ (by simp))
  have HB : Hid (Below w.heap.size w V) := Lib.hid (by rw [hV]; exact ((Below.refl _ _).alloc (Nat.le_refl _) _).alloc (by simp) _)
  clear hV
  obtain ⟨x0, y0⟩ := box_rules H0.out
  have l0 := box_lt H0.out
  go_upto_region 3 with (go_at_call 19; (with_reducible refine (f1.out _).mono ?_); rintro e w1 ⟨rfl, hb1⟩; have K1 := Lib.hid (box_keep H1.out hb1); have KB := Lib.hid (HB.out.trans (hb1.mono HB.out.size)); clear hb1)
  clear x0 y0 l0
  go_upto_region 4 with (go_at_call 20; (with_reducible refine (f2.out _).mono ?_); rintro e w2 ⟨rfl, hb2⟩; have J1 := Lib.hid (box_keep K1.out hb2); have JB2 := Lib.hid (KB.out.trans (hb2.mono KB.out.size)); clear hb2)
  refine name_world fun U hU => ?_
  have hbU : Below w2.heap.size w2 U := by
    rw [hU]; first | exact (Below.refl _ _).alloc (Nat.le_refl _) _ | exact (((Tn.refl [] w2).alloc _).new (set4 (heap_alloc_new _ _) rfl _ _ _ _).2 (fun b hb => by simp at hb; omega)).base (Below.refl _ _) (fun b hb => by cases hb) (Nat.le_refl _)
  have I1 := Lib.hid (box_keep J1.out hbU)
  have IB := Lib.hid (JB2.out.trans (hbU.mono JB2.out.size))
  clear hU hbU
  obtain ⟨x1, y1⟩ := box_rules I1.out
  have l1 := box_lt I1.out
  go_wp2
  refine name_post fun V4 hV4 => ?_
  obtain ⟨hE4, hT4⟩ := set9 (I1.out) (.int .i64 0) (.int .i64 0) (.slice none 0 0) (.slice none 0 0) (.int .i64 0) (.int .i64 0) (.bool false) (.int .i64 0) (.int .i64 0)
  rw [← hV4] at hE4 hT4
  obtain ⟨vx, vy⟩ := box_rules hE4
  clear hV4
  refine bodyPost_ret (v := .tuple #[.agg #[.int .i64 0, .int .i64 0, .slice none 0 0, .slice none 0 0, .int .i64 0, .int .i64 0, .bool false, .int .i64 0, .int .i64 0], .int .i64 1]) (by simp [results, Tryz.f6, go_sem, vx]) rfl ?_
  exact ⟨rfl, hT4.base IB.out (fun k hk => by obtain rfl := List.mem_singleton.1 hk; omega) (IB.out).size⟩
/-- The service's box of the document's, and its rows. -/
structure TpB (V : World) (b : Nat) (g : SvF) (room mn mx : Int) (s : Sst) (A : Option Addr) (c : Nat) (Q : Option Addr) (d : Nat) : Prop where
  box : V.heap[b]? = some (.cells #[.int .i64 s.now, .int .i64 room, .slice A s.L.length c, .slice Q s.P.length d, .int .i64 mn, .int .i64 mx, .bool s.armed, .int .i64 s.goal, .int .i64 s.wake] 37 (0, 0))
  ra : Rd V A (s.L.flatMap duc)
  rq : Rd V Q (s.P.flatMap pec)
  oa : ∀ a, A = some a → b < a.block ∧ a.block < V.heap.size ∧ a.block ∉ g.l
  oq : ∀ a, Q = some a → b < a.block ∧ a.block < V.heap.size ∧ a.block ∉ g.l
theorem TpB.below {V X : World} {b : Nat} {g : SvF} {room mn mx : Int} {s : Sst} {A : Option Addr} {c : Nat} {Q : Option Addr} {d : Nat} (h : TpB V b g room mn mx s A c Q d) (hb : Below V.heap.size V X) : TpB X b g room mn mx s A c Q d :=
  ⟨box_keep h.box hb, h.ra.below hb, h.rq.below hb, fun a ha => ⟨(h.oa a ha).1, Nat.lt_of_lt_of_le (h.oa a ha).2.1 hb.size, (h.oa a ha).2.2⟩, fun a ha => ⟨(h.oq a ha).1, Nat.lt_of_lt_of_le (h.oq a ha).2.1 hb.size, (h.oq a ha).2.2⟩⟩
theorem TpB.drewN {V : World} {b : Nat} {g : SvF} {room mn mx : Int} {s : Sst} {A : Option Addr} {c : Nat} {Q : Option Addr} {d : Nat} (h : TpB V b g room mn mx s A c Q d) (n : Nat) : TpB (V.drewN n) b g room mn mx s A c Q d := ⟨h.box, h.ra.drewN n, h.rq.drewN n, h.oa, h.oq⟩
/-- What plays hands back, flat. -/
def RetPlF (g : SvF) (room : Nat) (mn mx : Int) (pl : Nat) (tn : Nat) (A Q : Option Addr) (w : World) (e : Ending) (w' : World) : Prop :=
  ∃ (L2 : List Du) (P2 : List Pe) (n2 : Int) (a2 : Bool) (g2 k2 : Int) (A' : Option Addr) (c' : Nat) (Q' : Option Addr) (d' : Nat), e = .returned (.tuple #[.agg #[.int .i64 n2, .int .i64 (room : Int), .slice A' L2.length c', .slice Q' P2.length d', .int .i64 mn, .int .i64 mx, .bool a2, .int .i64 g2, .int .i64 k2], .bool true]) ∧
    JB ⟨L2, P2, n2, a2, g2, k2⟩ ∧ Bd ⟨L2, P2, n2, a2, g2, k2⟩ ∧ P2.length ≤ pl + 1 ∧ Rd w' A' (L2.flatMap duc) ∧ Rd w' Q' (P2.flatMap pec) ∧
    (∀ a, A' = some a → A = some a ∨ (w.heap.size ≤ a.block ∧ a.block < w'.heap.size)) ∧ (∀ a, Q' = some a → Q = some a ∨ (w.heap.size ≤ a.block ∧ a.block < w'.heap.size)) ∧ SvS w' g room mn mx n2 ⟨L2, P2, n2, a2, g2, k2⟩ tn ∧ Tn g.l w w'
theorem RetPls.flat {g : SvF} {room : Nat} {mn mx : Int} {s : Sst} {tn : Nat} {A Q : Option Addr} {w : World} {e : Ending} {w' : World} (h : RetPls g room mn mx s tn A Q w e w') : RetPlF g room mn mx s.P.length tn A Q w e w' := by
  obtain ⟨⟨L2, P2, n2, a2, g2, k2⟩, h1, h2, h3, A', c', Q', d', rfl, q1, q2, q3, q4, q5, q6⟩ := h
  exact ⟨L2, P2, n2, a2, g2, k2, A', c', Q', d', rfl, h1, h2, h3, q1, q2, q3, q4, q5, q6⟩
set_option maxHeartbeats 16000000 in
set_option maxRecDepth 100000 in
theorem ticklessPlays_any (start mn mx room : Int) (l : List Kt) (A0 : Option Addr) (ca : Nat) (w : World) (hr : Rd w A0 (l.flatMap ktc)) (hid : ∀ x ∈ l, I64N x.id) (hx : I64N mx) (hT : Tab w) :
    Calls Tryz.prog 3 #[.int .i64 start, .agg #[.int .i64 mn, .int .i64 mx], .int .i64 room, .slice A0 l.length ca] w fun e w' => e = .returned (.bool true) ∧ Below w.heap.size w w' := by
  have HT := Lib.hid hT; have HR := Lib.hid hr; have HI := Lib.hid hid
  have Hlt := Lib.hid hT.lt
  have f1 := Lib.hid (fun X (hX : Tab X) => lives10_any X hX)
  by_cases hok : TmOk mn mx
  · by_cases hg : 0 ≤ start ∧ start ≤ 4503599627370496 ∧ 1 ≤ room ∧ room ≤ 4096
    · obtain ⟨h0, h1, h2, h3⟩ := hg
      obtain ⟨r, rfl⟩ : ∃ r : Nat, room = (r : Int) := ⟨room.toNat, by omega⟩
      have f2 := Lib.hid (fun X => snew_ok start mn mx r X hok h0 h1 (by omega) (by omega))
      have f3 := Lib.hid (fun X => rsnew_ok start mn mx r X hok h0 h1 (by omega) (by omega))
      unfold RetSv at f2
      unfold rsS rsv at f3
      dsimp only [List.length_nil] at f3
      have HOk := Lib.hid hok
      have HRm : Hid (r ≤ 4096) := Lib.hid (by omega)
      have HJ0 : Hid (JB ⟨[], [], start, false, 0, 0⟩ ∧ Bd ⟨[], [], start, false, 0, 0⟩) := Lib.hid ⟨JB.zero h0 h1, ⟨by simp, by simp, fun x hx => (by cases hx)⟩⟩
      clear hr hid hT hx hok h0 h1 h2 h3
      go_enter Tryz.func3, Tryz.ntmps3
      go_upto_region 1 with fail
      refine name_world fun V hV => ?_
      have H0 : Hid (V.heap[w.heap.size]? = some (.cells #[.int .i64 mn, .int .i64 mx] 23 (0, 0))) := Lib.hid (by rw [hV]; exact heap_alloc_new _ _)
      have HB : Hid (Below w.heap.size w V) := Lib.hid (by rw [hV]; exact (Below.refl _ _).alloc (Nat.le_refl _) _)
      clear hV
      have HTV := Lib.hid (HT.out.below HB.out Hlt.out)
      go_upto_region 3 with (go_at_call 4; (with_reducible refine (f1.out _ HTV.out).mono ?_); rintro e w1 ⟨rfl, hb1⟩; have H1 := Lib.hid (box_keep H0.out hb1); have HB1 := Lib.hid (HB.out.trans (hb1.mono HB.out.size)); clear hb1)
      obtain ⟨x0, y0⟩ := box_rules H1.out
      have l0 := box_lt H1.out
      go_upto_region 4 with (go_at_call 5; (with_reducible refine (f2.out w1).mono ?_); rintro e w2 ⟨g, rfl, hf, hs2, hb2⟩; have HF := Lib.hid hf; have HS2 := Lib.hid hs2; have H2 := Lib.hid (box_keep H1.out hb2); have HB2 := Lib.hid (HB1.out.trans (hb2.mono HB1.out.size)); clear hf hs2 hb2)
      clear x0 y0 l0
      obtain ⟨x0, y0⟩ := box_rules H2.out
      have l0 := box_lt H2.out
      have HG : Hid (0 ∉ g.l) := Lib.hid (fun hm => by have h1 := HF.out _ hm; have h2 := Hlt.out; have h3 := HB1.out.size; omega)
      have HFg : Hid (∀ b ∈ g.l, w.heap.size < b) := Lib.hid (fun b hb => by have h1 := HF.out _ hb; have h2 := box_lt H1.out; omega)
      go_upto_region 5 with (go_at_call 6; (with_reducible refine (f3.out _).mono ?_); rintro e w3 ⟨rfl, hb3⟩; have HS3 := Lib.hid (HS2.out.below hb3); have HB3 := Lib.hid (HB2.out.trans (hb3.mono HB2.out.size)); clear hb3)
      refine name_world fun Va hVa => ?_
      have hbA : Below w3.heap.size w3 Va := by
        rw [hVa]; first | exact (Below.refl _ _).alloc (Nat.le_refl _) _ | exact (((Tn.refl [] w3).alloc _).new (set9 (heap_alloc_new _ _) _ _ _ _ _ _ _ _ _).2 (fun b hb => by simp at hb; omega)).base (Below.refl _ _) (fun b hb => by cases hb) (Nat.le_refl _)
      have HA : Hid (Va.heap[w3.heap.size]? = some (.cells #[.int .i64 start, .int .i64 (r : Int), .slice none 0 0, .slice none 0 0, .int .i64 mn, .int .i64 mx, .bool false, .int .i64 0, .int .i64 0] 37 (0, 0))) := Lib.hid (by
        rw [hVa]; first | exact heap_alloc_new _ _ | exact (set9 (heap_alloc_new _ _) _ _ _ _ _ _ _ _ _).1)
      have HSa := Lib.hid (HS3.out.below hbA)
      have HBa := Lib.hid (HB3.out.trans (hbA.mono HB3.out.size))
      have HTa := Lib.hid (HT.out.below HBa.out Hlt.out)
      have hzb : w.heap.size ≤ w3.heap.size := HB3.out.size
      have HGb : Hid (∀ b ∈ g.l, b < w3.heap.size) := Lib.hid HS3.out.lt
      clear hVa hbA x0 y0 l0 H0 H1 H2 HB HB1 HB2 HB3 HS2 HS3 HTV HF f1 f2 f3
      obtain ⟨b1, hb1⟩ : ∃ b1, w3.heap.size = b1 := ⟨_, rfl⟩
      rw [hb1] at HA hzb HGb
      rw [hb1]
      clear hb1
      have hb1m : b1 ∈ b1 :: g.l := List.mem_cons_self ..
      have HP0 : Hid (TpB Va b1 g r mn mx ⟨[], [], start, false, 0, 0⟩ none 0 none 0) := Lib.hid ⟨HA.out, Rd.nil _ _, Rd.nil _ _, fun a ha => (by cases ha), fun a ha => (by cases ha)⟩
      clear HA
      obtain ⟨x0, y0⟩ := box_rules HP0.out.box
      have l0 := box_lt HP0.out.box
      by_cases c1 : l.length ≤ 30
      · have c1' : decide (30 < l.length) = false := decide_eq_false (by omega)
        have c2' : decide (30 < (l.length : Int)) = false := decide_eq_false (by omega)
        have c3' : ¬ 30 < (l.length : Int) := by omega
        go_upto_region 9 with fail
        clear x0 y0 l0 c1' c2' c3'
        go_wp2
        go_loopw [59] (fun i wr => ∃ (k : Nat) (s : Sst) (A : Option Addr) (c : Nat) (Q : Option Addr) (d : Nat), i = .int .i64 k ∧ k ≤ l.length ∧ Hid (JB s ∧ Bd s ∧ s.P.length ≤ k) ∧ Hid (SvS wr g r mn mx s.now s (4195328 * k)) ∧ Hid (TpB wr b1 g r mn mx s A c Q d) ∧ Hid (Tn (b1 :: g.l) Va wr)) (fun i _ => l.length - (intOf i).toNat)
        case atStart => exact ⟨0, _, none, 0, none, 0, rfl, by omega, Lib.hid ⟨HJ0.out.1, HJ0.out.2, by simp⟩, HSa, HP0, Lib.hid (Tn.refl _ _)⟩
        case round =>
          obtain ⟨k, s, A, c, Q, d, rfl, hk, HJj, HSj, HPj, HTj⟩ := hrel
          have HBj : Hid (Below w.heap.size w wr) := Lib.hid (HTj.out.base HBa.out (fun b hb => by rcases List.mem_cons.1 hb with rfl | hb; exact hzb; exact Nat.le_of_lt (HFg.out b hb)) HBa.out.size)
          by_cases hlt : k < l.length
          · obtain ⟨a0, x, rfl, hx, g0, g1, g2, g3⟩ := (HR.out.below HBj.out).ktAt hlt
            have HId : Hid (I64N x.id) := Lib.hid (HI.out x (by rw [← hx, getD_lt hlt]; exact List.getElem_mem _))
            obtain ⟨kd, id, at1, e2⟩ := x
            dsimp only at *
            clear hx
            go_upto_region 12 with fail
            refine name_world fun U hU => ?_
            have hbU : Below wr.heap.size wr U := by rw [hU]; exact (Below.refl _ _).alloc (Nat.le_refl _) _
            have HXu : Hid (U.heap[wr.heap.size]? = some (.cells #[.int .i64 kd, .int .i64 id, .int .i64 at1, .int .i64 e2] 41 (0, 0))) := Lib.hid (by rw [hU]; exact heap_alloc_new _ _)
            have HSu := Lib.hid (HSj.out.below hbU)
            have HTu := Lib.hid (HTj.out.below hbU)
            have HPu := Lib.hid (HPj.out.below hbU)
            have HTb : Hid (Tab U) := Lib.hid (HTa.out.tn HTu.out (fun hm => by rcases List.mem_cons.1 hm with h7 | h7; have h6 := Hlt.out; omega; exact HG.out h7))
            have HIn : Hid (PlIn U g r mn mx s (4195328 * k) A Q) := Lib.hid ⟨HSu.out, HJj.out.1, HJj.out.2.1, HOk.out, HRm.out, by omega, HPu.out.ra, HPu.out.rq, fun a ha => (HPu.out.oa a ha).2, fun a ha => (HPu.out.oq a ha).2, HTb.out, HG.out⟩
            have fP := Lib.hid ((plays_any g r mn mx s (4195328 * k) A c Q d kd id at1 e2 U HIn.out HId.out (by have := HJj.out.2.2; omega)).mono (fun e w' q => RetPls.flat q))
            have HJl := Lib.hid HJj.out.2.2
            clear hU hbU g0 g1 g2 g3 HIn HId HSj HPj HTj HBj HJj HTb
            obtain ⟨L, P, now, ar, goal, wk⟩ := s
            unfold rsS rsv RetPlF at fP
            dsimp only at *
            generalize wr.heap.size = b12 at *
            obtain ⟨xx, xy⟩ := box_rules HXu.out
            have lx := box_lt HXu.out
            obtain ⟨x0, y0⟩ := box_rules HPu.out.box
            have l0 := box_lt HPu.out.box
            dsimp only at x0
            have HKL : Hid (k + 1 ≤ l.length) := Lib.hid hlt
            go_upto_region 13 with (go_at_call 7; (with_reducible refine fP.out.mono ?_); rintro e w5 ⟨L2, P2, n2, a2, g2, k2, A5, c5, Q5, d5, rfl, hj5, hbd5, hl5, hr5, hq5, ho5, hp5, hs5, ht5⟩; have HJ5 := Lib.hid hj5; have HBd5 := Lib.hid hbd5; have HL5 := Lib.hid hl5; have HR5 := Lib.hid hr5; have HQ5 := Lib.hid hq5; have HO5 := Lib.hid ho5; have HQo5 := Lib.hid hp5; have HS5 := Lib.hid hs5; have HT5 := Lib.hid ht5; clear hj5 hbd5 hl5 hr5 hq5 ho5 hp5 hs5 ht5)
            have hgb : b1 ∉ g.l := fun hm => by have := HGb.out _ hm; omega
            have HX5 := Lib.hid (HT5.out.box HPu.out.box hgb)
            have hb5 : b1 < U.heap.size := box_lt HPu.out.box
            have hu5 := HT5.out.size
            have oA : ∀ a, A5 = some a → b1 < a.block ∧ a.block < w5.heap.size ∧ a.block ∉ g.l := fun a ha => by
              rcases HO5.out a ha with q | q
              · have h7 := HPu.out.oa a q
                exact ⟨h7.1, by omega, h7.2.2⟩
              · exact ⟨by omega, q.2, fun hm => by have := HGb.out _ hm; omega⟩
            have oQ : ∀ a, Q5 = some a → b1 < a.block ∧ a.block < w5.heap.size ∧ a.block ∉ g.l := fun a ha => by
              rcases HQo5.out a ha with q | q
              · have h7 := HPu.out.oq a q
                exact ⟨h7.1, by omega, h7.2.2⟩
              · exact ⟨by omega, q.2, fun hm => by have := HGb.out _ hm; omega⟩
            have HOA := Lib.hid oA
            have HOQ := Lib.hid oQ
            have HT6 : Hid (Tn (b1 :: g.l) Va w5) := Lib.hid (HTu.out.trans (HT5.out.mono (fun q hq => List.mem_cons_of_mem _ hq)))
            dsimp only at HX5
            clear oA oQ hgb xx xy lx x0 y0 l0 HPu HTu HT5 HO5 HQo5 HXu HSu fP
            refine name_world fun U2 hU2 => ?_
            have hbU2 : Below w5.heap.size w5 U2 := by
              rw [hU2]; first | exact (Below.refl _ _).alloc (Nat.le_refl _) _ | exact (((Tn.refl [] w5).alloc _).new (set9 (heap_alloc_new _ _) _ _ _ _ _ _ _ _ _).2 (fun b hb => by simp at hb; omega)).base (Below.refl _ _) (fun b hb => by cases hb) (Nat.le_refl _)
            have HY : Hid (U2.heap[w5.heap.size]? = some (.cells #[.int .i64 n2, .int .i64 (r : Int), .slice A5 L2.length c5, .slice Q5 P2.length d5, .int .i64 mn, .int .i64 mx, .bool a2, .int .i64 g2, .int .i64 k2] 37 (0, 0))) := Lib.hid (by
              rw [hU2]; first | exact heap_alloc_new _ _ | exact (set9 (heap_alloc_new _ _) _ _ _ _ _ _ _ _ _).1)
            have HBU2 := Lib.hid hbU2
            have HX6 := Lib.hid (box_keep HX5.out hbU2)
            have hu6 := hbU2.size
            clear hU2 hbU2
            obtain ⟨x0, y0⟩ := box_rules HX6.out
            have l0 := box_lt HX6.out
            obtain ⟨xy1, yy1⟩ := box_rules HY.out
            have ly1 := box_lt HY.out
            go_upto_region 16 with fail
            refine name_world fun U3 hU3 => ?_
            obtain ⟨hE3, hT3⟩ := set9 HX6.out (.int .i64 n2) (.int .i64 (r : Int)) (.slice A5 L2.length c5) (.slice Q5 P2.length d5) (.int .i64 mn) (.int .i64 mx) (.bool a2) (.int .i64 g2) (.int .i64 k2)
            rw [← hU3] at hE3 hT3
            have hu7 := hT3.size
            have HP3 : Hid (TpB U3 b1 g r mn mx ⟨L2, P2, n2, a2, g2, k2⟩ A5 c5 Q5 d5) := Lib.hid ⟨hE3, (HR5.out.below HBU2.out).tn hT3 (fun a ha hm => by have h7 := List.mem_singleton.1 hm; have h6 := (HOA.out a ha).1; omega), (HQ5.out.below HBU2.out).tn hT3 (fun a ha hm => by have h7 := List.mem_singleton.1 hm; have h6 := (HOQ.out a ha).1; omega), fun a ha => ⟨(HOA.out a ha).1, by have := (HOA.out a ha).2.1; omega, (HOA.out a ha).2.2⟩, fun a ha => ⟨(HOQ.out a ha).1, by have := (HOQ.out a ha).2.1; omega, (HOQ.out a ha).2.2⟩⟩
            have HS3 := Lib.hid ((HS5.out.below HBU2.out).turn hT3 (fun b hb hm => by have h7 := List.mem_singleton.1 hm; have := HGb.out b hb; omega))
            have HT3 : Hid (Tn (b1 :: g.l) Va U3) := Lib.hid ((HT6.out.below HBU2.out).trans (hT3.mono (fun q hq => by rw [List.mem_singleton.1 hq]; exact hb1m)))
            clear hU3 hE3 hT3 hu5 hu6 hu7 hb5 x0 y0 l0 xy1 yy1 ly1 HX5 HX6 HY HBU2 HT6 HS5 HR5 HQ5 HOA HOQ
            have fW := Lib.hid (HS3.out.wakec HJ5.out)
            dsimp only at fW
            go_upto_region 17 with (go_at_call 8; (with_reducible refine fW.out.mono ?_); rintro e w6 ⟨rfl, hb6⟩; have HP6 := Lib.hid (HP3.out.below hb6); have HS6 := Lib.hid (HS3.out.below hb6); have HT7 := Lib.hid (HT3.out.below hb6); clear hb6)
            obtain ⟨x0, y0⟩ := box_rules HP6.out.box
            have l0 := box_lt HP6.out.box
            dsimp only at x0
            have z1 : (a2 != a2) = false := by simp
            have z2 : (k2 != k2) = false := by simp
            have z3 : (n2 != n2) = false := by simp
            have z4 : ((L2.length : Int) != (L2.length : Int)) = false := by simp
            have fN := Lib.hid (fun n => (HS6.out.drew2 n).nowc)
            have fL := Lib.hid (fun n => (HS6.out.drew2 n).lenc)
            dsimp only at fN fL
            go_quiet ((first
              | (go_at_call 9; (with_reducible exact Calls.quiet_of_same ((fN.out _).mono fun _ _ ⟨a, b⟩ => ⟨a, b.symm⟩)))
              | (go_at_call 10; (with_reducible exact Calls.quiet_of_same ((fL.out _).mono fun _ _ ⟨a, b⟩ => ⟨a, b.symm⟩)))))
            go_wp2
            refine ⟨⟨k + 1, ⟨L2, P2, n2, a2, g2, k2⟩, A5, c5, Q5, d5, by go_num, HKL.out, Lib.hid ⟨HJ5.out, HBd5.out, by have h7 := HL5.out; have h6 := HJl.out; show P2.length ≤ k + 1; omega⟩, Lib.hid ((HS6.out.drew2 _).mono (by omega)), Lib.hid (HP6.out.drewN _), Lib.hid (HT7.out.drewN _)⟩, by have h7 := HKL.out; simp [intOf]; omega⟩
          · go_wp2
            go_ret
            exact ⟨rfl, HBj.out⟩
      · have c1' : decide (30 < l.length) = true := decide_eq_true (by omega)
        have c2' : decide (30 < (l.length : Int)) = true := decide_eq_true (by omega)
        have c3' : 30 < (l.length : Int) := by omega
        go_wp2
        go_ret
        exact ⟨rfl, HBa.out⟩
    · have f2 := Lib.hid (fun X => snew_bad start mn mx room X hok hg)
      have f3 := Lib.hid (fun X => rsnew_badZ start mn mx room X hok (fun h9 => hg ⟨h9.1.1, h9.1.2, h9.2⟩))
      clear hok hg
      clear hr hid hT hx
      go_enter Tryz.func3, Tryz.ntmps3
      go_upto_region 1 with fail
      refine name_world fun V hV => ?_
      have H0 : Hid (V.heap[w.heap.size]? = some (.cells #[.int .i64 mn, .int .i64 mx] 23 (0, 0))) := Lib.hid (by rw [hV]; exact heap_alloc_new _ _)
      have HB : Hid (Below w.heap.size w V) := Lib.hid (by rw [hV]; exact (Below.refl _ _).alloc (Nat.le_refl _) _)
      clear hV
      have HTV := Lib.hid (HT.out.below HB.out Hlt.out)
      go_upto_region 3 with (go_at_call 4; (with_reducible refine (f1.out _ HTV.out).mono ?_); rintro e w1 ⟨rfl, hb1⟩; have H1 := Lib.hid (box_keep H0.out hb1); have HB1 := Lib.hid (HB.out.trans (hb1.mono HB.out.size)); clear hb1)
      obtain ⟨x0, y0⟩ := box_rules H1.out
      have l0 := box_lt H1.out
      go_upto_region 4 with (go_at_call 5; (with_reducible refine (f2.out w1).mono ?_); rintro e w2 ⟨rfl, hb2⟩; have H2 := Lib.hid (box_keep H1.out hb2); have HB2 := Lib.hid (HB1.out.trans (hb2.mono HB1.out.size)); clear hb2)
      clear x0 y0 l0
      obtain ⟨x0, y0⟩ := box_rules H2.out
      have l0 := box_lt H2.out
      go_wp2_with (go_at_call 6; (with_reducible refine (f3.out _).mono ?_); rintro e w3 ⟨rfl, hb3⟩; have HB3 := Lib.hid (HB2.out.trans (hb3.mono HB2.out.size)); clear hb3)
      go_ret
      refine ⟨rfl, ?_⟩
      have hz := HB3.out.size
      repeat (with_reducible first | exact HB3.out | refine Below.setCell ?_ hz _ | refine Below.alloc ?_ hz _)
  · have f2 := Lib.hid (fun X => snew_form start mn mx room X hok hx)
    have f3 := Lib.hid (fun X => rsnew_formZ start mn mx room X hok hx)
    clear hok
    clear hr hid hT hx
    go_enter Tryz.func3, Tryz.ntmps3
    go_upto_region 1 with fail
    refine name_world fun V hV => ?_
    have H0 : Hid (V.heap[w.heap.size]? = some (.cells #[.int .i64 mn, .int .i64 mx] 23 (0, 0))) := Lib.hid (by rw [hV]; exact heap_alloc_new _ _)
    have HB : Hid (Below w.heap.size w V) := Lib.hid (by rw [hV]; exact (Below.refl _ _).alloc (Nat.le_refl _) _)
    clear hV
    have HTV := Lib.hid (HT.out.below HB.out Hlt.out)
    go_upto_region 3 with (go_at_call 4; (with_reducible refine (f1.out _ HTV.out).mono ?_); rintro e w1 ⟨rfl, hb1⟩; have H1 := Lib.hid (box_keep H0.out hb1); have HB1 := Lib.hid (HB.out.trans (hb1.mono HB.out.size)); clear hb1)
    obtain ⟨x0, y0⟩ := box_rules H1.out
    have l0 := box_lt H1.out
    go_upto_region 4 with (go_at_call 5; (with_reducible refine (f2.out w1).mono ?_); rintro e w2 ⟨rfl, hb2⟩; have H2 := Lib.hid (box_keep H1.out hb2); have HB2 := Lib.hid (HB1.out.trans (hb2.mono HB1.out.size)); clear hb2)
    clear x0 y0 l0
    obtain ⟨x0, y0⟩ := box_rules H2.out
    have l0 := box_lt H2.out
    go_wp2_with (go_at_call 6; (with_reducible refine (f3.out _).mono ?_); rintro e w3 ⟨rfl, hb3⟩; have HB3 := Lib.hid (HB2.out.trans (hb3.mono HB2.out.size)); clear hb3)
    go_ret
    refine ⟨rfl, ?_⟩
    have hz := HB3.out.size
    repeat (with_reducible first | exact HB3.out | refine Below.setCell ?_ hz _ | refine Below.alloc ?_ hz _)
end Go.Proofs.YtiblpnadninmbaaGreatDoor

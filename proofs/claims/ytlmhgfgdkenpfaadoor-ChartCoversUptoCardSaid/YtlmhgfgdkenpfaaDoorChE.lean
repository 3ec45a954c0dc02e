/- Package chart: the walk of Runs. Conditions: lists that read. -/
import Derived.Test.YtlmhgfgdkenpfaaDoorRound
import Derived.Test.YtlmhgfgdkenpfaaDoorChD
namespace Go.Proofs.YtlmhgfgdkenpfaaDoor
open Go.RowKit Go.Shelf
attribute [local go_sem] Oper.semAt_some

theorem ownFrom_boxC {β : Type} {B b : Nat} {o : Obj} (hb : b < B) : OwnFrom B (fun (_ : β) W => W.heap[b]? = some o) := fun _ _ _ _ hs hg hr =>
  (hg.block b (box_lt hs) (fun e => by have := (hr b e.symm).1; omega)).trans hs
theorem ownFrom_belowC {β : Type} {B n : Nat} {w0 : World} (hn : n ≤ B) (h0 : n ≤ w0.heap.size) : OwnFrom B (fun (_ : β) W => Below n w0 W) := fun _ _ _ _ hs hg hr =>
  hs.grown hg (Nat.le_trans h0 hs.size) fun k e => Nat.le_trans hn (hr k e).1
theorem ownFrom_rowC {β : Type} {B : Nat} (f : β → Value) (n : β → Nat) (vs : β → List Value) {base : Nat} {e : TypeId} {k : Nat} : OwnFrom B (fun (s : β) W => W.ownsRow base e k (f s) (n s) (vs s)) := fun s W W' row hs hg hr =>
  own_keptK hs fun g hg' => by
    obtain ⟨_, hlt, cur, hc⟩ := own_blockK hs hg'
    refine hg.block g hlt (fun e => ?_)
    obtain ⟨_, o, ho, hcc⟩ := hr g e.symm
    rw [hc] at ho
    cases ho
    cases hcc
/-- What the loop of Runs holds. -/
structure RnI (w0 : World) (s : Nat) (pre : List Rn) (W : World) : Prop where
  row : ∃ P c, W.heap[s]? = some (.cells #[.slice P (pre.foldl addR []).length c] 44 (0, 0)) ∧ W.ownsRow (s + 8) 33 4 (.slice P (pre.foldl addR []).length c) (pre.foldl addR []).length ((pre.foldl addR []).flatMap rnc)
  ptr : W.heap[s + 1]? = some (.cells #[.pointer (some ⟨s, 0, none⟩)] 42 (0, 0))
  low : Below w0.heap.size w0 W
theorem rnI_own {w0 : World} {s B : Nat} (hB : s + 2 ≤ B) (h0 : w0.heap.size ≤ s) : OwnFrom B (RnI w0 s) := fun pre W W' row h hg hr => by
  obtain ⟨P, c, h1, h2⟩ := h.row
  exact ⟨⟨P, c, ownFrom_boxC (β := Unit) (by omega) () W W' row h1 hg hr, ownFrom_rowC (β := Unit) (fun _ => _) (fun _ => _) (fun _ => _) () W W' row h2 hg hr⟩, ownFrom_boxC (β := Unit) (by omega) () W W' row h.ptr hg hr, ownFrom_belowC (β := Unit) (by omega) (Nat.le_refl _) () W W' row h.low hg hr⟩
theorem rnI_turn {w0 : World} {s : Nat} (h0 : w0.heap.size ≤ s) {pre : List Rn} {A B : World} (h : RnI w0 s pre A) (ht : Turns (s + 7) A B) : RnI w0 s pre B := by
  obtain ⟨i, v, _, rfl⟩ := ht
  obtain ⟨P, c, h1, h2⟩ := h.row
  exact ⟨⟨P, c, box_far h1 (p := ⟨s + 7, i, none⟩) (by show s ≠ s + 7; omega) _, own_setK h2 (own_low h2 (by show s + 7 < _; omega)) _⟩, box_far h.ptr (p := ⟨s + 7, i, none⟩) (by show s + 1 ≠ s + 7; omega) _, h.low.setCell (p := ⟨s + 7, i, none⟩) (by show _ ≤ s + 7; omega) _⟩
theorem rollk_mk {nA s : Nat} {W W' : World} {cs : Array Value} {z : Nat × Nat} (h : RollK (s + 8) s W W') (hr : W.heap[s]? = some (.cells cs 44 z)) (h1 : nA ≤ s) (h2 : nA ≤ W.heap.size) : KeepsMk nA [s] (s + 7) W W' :=
  ⟨h.low nA h1 (by omega) h2, fun k o hk _ hn => by
    rcases hn with ⟨a, b⟩ | ⟨cs', z', rfl⟩
    · exact h.same k o hk (by simpa using b) (.inl (by omega))
    · refine h.same k _ hk (fun e => ?_) (.inr ?_)
      · subst e; rw [hr] at hk; injection hk with hk; injection hk with _ e; exact absurd e (by decide)
      · rintro ⟨_, _, e⟩; injection e with _ e; exact absurd e (by decide)⟩
theorem rollk_kf {B s : Nat} {W W' : World} (h : RollK (s + 8) s W W') (hB : s < B) : KeepsFrom B W W' :=
  ⟨h.size, fun k o hk ho hc => h.same k o ho (by omega) (.inr (by rintro ⟨_, _, rfl⟩; cases hc))⟩
def RnX (_c : Code) (_pre : List Rn) (_W : World) : Prop := False
def runsO (ms : List Mk) (start now : Int) : List Rn := if rgB ms start now then runsL ms start now else []
/-- What Runs hands back. -/
def RetRuns (ms : List Mk) (start now : Int) (w : World) (e : Ending) (w' : World) : Prop := ∃ P c, e = .returned (.tuple #[.slice P (runsO ms start now).length c, .int .i64 (if rgB ms start now then 0 else 2)]) ∧ Rd w' P ((runsO ms start now).flatMap rnc) ∧ Below w.heap.size w w'
/-- What Runs hands back, its room told. -/
def RetRunsC (ms : List Mk) (start now : Int) (w : World) (e : Ending) (w' : World) : Prop := ∃ P c, e = .returned (.tuple #[.slice P (runsO ms start now).length c, .int .i64 (if rgB ms start now then 0 else 2)]) ∧ Rd w' P ((runsO ms start now).flatMap rnc) ∧ Below w.heap.size w w' ∧ (runsO ms start now).length ≤ c
theorem own_capK {w : World} {base k n c m : Nat} {e : TypeId} {P : Option Addr} {xs : List Value} (h : w.ownsRow base e k (.slice P n c) m xs) : n ≤ c := by
  rcases h.2 with ⟨h1, _⟩ | ⟨g, cap, cur, h1, _, _, h2, _⟩
  · cases h1; exact Nat.le_refl _
  · cases h1; exact h2
set_option maxHeartbeats 4000000 in
set_option maxRecDepth 100000 in
theorem runs_anyC (ms : List Mk) (start now : Int) (A : Option Addr) (c : Nat) (w : World) (hl : ms.length ≤ 1048576) (hr : Rd w A (ms.flatMap mkc)) :
    Calls Tryd.prog 6 #[.slice A ms.length c, .int .i64 start, .int .i64 now] w (RetRunsC ms start now w) := by
  have fR := Lib.hid (right_any ms A c start now w hl hr)
  have fS := Lib.hid (spans_any A ms.length c start now)
  have Hr := Lib.hid hr
  have HRu : Hid (runsL ms start now = (spL ms start now).foldl addR []) := Lib.hid rfl
  clear hr
  unfold RetRunsC runsO
  by_cases hg : rgB ms start now = true
  · rw [hg] at fR ⊢
    simp only [if_true]
    generalize runsL ms start now = RL at *
    refine calls_marks Tryd.func6 rfl ?_
    simp only [Tryd.ntmps6, List.size_toArray, List.length_cons, List.length_nil, Nat.reduceAdd, Nat.reduceSub, Array.replicate_succ, Array.replicate_zero, List.push_toArray, List.append_toArray, List.nil_append, List.cons_append]
    go_wp2_with first | (go_at_call 18; refine fR.out.mono ?_; rintro e w1 ⟨rfl, hb1⟩) | (go_at_call 19; refine (fS.out _).mono ?_; rintro e w' ⟨rfl, rfl⟩)
    refine name_world fun W6 hW6 => ?_
    have hz6 : W6.heap.size = w1.heap.size + 5 := by rw [hW6]; simp
    have hs0 := hb1.size
    have hB6 : Below w.heap.size w W6 := by rw [hW6]; exact ((((hb1.alloc hs0 _).alloc (by simp; omega) _).alloc (by simp; omega) _).alloc (by simp; omega) _).alloc (by simp; omega) _
    have x0 : W6.heap[w1.heap.size]? = some (.cells #[.slice none 0 0] 44 (0, 0)) := by rw [hW6]; exact box_alloc (box_alloc (box_alloc (box_alloc (heap_alloc_new _ _) _) _) _) _
    have x1 : W6.heap[w1.heap.size + 1]? = some (.cells #[.pointer (some ⟨w1.heap.size, 0, none⟩)] 42 (0, 0)) := by rw [hW6]; exact box_alloc (box_alloc (box_alloc (heap_new_at _ (by simp)) _) _) _
    have x2 : W6.heap[w1.heap.size + 2]? = some (.cells #[.slice A ms.length c] 22 (0, 0)) := by rw [hW6]; exact box_alloc (box_alloc (heap_new_at _ (by simp)) _) _
    have x3 : W6.heap[w1.heap.size + 3]? = some (.cells #[.int .i64 start] 2 (0, 0)) := by rw [hW6]; exact box_alloc (heap_new_at _ (by simp)) _
    have x4 : W6.heap[w1.heap.size + 4]? = some (.cells #[.int .i64 now] 2 (0, 0)) := by rw [hW6]; exact heap_new_at _ (by simp)
    clear hW6 hb1 fR fS
    generalize w1.heap.size = s at *
    have hit := spans_iter ms start now A c (s + 3) (s + 2) (s + 4) [s] w W6 hl hB6 ⟨by simp, by omega⟩ ⟨by simp, by omega⟩ ⟨by simp, by omega⟩ (by simp; omega) x3 x2 x4 Hr.out
    have hI0 : RnI w s [] W6 := ⟨⟨none, 0, x0, own_nilK _ _ _ _⟩, x1, hB6⟩
    have hz7 : W6.heap.size + 2 = s + 7 := by omega
    clear x0 x1 x2 x3 x4
    rw [show s + 1 + 1 + 1 = s + 3 from rfl, show s + 1 + 1 = s + 2 from rfl, show s + 2 + 2 = s + 4 from rfl]
    refine (wpIn_wide (n := 9)).1 (wpIn_rangeFunc_W rfl (enters_of Tryd.func29 (by kernel_rfl) rfl) hit (fun h k => h.trans k) (KeepsMk.put (by omega)) (Below.refl _ _) (fun _ => rfl)
      (RnI w s) RnX (rnI_own (by omega) hs0) (fun _ _ _ _ _ h _ _ => h.elim) (fun pre X Y h ht => rnI_turn hs0 h (by rw [← hz7]; exact ht)) (fun _ _ _ _ h _ => h.elim) hI0
      (fun x a' W => ∃ q, a' = { tmps := #[.slice A ms.length c, .int .i64 start, .int .i64 now, undef, undef, undef, .slice none 0 0, .int .i64 0, .pointer (some ⟨s + 1, 0, none⟩), .pointer (some ⟨q, 0, none⟩), .slice A ms.length c, .int .i64 start, .int .i64 now, .bool true, .bool false, .agg #[.slice none 0 0], .pointer (some ⟨s, 0, none⟩),
          .slice A ms.length c, .int .i64 start, .int .i64 now, .func (.func 29) #[] #[.pointer (some ⟨s + 3, 0, none⟩), .pointer (some ⟨s + 2, 0, none⟩), .pointer (some ⟨s + 4, 0, none⟩)], rnv x, undef, undef, undef, undef, undef, undef, undef], defers := [] } ∧
        W.heap[q]? = some (.cells #[.int .u8 x.kind, .int .i64 x.who, .int .i64 x.ff, .int .i64 x.tt] 33 (0, 0)))
      (fun x a' u W W' row hs hg hr => by
        obtain ⟨q, h1, h2⟩ := hs
        refine ⟨q, h1, box_grown hg h2 (fun e => ?_)⟩
        obtain ⟨_, o, ho, hc⟩ := hr q e
        rw [h2] at ho
        cases ho
        cases hc)
      ?assign ?body ?done ?stop)
    case assign =>
      rintro l pre ⟨p0, p1, p2, p3⟩ W K hI hsz hK
      have HI := Lib.hid hI
      have HK := Lib.hid hK
      clear hI hit hI0 hB6 hK
      dsimp only [rnv]
      gi_wp2
      have hal : Below W.heap.size W (W.alloc (.cells #[.int .u8 p0, .int .i64 p1, .int .i64 p2, .int .i64 p3] 33)) := (Below.refl _ _).alloc (Nat.le_refl _) _
      refine HK.out _ _ ((ko_alloc (KeepsOthers.refl W) _).from _) ((KeepsMk.refl W).alloc (by omega) _) ?_ ⟨W.heap.size, rfl, heap_alloc_new W _⟩
      obtain ⟨P1, c1, h1, h2⟩ := HI.out.row
      exact ⟨⟨P1, c1, box_keep h1 hal, own_allocK h2 _⟩, box_keep HI.out.ptr hal, HI.out.low.alloc (by omega) _⟩
    case body =>
      rintro l pre x a' W hI hsz ⟨q, rfl, hq⟩ hlen
      obtain ⟨P1, c1, hbox, hrow⟩ := hI.row
      have hfl : (pre.foldl addR []).length ≤ 1099511627000 := by have := fold_len pre []; simp only [List.length_nil] at this; omega
      have fA := Lib.hid (add_any (s + 8) s c1 P1 (pre.foldl addR []) x W hfl (by omega) (by omega) hbox hrow)
      have hptr := hI.ptr
      have HPt := Lib.hid hptr
      have HLow := Lib.hid hI.low
      have HBx := Lib.hid hbox
      have HFo : Hid (addR (pre.foldl addR []) x = (pre ++ [x]).foldl addR []) := Lib.hid (by rw [List.foldl_append]; rfl)
      obtain ⟨kx, ky⟩ := box_rules hptr
      obtain ⟨qx, qy⟩ := box_rules hq
      clear hI hbox hrow hq hit hI0 hB6 hptr
      unfold RetAdd at fA
      rw [HFo.out] at fA
      generalize pre.foldl addR [] = Lp at *
      obtain ⟨p0, p1, p2, p3⟩ := x
      dsimp only [rnv] at *
      gi_wp2_with (refine ⟨trivial, ?_⟩; gi_at_call 20; refine (callsIn_round fA.out).mono ?_; rintro e w3 ⟨rfl, P2, c2, hx2, hr2, hk2⟩)
      exact ⟨rollk_kf hk2 (by omega), by rw [hz7]; exact rollk_mk hk2 HBx.out (by omega) (by omega), ⟨⟨P2, c2, hx2, hr2⟩, hk2.same _ _ HPt.out (by omega) (.inl (by omega)), HLow.out.trans (hk2.low _ (by omega) (by omega) (by omega))⟩⟩
    case done =>
      intro D' xs W hD hS hI hK
      obtain rfl : xs = spL ms start now := hS
      obtain ⟨P1, c1, hbox, hrow⟩ := hI.row
      have HLow := Lib.hid hI.low; have HK := Lib.hid hK
      rw [← HRu.out] at hbox hrow
      have HRow := Lib.hid hrow
      have hptr := hI.ptr
      obtain ⟨kx, ky⟩ := box_rules hbox
      obtain ⟨jx, jy⟩ := box_rules hptr
      clear hI hbox hrow hit hI0 hB6 hK hptr
      dsimp only
      go_wp2
      refine post_mark (v := .tuple #[.slice P1 RL.length c1, .int .i64 0]) HK.out (by simp [results, Tryd.f6, go_sem]) ?_
      refine ⟨P1, c1, rfl, ?_, HLow.out.trans ((Below.refl _ _).grown (grownBy_putObj' _ D' _) HLow.out.size (fun k e => by cases e; omega)), own_capK HRow.out⟩
      exact own_rdK (own_keptK HRow.out fun g hg => by
        obtain ⟨_, _, cur, hcur⟩ := own_blockK HRow.out hg
        exact World.putObj_heap_other (fun e => by rw [e, HK.out] at hcur; cases hcur))
    case stop =>
      intro D' c' pre W hD hS hX hK
      exact hX.elim
  · have hg' : rgB ms start now = false := by simpa using hg
    rw [hg'] at fR ⊢
    simp only [Bool.false_eq_true, if_false]
    clear hg HRu fS Hr
    go_enter Tryd.func6, Tryd.ntmps6
    go_wp2_with (go_at_call 18; refine fR.out.mono ?_; rintro e w1 ⟨rfl, hb1⟩; have HB := Lib.hid hb1; clear hb1)
    refine bodyPost_ret (results_tmp2 rfl _ _ _) rfl ?_
    exact ⟨none, 0, rfl, (fun i v h => by simp at h), HB.out, Nat.le_refl _⟩
theorem runs_any (ms : List Mk) (start now : Int) (A : Option Addr) (c : Nat) (w : World) (hl : ms.length ≤ 1048576) (hr : Rd w A (ms.flatMap mkc)) :
    Calls Tryd.prog 6 #[.slice A ms.length c, .int .i64 start, .int .i64 now] w (RetRuns ms start now w) :=
  (runs_anyC ms start now A c w hl hr).mono fun _ _ ⟨P, d, h1, h2, h3, _⟩ => ⟨P, d, h1, h2, h3⟩
end Go.Proofs.YtlmhgfgdkenpfaaDoor

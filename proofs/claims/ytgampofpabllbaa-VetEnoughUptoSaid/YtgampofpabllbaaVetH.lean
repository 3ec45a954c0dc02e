/- Package vet: the walks of First and Check. Conditions: lists that read. -/
import Derived.Test.YtgampofpabllbaaVetG
namespace Go.Proofs.Ytgampofpabllbaa
open Go.RowKit Go.Shelf
attribute [local go_sem] Oper.semAt_some

theorem ownFrom_box {β : Type} {B b : Nat} {o : Obj} (hb : b < B) : OwnFrom B (fun (_ : β) W => W.heap[b]? = some o) := fun _ _ _ _ hs hg hr =>
  (hg.block b (box_lt hs) (fun e => by have := (hr b e.symm).1; omega)).trans hs
theorem ownFrom_below {β : Type} {B n : Nat} {w0 : World} (hn : n ≤ B) (h0 : n ≤ w0.heap.size) : OwnFrom B (fun (_ : β) W => Below n w0 W) := fun _ _ _ _ hs hg hr =>
  hs.grown hg (Nat.le_trans h0 hs.size) fun k e => Nat.le_trans hn (hr k e).1
theorem ownFrom_and {β : Type} {B : Nat} {I J : β → World → Prop} (h : OwnFrom B I) (k : OwnFrom B J) : OwnFrom B (fun s W => I s W ∧ J s W) := fun s W W' row hs hg hr =>
  ⟨h s W W' row hs.1 hg hr, k s W W' row hs.2 hg hr⟩
/-- What the loop over all things that are looked at holds. -/
def FiI (w : World) (pre : List Fl) (W : World) : Prop :=
  (∀ f ∈ pre, f.why = 0) ∧ W.heap[w.heap.size + 1]? = some (.cells #[.int .u8 0, .int .i64 0, .int .i64 0] 51 (0, 0)) ∧ W.heap[w.heap.size + 2]? = some (.cells #[.bool false] 4 (0, 0)) ∧ Below w.heap.size w W ∧ w.heap.size + 4 ≤ W.heap.size
def FiX (w : World) (c : Code) (pre : List Fl) (W : World) : Prop :=
  c = .ret ∧ ∃ (pre' : List Fl) (f : Fl), pre = pre' ++ [f] ∧ (∀ f ∈ pre', f.why = 0) ∧ f.why ≠ 0 ∧
    W.heap[w.heap.size + 1]? = some (.cells #[.int .u8 f.part, .int .i64 f.idx, .int .i64 f.why] 51 (0, 0)) ∧ W.heap[w.heap.size + 2]? = some (.cells #[.bool true] 4 (0, 0)) ∧ Below w.heap.size w W
theorem fiI_own {w : World} {B : Nat} (hB : w.heap.size + 2 < B) : OwnFrom B (FiI w) := fun pre W W' row hs hg hr =>
  ⟨hs.1, ownFrom_box (β := Unit) (by omega) () W W' row hs.2.1 hg hr, ownFrom_box (β := Unit) (by omega) () W W' row hs.2.2.1 hg hr, ownFrom_below (β := Unit) (by omega) (Nat.le_refl _) () W W' row hs.2.2.2.1 hg hr, Nat.le_trans hs.2.2.2.2 hg.size⟩
theorem fiX_own {w : World} {B : Nat} (hB : w.heap.size + 2 < B) (c : Code) : OwnFrom B (FiX w c) := fun pre W W' row hs hg hr => by
  obtain ⟨h1, p, f, h2, h3, h4, h5, h6, h7⟩ := hs
  exact ⟨h1, p, f, h2, h3, h4, ownFrom_box (β := Unit) (by omega) () W W' row h5 hg hr, ownFrom_box (β := Unit) (by omega) () W W' row h6 hg hr, ownFrom_below (β := Unit) (by omega) (Nat.le_refl _) () W W' row h7 hg hr⟩

theorem first_out {w W : World} {D' : Nat} {looks : List Fl} {f : Fl} {b : Bool} {a0 a1 a4 a5 a6 a7 a8 a9 a10 a11 a12 : Value} (hK : W.heap[D']? = some (.deferred (some [])))
    (h1 : W.heap[w.heap.size + 1]? = some (.cells #[.int .u8 f.part, .int .i64 f.idx, .int .i64 f.why] 51 (0, 0))) (h2 : W.heap[w.heap.size + 2]? = some (.cells #[.bool b] 4 (0, 0)))
    (hD : w.heap.size + 4 ≤ D') (hB : Below w.heap.size w W) (hf : firstOf looks = (f, b)) :
    bodyPostM Fence.wide 9 Try.prog Try.f11 (fun e w' => e = .returned (.tuple #[flv (firstOf looks).1, .bool (firstOf looks).2]) ∧ Below w.heap.size w w') .ret
      { tmps := #[a0, a1, .pointer (some ⟨w.heap.size + 1, 0, none⟩), .pointer (some ⟨w.heap.size + 1 + 1, 0, none⟩), a4, a5, a6, a7, a8, a9, a10, a11, a12], defers := [{ target := .collected D', args := #[] }] } W := by
  obtain ⟨p1, _⟩ := box_rules ((World.putObj_heap_other (o := .deferred none) (by omega : w.heap.size + 1 ≠ D')).trans h1)
  obtain ⟨p2, _⟩ := box_rules ((World.putObj_heap_other (o := .deferred none) (by omega : w.heap.size + 2 ≠ D')).trans h2)
  refine post_mark (v := .tuple #[.agg #[.int .u8 f.part, .int .i64 f.idx, .int .i64 f.why], .bool b]) hK (by simp [results, Try.f11, go_sem, p1, p2]) ?_
  rw [hf]
  exact ⟨rfl, hB.trans ((Below.refl _ W).grown (grownBy_putObj' W D' _) hB.size (fun k e => by cases e; omega))⟩
set_option maxHeartbeats 4000000 in
set_option maxRecDepth 100000 in
/-- vet.First -/
theorem first_any (mn mx sw : Int) (ts : List Tk) (ls : List Ln) (hs : List Th) (A : Option Addr) (ca : Nat) (B : Option Addr) (cb : Nat) (D : Option Addr) (cd : Nat) (w : World)
    (hlt : ts.length ≤ 1048576) (hll : ls.length ≤ 1048576) (hlh : hs.length ≤ 1048576)
    (ht : Rd w A (ts.flatMap tkc)) (hl : Rd w B (ls.flatMap lnc)) (hh : Rd w D (hs.flatMap thc)) (hmx : I64 mx) (ht64 : ∀ p ∈ ts.map (·.prio) ++ hs.map (·.prio), I64 p) :
    Calls Try.prog 11 #[cfv mn mx sw A ts.length ca B ls.length cb D hs.length cd] w fun e w' =>
      e = .returned (.tuple #[flv (firstOf (Cf.looks ⟨mn, mx, sw, ts, ls, hs⟩)).1, .bool (firstOf (Cf.looks ⟨mn, mx, sw, ts, ls, hs⟩)).2]) ∧ Below w.heap.size w w' := by
  have fL := Lib.hid (fun w => looks_any mn mx sw A ts.length ca B ls.length cb D hs.length cd w)
  have IT := Lib.hid (fun Bc nB W h0 hnB hBc hc => looks_iter mn mx sw ts ls hs A ca B cb D cd Bc nB w W hlt hll hlh h0 hnB hBc hc ht hl hh hmx ht64)
  clear ht hl hh hmx ht64
  unfold cfv at *
  generalize Cf.looks ⟨mn, mx, sw, ts, ls, hs⟩ = looks at *
  refine calls_marks Try.func11 rfl ?_
  simp only [Try.ntmps11, List.size_toArray, List.length_cons, List.length_nil, Nat.reduceAdd, Nat.reduceSub, Array.replicate_succ, Array.replicate_zero, List.push_toArray, List.append_toArray, List.nil_append, List.cons_append]
  go_wp2_with (go_at_call 21; refine (fL.out _).mono ?_; rintro e w' ⟨rfl, rfl⟩)
  refine name_world fun W6 hW6 => ?_
  have hz6 : W6.heap.size = w.heap.size + 4 := by rw [hW6]; simp
  have hB6 : Below w.heap.size w W6 := by rw [hW6]; exact ((((Below.refl _ _).alloc (Nat.le_refl _) _).alloc (by simp) _).alloc (by simp; omega) _).alloc (by simp; omega) _
  have x1 : W6.heap[w.heap.size + 1]? = some (.cells #[.int .u8 0, .int .i64 0, .int .i64 0] 51 (0, 0)) := by rw [hW6]; exact box_alloc (box_alloc (heap_new_at _ (by simp)) _) _
  have x2 : W6.heap[w.heap.size + 2]? = some (.cells #[.bool false] 4 (0, 0)) := by rw [hW6]; exact box_alloc (heap_new_at _ (by simp)) _
  have x3 : W6.heap[w.heap.size + 3]? = some (.cells #[.int .i64 mn, .int .i64 mx, .int .i64 sw, .slice A ts.length ca, .slice B ls.length cb, .slice D hs.length cd] 28 (0, 0)) := by rw [hW6]; exact heap_new_at _ (by simp)
  have hit := IT.out (w.heap.size + 3) (w.heap.size + 3) W6 hB6 (by omega) (Nat.le_refl _) x3
  have hI0 : FiI w [] W6 := ⟨fun _ h => (by cases h), x1, x2, hB6, by omega⟩
  clear hW6 x1 x2 x3 IT
  refine (wpIn_wide (n := 9)).1 (wpIn_rangeFunc_ownH (F := Fence.wide) (n := 9) rfl (by omega) rfl trivial (enters_of Try.func30 (by kernel_rfl) rfl) hit (fun h k => h.trans k) (KeepsOwn.put (by omega)) (Below.refl _ _) (fun _ => rfl)
    (FiI w) (FiX w) (fiI_own (by omega)) (fiX_own (by omega)) hI0
    (fun x a' W => ∃ q, a' = { tmps := #[.agg #[.int .i64 mn, .int .i64 mx, .int .i64 sw, .slice A ts.length ca, .slice B ls.length cb, .slice D hs.length cd], .pointer (some ⟨w.heap.size, 0, none⟩), .pointer (some ⟨w.heap.size + 1, 0, none⟩), .pointer (some ⟨w.heap.size + 1 + 1, 0, none⟩), .pointer (some ⟨q, 0, none⟩),
        .agg #[.int .i64 mn, .int .i64 mx, .int .i64 sw, .slice A ts.length ca, .slice B ls.length cb, .slice D hs.length cd], .func (.func 30) #[] #[.pointer (some ⟨w.heap.size + 1 + 1 + 1, 0, none⟩)], flv x, undef, undef, undef, undef, undef], defers := [] } ∧
      W.heap[q]? = some (.cells #[.int .u8 x.part, .int .i64 x.idx, .int .i64 x.why] 51 (0, 0)) ∧ w.heap.size + 4 ≤ q)
    (fun x a' s W W' row hs hg hr => by
      obtain ⟨q, h1, h2, h3⟩ := hs
      refine ⟨q, h1, box_grown hg h2 (fun e => ?_), h3⟩
      obtain ⟨_, o, ho, hc⟩ := hr q e
      rw [h2] at ho
      cases ho
      cases hc)
    ?assign ?body ?done ?stop)
  case assign =>
    rintro l pre ⟨p, i, y⟩ W K hI hK
    have hs := hI.2.2.2.1.size
    dsimp only [flv]
    gi_wp2
    refine hK _ _ ((ko_alloc (KeepsOthers.refl W) _).from _) ((KeepsOwn.refl W).alloc hs _) ?_ ⟨W.heap.size, rfl, heap_alloc_new W _, hI.2.2.2.2⟩
    exact ⟨hI.1, box_alloc hI.2.1 _, box_alloc hI.2.2.1 _, hI.2.2.2.1.alloc hs _, Nat.le_trans hI.2.2.2.2 (by simp)⟩
  case body =>
    rintro l pre ⟨p, i, y⟩ a' W hl _ hI ⟨q, rfl, hq, hq4⟩ hlen
    dsimp only [flv] at hq ⊢
    obtain ⟨gx, gy⟩ := box_rules hq
    obtain ⟨kx, ky⟩ := box_rules hI.2.1
    obtain ⟨mx', my'⟩ := box_rules hI.2.2.1
    have HI := Lib.hid hI; clear hI
    have HQ := Lib.hid hq; clear hq
    have bR : w.heap.size ≤ w.heap.size + 1 := by omega
    have bR2 : w.heap.size ≤ w.heap.size + 2 := by omega
    by_cases hy : y = 0
    · subst hy
      gi_wp2
      refine ⟨(KeepsOthers.refl W).from _, KeepsOwn.refl W, ?_, HI.out.2⟩
      intro f hf
      rcases List.mem_append.1 hf with h | h
      · exact HI.out.1 f h
      · simp at h; subst h; rfl
    · have hy' : (y != 0) = true := by simpa using hy
      gi_wp2
      refine ⟨?_, rfl, pre, ⟨p, i, y⟩, rfl, HI.out.1, hy, ?_, ?_, ?_⟩
      · exact (ko_set (ko_set (ko_set (ko_set (KeepsOthers.refl W) _ _) _ _) _ _) _ _).from _
      · refine box_far ?_ (p := ⟨w.heap.size + 1 + 1, 0, none⟩) (by show _ ≠ w.heap.size + 1 + 1; omega) _
        exact box_set (box_set (box_set HI.out.2.1 _) _) _
      · refine box_set (t := 4) (cs := #[.bool false]) (i := 0) ?_ _
        exact box_far (box_far (box_far HI.out.2.2.1 (p := ⟨w.heap.size + 1, 0, none⟩) (by show _ ≠ w.heap.size + 1; omega) _) (p := ⟨w.heap.size + 1, 1, none⟩) (by show _ ≠ w.heap.size + 1; omega) _) (p := ⟨w.heap.size + 1, 2, none⟩) (by show _ ≠ w.heap.size + 1; omega) _
      · exact (((HI.out.2.2.2.1.setCell (p := ⟨w.heap.size + 1, 0, none⟩) bR _).setCell (p := ⟨w.heap.size + 1, 1, none⟩) bR _).setCell (p := ⟨w.heap.size + 1, 2, none⟩) bR _).setCell (p := ⟨w.heap.size + 1 + 1, 0, none⟩) bR2 _
  case done =>
    intro D' xs W hD hS hI hK
    have HR : Hid (firstOf looks = (⟨0, 0, 0⟩, false)) := Lib.hid (by
      have h := firstOf_skip (hS ▸ hI.1) []
      rw [List.append_nil] at h
      exact h)
    obtain ⟨kx, ky⟩ := box_rules hI.2.1
    obtain ⟨mx', my'⟩ := box_rules hI.2.2.1
    have HI := Lib.hid hI; clear hI
    dsimp only
    go_wp2
    refine first_out (f := ⟨0, 0, 0⟩) (b := false) (D' := D') ?_ ?_ ?_ (by omega) ?_ HR.out
    · exact box_far (box_far (box_far (box_far hK (p := ⟨w.heap.size + 1, 0, none⟩) (by show _ ≠ w.heap.size + 1; omega) _) (p := ⟨w.heap.size + 1, 1, none⟩) (by show _ ≠ w.heap.size + 1; omega) _) (p := ⟨w.heap.size + 1, 2, none⟩) (by show _ ≠ w.heap.size + 1; omega) _) (p := ⟨w.heap.size + 1 + 1, 0, none⟩) (by show _ ≠ w.heap.size + 1 + 1; omega) _
    · refine box_far ?_ (p := ⟨w.heap.size + 1 + 1, 0, none⟩) (by show _ ≠ w.heap.size + 1 + 1; omega) _
      exact box_set (box_set (box_set HI.out.2.1 _) _) _
    · refine box_set (t := 4) (cs := #[.bool false]) (i := 0) ?_ _
      exact box_far (box_far (box_far HI.out.2.2.1 (p := ⟨w.heap.size + 1, 0, none⟩) (by show _ ≠ w.heap.size + 1; omega) _) (p := ⟨w.heap.size + 1, 1, none⟩) (by show _ ≠ w.heap.size + 1; omega) _) (p := ⟨w.heap.size + 1, 2, none⟩) (by show _ ≠ w.heap.size + 1; omega) _
    · have bR : w.heap.size ≤ w.heap.size + 1 := by omega
      have bR2 : w.heap.size ≤ w.heap.size + 1 + 1 := by omega
      exact (((HI.out.2.2.2.1.setCell (p := ⟨w.heap.size + 1, 0, none⟩) bR _).setCell (p := ⟨w.heap.size + 1, 1, none⟩) bR _).setCell (p := ⟨w.heap.size + 1, 2, none⟩) bR _).setCell (p := ⟨w.heap.size + 1 + 1, 0, none⟩) bR2 _
  case stop =>
    rintro D' c pre W hD hS ⟨rfl, pre', f, rfl, h1, h2, h3, h4, h5⟩ hK
    dsimp only
    refine (wpIn_wide (n := 9)).2 ?_
    go_wp2
    refine first_out (f := f) (b := true) (D' := D') hK h3 h4 (by omega) h5 ?_
    obtain ⟨t, ht⟩ := hS
    rw [← ht, List.append_assoc, firstOf_skip h1, List.singleton_append, firstOf_hit h2]

/-- vet.Check -/
theorem check_cfg (mn mx sw : Int) (ts : List Tk) (ls : List Ln) (hs : List Th) (A : Option Addr) (ca : Nat) (B : Option Addr) (cb : Nat) (D : Option Addr) (cd : Nat) (w : World)
    (hlt : ts.length ≤ 1048576) (hll : ls.length ≤ 1048576) (hlh : hs.length ≤ 1048576)
    (ht : Rd w A (ts.flatMap tkc)) (hl : Rd w B (ls.flatMap lnc)) (hh : Rd w D (hs.flatMap thc)) (hmx : I64 mx) (ht64 : ∀ p ∈ ts.map (·.prio) ++ hs.map (·.prio), I64 p) :
    Calls Try.prog 5 #[cfv mn mx sw A ts.length ca B ls.length cb D hs.length cd] w fun e w' => e = .returned (.int .i64 (Cf.why ⟨mn, mx, sw, ts, ls, hs⟩)) ∧ Below w.heap.size w w' := by
  have f1 := Lib.hid (fun w ht hl hh => first_any mn mx sw ts ls hs A ca B cb D cd w hlt hll hlh ht hl hh hmx ht64)
  have HW : Hid (Cf.why ⟨mn, mx, sw, ts, ls, hs⟩ = (firstOf (Cf.looks ⟨mn, mx, sw, ts, ls, hs⟩)).1.why) := Lib.hid rfl
  have Ht := Lib.hid ht; have Hl := Lib.hid hl; have Hh := Lib.hid hh
  clear ht hl hh hmx ht64
  generalize firstOf (Cf.looks ⟨mn, mx, sw, ts, ls, hs⟩) = fb at *
  rw [HW.out]
  obtain ⟨⟨p, i, y⟩, b⟩ := fb
  unfold cfv flv at *
  dsimp only at f1 ⊢
  go_enter Try.func5, Try.ntmps5
  go_wp2_with fail
  refine (f1.out _ (Ht.out.alloc _) (Hl.out.alloc _) (Hh.out.alloc _)).mono ?_
  rintro e w2 ⟨rfl, hb⟩
  have HB := Lib.hid (((Below.refl w.heap.size w).alloc (Nat.le_refl _) _).trans (hb.mono (by simp)))
  have s2 := HB.out.size
  clear hb
  go_wp2
  go_ret
  exact ⟨rfl, HB.out.alloc s2 _⟩
end Go.Proofs.Ytgampofpabllbaa

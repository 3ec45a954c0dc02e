/- Package vet: the walk of All. Conditions: lists that read. -/
import Derived.Test.YtgampofpabllbaaVeC
namespace Go.Proofs.Ytgampofpabllbaa
open Go.RowKit Go.Shelf
attribute [local go_sem] Oper.semAt_some

def fltA (l : List Fl) : List Fl := l.filter fun f => decide (f.why ≠ 0)
theorem fltA_zero (pre : List Fl) (p : Int) (i : Nat) : fltA (pre ++ [⟨p, i, 0⟩]) = fltA pre := by unfold fltA; simp
theorem fltA_more (pre : List Fl) (p : Int) (i : Nat) {y : Int} (h : y ≠ 0) : fltA (pre ++ [⟨p, i, y⟩]) = fltA pre ++ [⟨p, i, y⟩] := by unfold fltA; simp [h]
theorem fltA_len (l : List Fl) : (fltA l).length ≤ l.length := List.length_filter_le _ _
theorem skF : SlK Try.prog 54 51 3 24 := SlK.mk' (z := .agg #[.int .u8 0, .int .i64 0, .int .i64 0]) Try.underlying54 (by kernel_rfl) rfl (by decide)
/-- What the loop over all faults holds. -/
structure FaI (w : World) (pre : List Fl) (W : World) : Prop where
  row : ∃ A c, W.heap[w.heap.size + 1]? = some (.cells #[.slice A (fltA pre).length c] 54 (0, 0)) ∧ W.ownsRow (w.heap.size + 2) 51 3 (.slice A (fltA pre).length c) (fltA pre).length ((fltA pre).flatMap flc)
  low : Below w.heap.size w W
  size : w.heap.size + 3 ≤ W.heap.size
theorem faI_own {w : World} {B : Nat} (hB : w.heap.size + 2 ≤ B) : OwnFrom B (FaI w) := fun pre W W' row h hg hr => by
  obtain ⟨A, c, h1, h2⟩ := h.row
  exact ⟨⟨A, c, ownFrom_box (β := Unit) (by omega) () W W' row h1 hg hr, ownFrom_row (β := Unit) (fun _ => _) (fun _ => _) (fun _ => _) () W W' row h2 hg hr⟩, ownFrom_below (β := Unit) (by omega) (Nat.le_refl _) () W W' row h.low hg hr, Nat.le_trans h.size hg.size⟩
def FaX (_w : World) (_c : Code) (_pre : List Fl) (_W : World) : Prop := False
/-- What All hands back. -/
def RetA (l : List Fl) (w : World) (e : Ending) (w' : World) : Prop := ∃ A c, e = .returned (.slice A l.length c) ∧ Rd w' A (l.flatMap flc) ∧ Below w.heap.size w w'
set_option maxHeartbeats 4000000 in
set_option maxRecDepth 100000 in
theorem vall_any (mn mx sw : Int) (ts : List Tk) (ls : List Ln) (hs : List Th) (A : Option Addr) (ca : Nat) (B : Option Addr) (cb : Nat) (D : Option Addr) (cd : Nat) (w : World)
    (hlt : ts.length ≤ 1048576) (hll : ls.length ≤ 1048576) (hlh : hs.length ≤ 1048576)
    (ht : Rd w A (ts.flatMap tkc)) (hl : Rd w B (ls.flatMap lnc)) (hh : Rd w D (hs.flatMap thc)) (hmx : I64 mx) (ht64 : ∀ p ∈ ts.map (·.prio) ++ hs.map (·.prio), I64 p) :
    Calls Try.prog 12 #[cfv mn mx sw A ts.length ca B ls.length cb D hs.length cd] w (RetA (fltA (Cf.looks ⟨mn, mx, sw, ts, ls, hs⟩)) w) := by
  have fL := Lib.hid (fun w => looks_any mn mx sw A ts.length ca B ls.length cb D hs.length cd w)
  have IT := Lib.hid (fun Bc b2 nB W h0 hnB hBc hb2 hrb hc => looks_iterF mn mx sw ts ls hs A ca B cb D cd Bc b2 nB w W hlt hll hlh h0 hnB hBc hb2 hrb hc ht hl hh hmx ht64)
  clear ht hl hh hmx ht64
  unfold cfv at *
  generalize Cf.looks ⟨mn, mx, sw, ts, ls, hs⟩ = looks at *
  refine calls_marks Try.func12 rfl ?_
  simp only [Try.ntmps12, List.size_toArray, List.length_cons, List.length_nil, Nat.reduceAdd, Nat.reduceSub, Array.replicate_succ, Array.replicate_zero, List.push_toArray, List.append_toArray, List.nil_append, List.cons_append]
  go_wp2_with (go_at_call 21; refine (fL.out _).mono ?_; rintro e w' ⟨rfl, rfl⟩)
  refine name_world fun W6 hW6 => ?_
  have hz6 : W6.heap.size = w.heap.size + 3 := by rw [hW6]; simp
  have hB6 : Below w.heap.size w W6 := by rw [hW6]; exact (((Below.refl _ _).alloc (Nat.le_refl _) _).alloc (by simp) _).alloc (by simp; omega) _
  have x1 : W6.heap[w.heap.size + 1]? = some (.cells #[.slice none 0 0] 54 (0, 0)) := by rw [hW6]; exact box_alloc (heap_new_at _ (by simp)) _
  have x3 : W6.heap[w.heap.size + 2]? = some (.cells #[.int .i64 mn, .int .i64 mx, .int .i64 sw, .slice A ts.length ca, .slice B ls.length cb, .slice D hs.length cd] 28 (0, 0)) := by rw [hW6]; exact heap_new_at _ (by simp)
  have hit := IT.out (w.heap.size + 2) (w.heap.size + 1) (w.heap.size + 2) W6 hB6 (by omega) (Nat.le_refl _) (by omega) (rbA_box x1) x3
  have hI0 : FaI w [] W6 := ⟨⟨none, 0, x1, own_nilK _ _ _ _⟩, hB6, by omega⟩
  clear hW6 x1 x3 IT
  refine (wpIn_wide (n := 9)).1 (wpIn_rangeFunc_ownH (F := Fence.wide) (n := 9) rfl (by omega) rfl trivial (enters_of Try.func30 (by kernel_rfl) rfl) hit (fun h k => h.trans k) (KeepsFt.put (by omega) (by omega)) (Below.refl _ _) (fun _ => rfl)
    (FaI w) (FaX w) (faI_own (by omega)) (fun _ _ _ _ _ h _ _ => h.elim) hI0
    (fun x a' W => ∃ q, a' = { tmps := #[.agg #[.int .i64 mn, .int .i64 mx, .int .i64 sw, .slice A ts.length ca, .slice B ls.length cb, .slice D hs.length cd], .pointer (some ⟨w.heap.size, 0, none⟩), .slice none 0 0, .pointer (some ⟨w.heap.size + 1, 0, none⟩), .pointer (some ⟨q, 0, none⟩),
        .agg #[.int .i64 mn, .int .i64 mx, .int .i64 sw, .slice A ts.length ca, .slice B ls.length cb, .slice D hs.length cd], .func (.func 30) #[] #[.pointer (some ⟨w.heap.size + 1 + 1, 0, none⟩)], flv x, undef, undef, undef, undef, undef, undef, undef, undef], defers := [] } ∧
      W.heap[q]? = some (.cells #[.int .u8 x.part, .int .i64 x.idx, .int .i64 x.why] 51 (0, 0)) ∧ w.heap.size + 3 ≤ q)
    (fun x a' s W W' row hs hg hr => by
      obtain ⟨q, h1, h2, h3⟩ := hs
      refine ⟨q, h1, box_grown hg h2 (fun e => ?_), h3⟩
      obtain ⟨_, o, ho, hc⟩ := hr q e
      rw [h2] at ho
      cases ho
      cases hc)
    ?assign ?body ?done ?stop)
  case assign =>
    rintro l pre ⟨p, i, y⟩ W K hI hK
    have HI := Lib.hid hI
    clear hI hit hI0
    dsimp only [flv]
    gi_wp2
    have hsz := HI.out.size
    have hal : Below W.heap.size W (W.alloc (.cells #[.int .u8 p, .int .i64 i, .int .i64 y] 51)) := (Below.refl _ _).alloc (Nat.le_refl _) _
    refine hK _ _ ((ko_alloc (KeepsOthers.refl W) _).from _) ((KeepsFt.refl W).alloc (by omega) (by omega) _) ?_ ⟨W.heap.size, rfl, heap_alloc_new W _, hsz⟩
    obtain ⟨A1, c1, h1, h2⟩ := HI.out.row
    exact ⟨⟨A1, c1, box_keep h1 hal, own_allocK h2 _⟩, HI.out.low.alloc HI.out.low.size _, Nat.le_trans HI.out.size hal.size⟩
  case body =>
    rintro l pre ⟨p, i, y⟩ a' W hl _ hI ⟨q, rfl, hq, hq4⟩ hlen
    dsimp only [flv] at hq ⊢
    obtain ⟨A1, c1, hbox, hrow⟩ := hI.row
    have hfl : (fltA pre).length ≤ 1048576 * 6 := by have := fltA_len pre; omega
    have HI := Lib.hid hI; have HBx := Lib.hid hbox; have HRow := Lib.hid hrow
    obtain ⟨gx, gy⟩ := box_rules hq
    obtain ⟨kx, ky⟩ := box_rules hbox
    have HQ := Lib.hid hq
    clear hI hbox hrow hq hit hI0 hB6
    by_cases hy : y = 0
    · subst hy
      have HZ := Lib.hid (fltA_zero pre p i)
      gi_wp2
      refine ⟨(KeepsOthers.refl W).from _, KeepsFt.refl W, ⟨⟨A1, c1, ?_, ?_⟩, HI.out.low, HI.out.size⟩⟩
      · rw [HZ.out]; exact HBx.out
      · rw [HZ.out]; exact HRow.out
    · have hy' : (y != 0) = true := by simpa using hy
      have HZ := Lib.hid (fltA_more pre p i hy)
      clear hy
      gi_wp2_with (gi_at_builtin; go_loud (refine wpI_appKat rfl _ _ skF (by decide) rfl (own_allocK HRow.out _) rfl (by omega) (by have := HI.out.size; simp; omega) W.heap.size [.int .u8 p, .int .i64 i, .int .i64 y] rfl rfl ?_ rfl ?_); (intro j u hu; exact new_cell (w := W) hu); intro A4 c4 w4 ho4 hg4 hat4; have G4 := Lib.hid (grown_step HRow.out hg4); have HO4 := Lib.hid ho4; have HG4 := Lib.hid hg4; have HAt4 := Lib.hid hat4; have HBx4 := Lib.hid (G4.out.low HBx.out (by omega)); obtain ⟨sx4, sy4⟩ := box_rules HBx4.out; clear ho4 hg4 hat4 kx ky)
      have hsz := HI.out.size
      refine ⟨?_, ?_, ⟨⟨A4, c4, ?_, ?_⟩, ?_, ?_⟩⟩
      · exact (ko_set (ko_step HRow.out HG4.out) _ _).from _
      · refine KeepsFt.app (by omega) (by omega) (by omega) HBx.out (fun g hg => ?_) HG4.out HAt4.out (fun g hg => (own_blockK HO4.out hg).2.1)
        obtain ⟨h1, _, cur, hcur⟩ := own_blockK HRow.out hg
        exact ⟨by omega, by omega, cur, hcur⟩
      · rw [HZ.out, List.length_append]
        exact box_set (t := 54) (cs := #[.slice A1 (fltA pre).length c1]) (i := 0) HBx4.out _
      · rw [HZ.out, List.length_append, List.flatMap_append]
        exact own_setK HO4.out (own_low HO4.out (by show w.heap.size + 1 < _; omega)) _
      · exact (G4.out.below HI.out.low (by omega) (by omega)).setCell (p := ⟨w.heap.size + 1, 0, none⟩) (by show _ ≤ w.heap.size + 1; omega) _
      · have := G4.out.size
        simp only [World.setCell, Array.size_modify]
        omega
  case done =>
    intro D' xs W hD hS hI hK
    obtain rfl : xs = looks := hS
    obtain ⟨A1, c1, hbox, hrow⟩ := hI.row
    have HI := Lib.hid hI; have HRow := Lib.hid hrow; have HK := Lib.hid hK
    obtain ⟨kx, ky⟩ := box_rules hbox
    clear hI hbox hrow hit hI0 hB6 hK
    dsimp only
    go_wp2
    refine post_mark (v := .slice A1 (fltA xs).length c1) HK.out (by simp [results, Try.f12, go_sem]) ?_
    refine ⟨A1, c1, rfl, ?_, HI.out.low.trans ((Below.refl _ _).grown (grownBy_putObj' _ D' _) HI.out.low.size (fun k e => by cases e; omega))⟩
    exact own_rdK (own_keptK HRow.out fun g hg => by
      obtain ⟨_, _, cur, hcur⟩ := own_blockK HRow.out hg
      exact World.putObj_heap_other (fun e => by rw [e, HK.out] at hcur; cases hcur))
  case stop =>
    intro D' c' pre W hD hS hX hK
    exact hX.elim
end Go.Proofs.Ytgampofpabllbaa

/- Package conform: the walk of Marks. Conditions: lists that read. -/
import Derived.Test.YtpdanmdpaanafaaConP
namespace Go.Proofs.Ytpdanmdpaanafaa
open Go.RowKit Go.Shelf
attribute [local go_sem] Oper.semAt_some

/-- What the loop over all arrivals holds; s: the heap's size at entry, d: behind the check. -/
structure MsI (w : World) (d : Nat) {ts : List Tk} (cs : Array Value) (pre : List (Arr ts)) (W : World) : Prop where
  ok : okA pre
  map : MapI W (d + 1 + 1) pre.length (fOf pre)
  r1 : W.heap[w.heap.size + 1]? = some (.cells #[.int .i64 0] 3 (0, 0))
  r2 : W.heap[w.heap.size + 1 + 1]? = some (.cells #[.int .i64 0] 30 (0, 0))
  deal : W.heap[d]? = some (.cells cs 124 (0, 0))
  dp : W.heap[d + 1]? = some (.cells #[.pointer (some ⟨d, 0, none⟩)] 122 (0, 0))
  mp : W.heap[d + 1 + 1 + 1]? = some (.cells #[.map (some (d + 1 + 1))] 127 (0, 0))
  low : Below w.heap.size w W
  size : d + 6 ≤ W.heap.size
def MsX (w : World) {ts : List Tk} (c : Code) (pre : List (Arr ts)) (W : World) : Prop :=
  c = .ret ∧ ∃ (pre' : List (Arr ts)) (x : Arr ts), pre = pre' ++ [x] ∧ okA pre' ∧ arOk pre' x = false ∧
    W.heap[w.heap.size + 1]? = some (.cells #[.int .i64 x.1.1] 3 (0, 0)) ∧ W.heap[w.heap.size + 1 + 1]? = some (.cells #[.int .i64 0] 30 (0, 0)) ∧ Below w.heap.size w W
theorem msI_own {w : World} {d B : Nat} {ts : List Tk} {cs : Array Value} (hB : d + 3 < B) (hs : w.heap.size + 3 ≤ d) : OwnFrom B (MsI (ts := ts) w d cs) := fun pre W W' row h hg hr =>
  ⟨h.ok, h.map.kept hg (fun e => by have := (hr _ e.symm).1; omega), ownFrom_box (β := Unit) (by omega) () W W' row h.r1 hg hr, ownFrom_box (β := Unit) (by omega) () W W' row h.r2 hg hr, ownFrom_box (β := Unit) (by omega) () W W' row h.deal hg hr,
    ownFrom_box (β := Unit) (by omega) () W W' row h.dp hg hr, ownFrom_box (β := Unit) (by omega) () W W' row h.mp hg hr, ownFrom_below (β := Unit) (by omega) (Nat.le_refl _) () W W' row h.low hg hr, Nat.le_trans h.size hg.size⟩
theorem msX_own {w : World} {B : Nat} {ts : List Tk} (hB : w.heap.size + 3 ≤ B) (c : Code) : OwnFrom B (MsX (ts := ts) w c) := fun pre W W' row hs hg hr => by
  obtain ⟨h1, p, x, h2, h3, h4, h5, h6, h7⟩ := hs
  exact ⟨h1, p, x, h2, h3, h4, ownFrom_box (β := Unit) (by omega) () W W' row h5 hg hr, ownFrom_box (β := Unit) (by omega) () W W' row h6 hg hr, ownFrom_below (β := Unit) (by omega) (Nat.le_refl _) () W W' row h7 hg hr⟩

theorem comes_in {ts : List Tk} {x : Mk} (h : comes ts x = true) : inR x.who ts.length = true := by
  unfold comes at h
  simp only [Bool.and_eq_true] at h
  exact h.2.1
theorem letsOut_own {α : Type} {B : Nat} {Kp : World → World → Prop} {I : List α → World → Prop} {Ix : Code → List α → World → Prop} {xs : List α} {W : World} : ¬ LetsOut (ownPostG B Kp I Ix xs W) := fun ⟨_, _, hq⟩ => hq
theorem msI_put {w W W9 : World} {d nq : Nat} {ts : List Tk} {cs : Array Value} {pre : List (Arr ts)} {x : Arr ts} (h : MsI w d cs pre W) (hs : w.heap.size + 3 ≤ d) (hok : arOk pre x = true)
    (hm : MapI W9 (d + 1 + 1) (pre.length + 1) (fun q => if q = x.1.2.who then some x.1.2.time else fOf pre q)) (hg : (W.drewN nq).grownBy W9 (some (d + 1 + 1))) : MsI w d cs (pre ++ [x]) W9 :=
  ⟨okA_snoc h.ok hok, by rw [fOf_snoc, List.length_append]; exact hm, box_grown hg h.r1 (by simp; omega), box_grown hg h.r2 (by simp; omega), box_grown hg h.deal (by simp; omega), box_grown hg h.dp (by simp), box_grown hg h.mp (by simp),
    (bdrewN h.low nq).grown hg (by have := h.size; show _ ≤ W.heap.size; omega) (fun k e => by cases e; omega), Nat.le_trans h.size hg.size⟩

set_option maxHeartbeats 4000000 in
set_option maxRecDepth 100000 in
theorem marks_cfg (mn mx sw : Int) (ts : List Tk) (ls : List Ln) (hs : List Th) (A : Option Addr) (ca : Nat) (B : Option Addr) (cb : Nat) (D : Option Addr) (cd : Nat) (ms : List Mk) (T : Option Addr) (tc : Nat) (w : World)
    (hlt0 : ts.length ≤ 1048576) (hll : ls.length ≤ 1048576) (hlh : hs.length ≤ 1048576) (hlm : ms.length ≤ 1048576)
    (ht : Rd w A (ts.flatMap tkc)) (hl : Rd w B (ls.flatMap lnc)) (hh : Rd w D (hs.flatMap thc)) (hmx : I64 mx) (ht64 : ∀ p ∈ ts.map (·.prio) ++ hs.map (·.prio), I64 p) (hr : Rd w T (ms.flatMap mkc))
    (h64 : ∀ k, k < ms.length → I64 (ms.getD k mk0).time ∧ I64 (ms.getD k mk0).who) :
    Calls Try.prog 18 #[cfv mn mx sw A ts.length ca B ls.length cb D hs.length cd, .slice T ms.length tc] w
      (RetC (Cf.why ⟨mn, mx, sw, ts, ls, hs⟩) (marksN ts ms) w) := by
  have Ht := Lib.hid ht; have Hl := Lib.hid hl; have Hh := Lib.hid hh; have Hr := Lib.hid hr; have H64 := Lib.hid h64
  have f1 := Lib.hid (fun w ht hl hh => check_cfg mn mx sw ts ls hs A ca B cb D cd w hlt0 hll hlh ht hl hh hmx ht64)
  have f2 := Lib.hid (fun b w => arrivals_any b T ms.length tc w)
  have IT := Lib.hid (fun b d m out w0 w h0 hb hd hc hdp hmp ht hr => arr_iter mn mx sw ts A ca B ls.length cb D hs.length cd ms T tc b d m out w0 w hlm h0 hb hd hc hdp hmp ht hr h64)
  clear ht hl hh hmx ht64 hr h64
  unfold cfv cfc at *
  generalize Cf.why ⟨mn, mx, sw, ts, ls, hs⟩ = y at *
  refine calls_marks Try.func18 rfl ?_
  simp only [Try.ntmps18, List.size_toArray, List.length_cons, List.length_nil, Nat.reduceAdd, Nat.reduceSub, Array.replicate_succ, Array.replicate_zero, List.push_toArray, List.append_toArray, List.nil_append, List.cons_append]
  go_wp2_with fail
  refine (f1.out _ (((Ht.out.alloc _).alloc _).alloc _) (((Hl.out.alloc _).alloc _).alloc _) (((Hh.out.alloc _).alloc _).alloc _)).mono ?_
  rintro e w2 ⟨rfl, hb⟩
  have HX := Lib.hid (box_keep (box_alloc (box_alloc (heap_alloc_new w (.cells #[.int .i64 mn, .int .i64 mx, .int .i64 sw, .slice A ts.length ca, .slice B ls.length cb, .slice D hs.length cd] 28)) _) _) hb)
  have HR1 : Hid (w2.heap[w.heap.size + 1]? = some (.cells #[.int .i64 0] 3 (0, 0))) := Lib.hid (box_keep (box_alloc (heap_new_at _ (by simp)) _) hb)
  have HR2 : Hid (w2.heap[w.heap.size + 1 + 1]? = some (.cells #[.int .i64 0] 30 (0, 0))) := Lib.hid (box_keep (heap_new_at _ (by simp)) hb)
  have HB := Lib.hid ((((((Below.refl w.heap.size w).alloc (Nat.le_refl _) _).alloc (by simp) _).alloc (by simp; omega) _)).trans (hb.mono (by simp; omega)))
  have s2 : w.heap.size + 3 ≤ w2.heap.size := by have := hb.size; simp at this; omega
  clear hb f1
  obtain ⟨hx, hy⟩ := box_rules HX.out
  by_cases hy0 : y = 0
  · subst hy0
    have hmm := @run_makeMap Try.prog
    go_wp2_with (go_at_call 47; refine (f2.out _ _).mono ?_; rintro e w' ⟨rfl, rfl⟩)
    clear hmm
    refine name_world fun W6 hW6 => ?_
    have hz6 : W6.heap.size = w2.heap.size + 6 := by rw [hW6]; simp
    have hB2 : Below w2.heap.size w2 W6 := by rw [hW6]; exact ((((((Below.refl _ _).alloc (Nat.le_refl _) _).alloc (by simp) _).alloc (by simp; omega) _).alloc (by simp; omega) _).alloc (by simp; omega) _).alloc (by simp; omega) _
    have hB6 : Below w.heap.size w W6 := HB.out.trans (hB2.mono HB.out.size)
    have x0 : W6.heap[w2.heap.size]? = some (.cells #[.int .i64 mn, .int .i64 mx, .int .i64 sw, .slice A ts.length ca, .slice B ls.length cb, .slice D hs.length cd] 124 (0, 0)) := by rw [hW6]; exact box_alloc (box_alloc (box_alloc (box_alloc (box_alloc (heap_alloc_new _ _) _) _) _) _) _
    have x1 : W6.heap[w2.heap.size + 1]? = some (.cells #[.pointer (some ⟨w2.heap.size, 0, none⟩)] 122 (0, 0)) := by rw [hW6]; exact box_alloc (box_alloc (box_alloc (box_alloc (heap_new_at _ (by simp)) _) _) _) _
    have x2 : MapI W6 (w2.heap.size + 1 + 1) 0 (fun _ => none) := by
      have h := MapI.made ((w2.alloc (.cells #[.int .i64 mn, .int .i64 mx, .int .i64 sw, .slice A ts.length ca, .slice B ls.length cb, .slice D hs.length cd] 124)).alloc (.cells #[.pointer (some ⟨w2.heap.size, 0, none⟩)] 122))
      rw [show ((w2.alloc (.cells #[.int .i64 mn, .int .i64 mx, .int .i64 sw, .slice A ts.length ca, .slice B ls.length cb, .slice D hs.length cd] 124)).alloc (.cells #[.pointer (some ⟨w2.heap.size, 0, none⟩)] 122)).heap.size = w2.heap.size + 1 + 1 by simp] at h
      rw [hW6]
      exact ((h.kept (World.grownBy_alloc _ _ none) (by simp)).kept (World.grownBy_alloc _ _ none) (by simp)).kept (World.grownBy_alloc _ _ none) (by simp)
    have x3 : W6.heap[w2.heap.size + 1 + 1 + 1]? = some (.cells #[.map (some (w2.heap.size + 1 + 1))] 127 (0, 0)) := by rw [hW6]; exact box_alloc (box_alloc (heap_new_at _ (by simp)) _) _
    have x4 : W6.heap[w2.heap.size + 1 + 1 + 1 + 1]? = some (.cells #[.pointer (some ⟨w2.heap.size, 0, none⟩)] 122 (0, 0)) := by rw [hW6]; exact box_alloc (heap_new_at _ (by simp)) _
    have x5 : W6.heap[w2.heap.size + 1 + 1 + 1 + 1 + 1]? = some (.cells #[.slice T ms.length tc] 49 (0, 0)) := by rw [hW6]; exact heap_new_at _ (by simp)
    have hit := IT.out w2.heap.size (w2.heap.size + 1 + 1 + 1 + 1) (w2.heap.size + 1 + 1 + 1 + 1 + 1) [w.heap.size + 1, w.heap.size + 1 + 1, w2.heap.size + 1 + 1] w W6 hB6 (by simp; omega) (by simp; omega) x0 x4 x5 Ht.out Hr.out
    have hI0 : MsI (ts := ts) w w2.heap.size #[.int .i64 mn, .int .i64 mx, .int .i64 sw, .slice A ts.length ca, .slice B ls.length cb, .slice D hs.length cd] [] W6 :=
      ⟨okA_nil, x2, box_keep HR1.out hB2, box_keep HR2.out hB2, x0, x1, x3, hB6, by omega⟩
    clear hW6 x0 x1 x2 x3 x4 x5 IT hB2
    refine (wpIn_wide (n := 9)).1 (wpIn_rangeFunc_ownH (F := Fence.wide) (n := 9) rfl (by omega) rfl trivial (enters_of Try.func73 (by kernel_rfl) rfl) hit (fun h k => h.trans k) (KeepsBut.put (by omega)) (Below.refl _ _) (fun _ => rfl)
      (MsI w w2.heap.size #[.int .i64 mn, .int .i64 mx, .int .i64 sw, .slice A ts.length ca, .slice B ls.length cb, .slice D hs.length cd]) (MsX w) (msI_own (by omega) (by omega)) (msX_own (by omega)) hI0
      (fun x a' W => ∃ q, a' = { tmps := #[.agg #[.int .i64 mn, .int .i64 mx, .int .i64 sw, .slice A ts.length ca, .slice B ls.length cb, .slice D hs.length cd], .slice T ms.length tc, .pointer (some ⟨w.heap.size, 0, none⟩), undef, .pointer (some ⟨w.heap.size + 1, 0, none⟩), .pointer (some ⟨w.heap.size + 1 + 1, 0, none⟩), .int .i64 0, .pointer (some ⟨w2.heap.size + 1, 0, none⟩), .pointer (some ⟨w2.heap.size + 1 + 1 + 1, 0, none⟩), .int .i64 x.1.1, .pointer (some ⟨q, 0, none⟩), undef, undef, .agg #[.int .i64 mn, .int .i64 mx, .int .i64 sw, .slice A ts.length ca, .slice B ls.length cb, .slice D hs.length cd], .int .i64 0, .int .i64 0, .bool false, undef, .agg #[.int .i64 mn, .int .i64 mx, .int .i64 sw, .slice A ts.length ca, .slice B ls.length cb, .slice D hs.length cd], .agg #[.int .i64 mn, .int .i64 mx, .int .i64 sw, .slice A ts.length ca, .slice B ls.length cb, .slice D hs.length cd], .pointer (some ⟨w2.heap.size, 0, none⟩), .map (some (w2.heap.size + 1 + 1)), .pointer (some ⟨w2.heap.size, 0, none⟩), .slice T ms.length tc, .func (.func 73) #[] #[.pointer (some ⟨w2.heap.size + 1 + 1 + 1 + 1 + 1, 0, none⟩), .pointer (some ⟨w2.heap.size + 1 + 1 + 1 + 1, 0, none⟩)], .int .i64 x.1.1, mkv x.1.2, undef, undef, undef, undef, undef, undef, undef, undef, undef, undef, undef, undef, undef, undef, undef, undef, undef, undef, undef, undef, undef, undef, undef, undef, undef, undef, undef, undef, undef, undef, undef, undef, undef], defers := [] } ∧ W.heap[q]? = some (.cells #[.int .i64 x.1.2.time, .int .u8 x.1.2.kind, .int .i64 x.1.2.who, .int .i64 x.1.2.a] 121 (0, 0)) ∧ w2.heap.size + 6 ≤ q)
      (fun x a' s W W' row hs hg hr => by
        obtain ⟨q, h1, h2, h3⟩ := hs
        refine ⟨q, h1, box_grown hg h2 (fun e => ?_), h3⟩
        obtain ⟨_, o, ho, hc⟩ := hr q e
        rw [h2] at ho
        cases ho
        cases hc)
      ?assign ?body ?done ?stop)
    case assign =>
      rintro l pre ⟨⟨i, ⟨m0, m1, m2, m3⟩⟩, hxx⟩ W K hI hK
      have hs := hI.low.size
      dsimp only [pmv, mkv]
      gi_wp2
      refine hK _ _ ((ko_alloc (KeepsOthers.refl W) _).from _) ((KeepsBut.refl W).alloc hs _) ?_ ⟨W.heap.size, rfl, heap_alloc_new W _, hI.size⟩
      have hsz := hI.size
      exact ⟨hI.ok, hI.map.kept (World.grownBy_alloc _ _ none) (by simp), box_alloc hI.r1 _, box_alloc hI.r2 _, box_alloc hI.deal _, box_alloc hI.dp _, box_alloc hI.mp _, hI.low.alloc hs _, Nat.le_trans hI.size (by simp)⟩
    case body =>
      rintro l pre ⟨⟨i, ⟨m0, m1, m2, m3⟩⟩, hc, ht64, hw64⟩ a' W hl _ hI ⟨q, rfl, hq, hq6⟩ hlen
      have hin := comes_in hc
      dsimp only [mkv] at hq hc ht64 hw64 hin ⊢
      obtain ⟨r, rfl, hr2⟩ := inR_get hin
      have HA : Hid (∀ o, fOf pre (r : Int) = o → arOk pre ⟨(i, ⟨m0, m1, r, m3⟩), hc, ht64, hw64⟩ = farB ts o ⟨m0, m1, r, m3⟩) := Lib.hid (fun o h => by unfold arOk; rw [← h])
      have hlook := hI.map.look hw64
      have hs6 : w2.heap.size + 6 ≤ W6.heap.size := by omega
      clear hit hI0 hB6 hz6
      have hlen' : pre.length < 1048576 := by omega
      have HI := Lib.hid hI; clear hI
      obtain ⟨gx, gy⟩ := box_rules hq
      obtain ⟨dx, dy⟩ := box_rules HI.out.deal
      obtain ⟨px, py⟩ := box_rules HI.out.dp
      obtain ⟨nx, ny⟩ := box_rules HI.out.mp
      obtain ⟨r1x, r1y⟩ := box_rules HI.out.r1
      obtain ⟨r2x, r2y⟩ := box_rules HI.out.r2
      obtain ⟨a5, t5, e5, ht5, ⟨k0, k1, k2, k3⟩, k4⟩ := (Ht.out.below HI.out.low).tkAt hr2
      subst e5
      unfold farB perOf at HA
      dsimp only at HA
      rw [show ((r : Int)).toNat = r from rfl, ht5] at HA
      clear ht5 k4 k0 k1 k3 hin hl hlen
      obtain ⟨t50, t51, t52, t53, t54, t55, t56, t57, t58, t59⟩ := t5
      dsimp only at k2 HA
      have HQ := Lib.hid hq; clear hq
      generalize hfo : fOf pre (r : Int) = o at hlook
      have HV := Lib.hid (HA.out o hfo)
      clear HA hfo
      cases o with
      | none =>
        dsimp only at HV
        simp only [Option.getD_none, Option.isSome_none] at hlook
        gi_wp2_with fail
        refine round_quiet (by repeat (first | exact letsOut_own | refine letsOut_then ?_ | refine letsOut_block ?_)) (by kernel_rfl) (by kernel_rfl) (by kernel_rfl) ?_
        repeat ((with_reducible refine wpQuiet_step (fun K hK => ?_)); go_simp; (first | ((with_reducible refine hK _ ?_); clear hK K) | (apply Exists.intro; (with_reducible refine ⟨fun _ => ?_, hK _ ?_⟩); (fail); clear hK K)))
        (with_reducible refine wpQuiet_nil ?_)
        intro _ hw'
        obtain ⟨nq, hw''⟩ := hw'
        subst hw''
        obtain ⟨w9, hrun, hm9, hg9⟩ := ((HI.out.map.same rfl : MapI (W.drewN nq) _ _ _)).put (Nat.lt_of_lt_of_le hlen' (by unfold maxLen; omega)) hw64 ht64
        have HM9 := Lib.hid hm9; have HG9 := Lib.hid hg9
        clear hm9 hg9
        gi_wp2_with fail
        refine ⟨?_, ?_, msI_put HI.out s2 HV.out HM9.out HG9.out⟩
        · exact (ko_drewN (KeepsOthers.refl W) nq).from _ |>.trans (KeepsFrom.of_grownBy HG9.out (fun k e => by cases e; omega))
        · exact (KeepsBut.refl W).drewN nq |>.grown HG9.out (by have := HI.out.size; show _ ≤ W.heap.size; omega) (by omega) (by simp)
      | some tl =>
        dsimp only at HV
        simp only [Option.getD_some, Option.isSome_some] at hlook
        have fA := Lib.hid (fun w => apart_any m0 tl t52 w)
        generalize apartB m0 tl t52 = v at *
        cases v with
        | true =>
          gi_wp2_with fail
          refine round_quiet (by repeat (first | exact letsOut_own | refine letsOut_then ?_ | refine letsOut_block ?_)) (by kernel_rfl) (by kernel_rfl) (by kernel_rfl) ?_
          repeat ((with_reducible refine wpQuiet_step (fun K hK => ?_)); go_simp; (first | ((with_reducible refine hK _ ?_); clear hK K) | (apply Exists.intro; (with_reducible refine ⟨fun _ => ?_, hK _ ?_⟩); ((go_at_call 48; exact Calls.quiet_of_same ((fA.out _).mono fun _ _ ⟨a, b⟩ => ⟨a, b.symm⟩))); clear hK K)))
          (with_reducible refine wpQuiet_nil ?_)
          intro _ hw'
          obtain ⟨nq, hw''⟩ := hw'
          subst hw''
          obtain ⟨w9, hrun, hm9, hg9⟩ := ((HI.out.map.same rfl : MapI (W.drewN nq) _ _ _)).put (Nat.lt_of_lt_of_le hlen' (by unfold maxLen; omega)) hw64 ht64
          have HM9 := Lib.hid hm9; have HG9 := Lib.hid hg9
          clear hm9 hg9
          gi_wp2_with fail
          refine ⟨?_, ?_, msI_put HI.out s2 HV.out HM9.out HG9.out⟩
          · exact (ko_drewN (KeepsOthers.refl W) nq).from _ |>.trans (KeepsFrom.of_grownBy HG9.out (fun k e => by cases e; omega))
          · exact (KeepsBut.refl W).drewN nq |>.grown HG9.out (by have := HI.out.size; show _ ≤ W.heap.size; omega) (by omega) (by simp)
        | false =>
          gi_wp2_with fail
          refine round_quiet (by repeat (first | exact letsOut_own | refine letsOut_then ?_ | refine letsOut_block ?_)) (by kernel_rfl) (by kernel_rfl) (by kernel_rfl) ?_
          repeat ((with_reducible refine wpQuiet_step (fun K hK => ?_)); go_simp; (first | ((with_reducible refine hK _ ?_); clear hK K) | (apply Exists.intro; (with_reducible refine ⟨fun _ => ?_, hK _ ?_⟩); ((go_at_call 48; exact Calls.quiet_of_same ((fA.out _).mono fun _ _ ⟨a, b⟩ => ⟨a, b.symm⟩))); clear hK K)))
          (with_reducible refine wpQuiet_nil ?_)
          intro _ hw'
          obtain ⟨nq, hw''⟩ := hw'
          subst hw''
          gi_wp2_with fail
          refine ⟨?_, rfl, pre, _, rfl, HI.out.ok, HV.out, ?_, ?_, ?_⟩
          · exact (ko_set (ko_set (ko_drewN (KeepsOthers.refl W) _) _ _) _ _).from _
          · exact box_far (box_set (t := 3) (cs := #[.int .i64 0]) (i := 0) (show (W.drewN nq).heap[w.heap.size + 1]? = _ from HI.out.r1) _) (p := ⟨w.heap.size + 1 + 1, 0, none⟩) (by show _ ≠ w.heap.size + 1 + 1; omega) _
          · exact box_set (t := 30) (cs := #[.int .i64 0]) (i := 0) (box_far (show (W.drewN nq).heap[w.heap.size + 1 + 1]? = _ from HI.out.r2) (p := ⟨w.heap.size + 1, 0, none⟩) (by show _ ≠ w.heap.size + 1; omega) _) _
          · exact (((bdrewN HI.out.low nq).setCell (p := ⟨w.heap.size + 1, 0, none⟩) (by show _ ≤ w.heap.size + 1; omega) _).setCell (p := ⟨w.heap.size + 1 + 1, 0, none⟩) (by show _ ≤ w.heap.size + 1 + 1; omega) _)
    case done =>
      intro D' xs W hD hS hI hK
      have HN : Hid (marksN ts ms = ms.length) := Lib.hid (marks_done H64.out (hS ▸ hI.ok))
      have HI := Lib.hid hI; clear hI
      obtain ⟨kx, ky⟩ := box_rules HI.out.r1
      obtain ⟨mx', my'⟩ := box_rules HI.out.r2
      clear hit hI0 hB6
      dsimp only
      go_wp2
      have h1 : ∀ N, ((W.setCell ⟨w.heap.size + 1, 0, none⟩ N).setCell ⟨w.heap.size + 1 + 1, 0, none⟩ (.int .i64 0)).heap[w.heap.size + 1]? = some (.cells #[N] 3 (0, 0)) := fun N =>
        box_far (box_set (t := 3) (cs := #[.int .i64 0]) (i := 0) HI.out.r1 N) (p := ⟨w.heap.size + 1 + 1, 0, none⟩) (by show _ ≠ w.heap.size + 1 + 1; omega) _
      have h2 : ∀ N, ((W.setCell ⟨w.heap.size + 1, 0, none⟩ N).setCell ⟨w.heap.size + 1 + 1, 0, none⟩ (.int .i64 0)).heap[w.heap.size + 1 + 1]? = some (.cells #[.int .i64 0] 30 (0, 0)) := fun N =>
        box_set (t := 30) (cs := #[.int .i64 0]) (i := 0) (box_far HI.out.r2 (p := ⟨w.heap.size + 1, 0, none⟩) (by show _ ≠ w.heap.size + 1; omega) N) _
      have h3 : ∀ N, ((W.setCell ⟨w.heap.size + 1, 0, none⟩ N).setCell ⟨w.heap.size + 1 + 1, 0, none⟩ (.int .i64 0)).heap[D']? = some (.deferred (some [])) := fun N =>
        box_far (box_far hK (p := ⟨w.heap.size + 1, 0, none⟩) (by show _ ≠ w.heap.size + 1; omega) N) (p := ⟨w.heap.size + 1 + 1, 0, none⟩) (by show _ ≠ w.heap.size + 1 + 1; omega) _
      have h4 : ∀ N, Below w.heap.size w ((W.setCell ⟨w.heap.size + 1, 0, none⟩ N).setCell ⟨w.heap.size + 1 + 1, 0, none⟩ (.int .i64 0)) := fun N =>
        ((HI.out.low.setCell (p := ⟨w.heap.size + 1, 0, none⟩) (by show _ ≤ w.heap.size + 1; omega) N).setCell (p := ⟨w.heap.size + 1 + 1, 0, none⟩) (by show _ ≤ w.heap.size + 1 + 1; omega) _)
      have kk1 := (h1 (.int .i64 (ms.length : Int)))
      have kk2 := (h2 (.int .i64 (ms.length : Int)))
      obtain ⟨p1, _⟩ := box_rules ((World.putObj_heap_other (o := .deferred none) (by omega : w.heap.size + 1 ≠ D')).trans kk1)
      obtain ⟨p2, _⟩ := box_rules ((World.putObj_heap_other (o := .deferred none) (by omega : w.heap.size + 1 + 1 ≠ D')).trans kk2)
      refine post_mark (v := .tuple #[(.int .i64 (ms.length : Int)), .int .i64 0]) (h3 (.int .i64 (ms.length : Int))) (by simp [results, Try.f18, go_sem, p1, p2]) ?_
      exact ⟨by rw [HN.out]; rfl, ((h4 (.int .i64 (ms.length : Int)))).trans ((Below.refl _ _).grown (grownBy_putObj' _ D' _) ((h4 (.int .i64 (ms.length : Int)))).size (fun k e => by cases e; omega))⟩
    case stop =>
      rintro D' c pre W hD hS ⟨rfl, pre', x, rfl, g1, g2, g3, g4, g5⟩ hK
      have HN : Hid (marksN ts ms = x.1.1) := Lib.hid (marks_stop H64.out hS g1 g2)
      clear hit hI0 hB6 hS
      dsimp only
      refine (wpIn_wide (n := 9)).2 ?_
      go_wp2
      have kk1 := g3
      have kk2 := g4
      obtain ⟨p1, _⟩ := box_rules ((World.putObj_heap_other (o := .deferred none) (by omega : w.heap.size + 1 ≠ D')).trans kk1)
      obtain ⟨p2, _⟩ := box_rules ((World.putObj_heap_other (o := .deferred none) (by omega : w.heap.size + 1 + 1 ≠ D')).trans kk2)
      refine post_mark (v := .tuple #[(.int .i64 (x.1.1 : Int)), .int .i64 0]) hK (by simp [results, Try.f18, go_sem, p1, p2]) ?_
      exact ⟨by rw [HN.out]; rfl, (g5).trans ((Below.refl _ _).grown (grownBy_putObj' _ D' _) (g5).size (fun k e => by cases e; omega))⟩
  · have hy1 : (y != 0) = true := by simpa using hy0
    have HZ := Lib.hid (retC_no hy0 (marksN ts ms))
    clear hy0
    obtain ⟨kx, ky⟩ := box_rules HR1.out
    obtain ⟨mx', my'⟩ := box_rules HR2.out
    go_wp2
    have h1 : ((w2.setCell ⟨w.heap.size + 1, 0, none⟩ (.int .i64 0)).setCell ⟨w.heap.size + 1 + 1, 0, none⟩ (.int .i64 y)).heap[w.heap.size + 1]? = some (.cells #[.int .i64 0] 3 (0, 0)) :=
      box_far (box_set (t := 3) (cs := #[.int .i64 0]) (i := 0) HR1.out _) (p := ⟨w.heap.size + 1 + 1, 0, none⟩) (by show _ ≠ w.heap.size + 1 + 1; omega) _
    have h2 : ((w2.setCell ⟨w.heap.size + 1, 0, none⟩ (.int .i64 0)).setCell ⟨w.heap.size + 1 + 1, 0, none⟩ (.int .i64 y)).heap[w.heap.size + 1 + 1]? = some (.cells #[.int .i64 y] 30 (0, 0)) :=
      box_set (t := 30) (cs := #[.int .i64 0]) (i := 0) (box_far HR2.out (p := ⟨w.heap.size + 1, 0, none⟩) (by show _ ≠ w.heap.size + 1; omega) _) _
    have h4 : Below w.heap.size w ((w2.setCell ⟨w.heap.size + 1, 0, none⟩ (.int .i64 0)).setCell ⟨w.heap.size + 1 + 1, 0, none⟩ (.int .i64 y)) :=
      ((HB.out.setCell (p := ⟨w.heap.size + 1, 0, none⟩) (by show _ ≤ w.heap.size + 1; omega) _).setCell (p := ⟨w.heap.size + 1 + 1, 0, none⟩) (by show _ ≤ w.heap.size + 1 + 1; omega) _)
    obtain ⟨p1, _⟩ := box_rules h1
    obtain ⟨p2, _⟩ := box_rules h2
    refine post_plain (v := .tuple #[.int .i64 0, .int .i64 y]) (by simp [results, Try.f18, go_sem, p1, p2]) ?_
    exact ⟨by rw [HZ.out], h4⟩
end Go.Proofs.Ytpdanmdpaanafaa
